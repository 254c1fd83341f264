/- ClockAlone: one put, whatever the packet. ClockAlone: the loop. ClockAlone: the whole. ClockAlone: the call. The statement: ClockAlone returns true, for every slice of packets; the argument reads behind the call as it read before. -/
import Derived.Test.YtlipmhhndhhgdaaJClockAloneSaid4
import Derived.OpenShut
import Derived.Test.YtlipmhhndhhgdaaJClockAloneSaid2
import Derived.Test.YtlipmhhndhhgdaaRows
import Derived.ChangeOld
import Derived.Carry
import Derived.Below

set_option linter.unusedSimpArgs false
set_option linter.unusedVariables false
namespace Go.Ab
open Go.Proofs

/-- May the packet's numbers be. -/
def inr (F Z A : Nat → Int) (i : Nat) : Prop := (0 ≤ F i ∧ F i ≤ 2147483647) ∧ (1 ≤ Z i ∧ Z i ≤ 2000) ∧ (0 ≤ A i ∧ A i ≤ 2147483647)
instance (F Z A : Nat → Int) (i : Nat) : Decidable (inr F Z A i) := inferInstanceAs (Decidable ((0 ≤ F i ∧ F i ≤ 2147483647) ∧ (1 ≤ Z i ∧ Z i ≤ 2000) ∧ (0 ≤ A i ∧ A i ≤ 2147483647)))

/-- What Put answers. -/
def rs (R : Int → Nat) (F Z A : Nat → Int) (i : Nat) : Int × Int × Int :=
  if vd F Z A i then (((fN (ck R F Z A (F i) (i + 1)) (R (F i)) : Nat) : Int), ((fD (ck R F Z A (F i) (i + 1)) (R (F i)) : Nat) : Int), 0) else if inr F Z A i then (0, 0, 5) else (0, 0, 2)

def OneR (σ : St) (b : QB) (Q : QV) (R : Int → Nat) (F Z A : Nat → Int) (i k lo : Nat) (σ' : St) (l : Log) : Prop :=
  (∀ c ∈ l, Foot b Q c ∨ σ.next ≤ c) ∧ ∃ b1 Q1, b1.q = b.q ∧ BQ σ' b1 Q1 (i + 1) lo ∧ (∀ c, Foot b1 Q1 c → Foot b Q c ∨ σ.next ≤ c) ∧ (∀ f, FL Q R F Z A i k f → FL Q1 R F Z A (i + 1) (k + 1) f) ∧ (∀ f : Int, ¬ (1 ≤ f ∧ f ≤ 3) → Q.F f = none → Q1.F f = none) ∧ (∀ f last, IL Q R F Z A i f last → IL Q1 R F Z A (i + 1) f last)

theorem refused_one {σ : St} {b : QB} {Q : QV} {R : Int → Nat} {F Z A : Nat → Int} {i k lo : Nat} (H : BQ σ b Q i lo) (hv : ¬ vd F Z A i) {no : Int} {e : AE} {σ' : St} {l : Log} (hl : Logged σ σ' l) (h : Refused σ no e σ' l) :
    e = .ret (.tuple ⟨[.agg ⟨[.int .i64 0, .int .i64 0]⟩, .int .i64 no]⟩) ∧ OneR σ b Q R F Z A i k lo σ' l :=
  ⟨h.1, fun c hc => .inr (h.2 c hc), b, Q, rfl, (H.keep hl.1 fun c _ hc => hl.2 c hc fun hm => by have := h.2 c hm; omega).next, fun c hc => .inl hc, fun f hf => hf.not fun hn => hv hn.2, fun f _ h => h, fun f last h => h.next⟩

theorem one_put {σ : St} {b : QB} {Q : QV} {R : Int → Nat} {F Z A : Nat → Int} {i k lo : Nat} (H : BQ σ b Q i lo) (hi : i < 40) (hk : k ≤ 80) (hR : ∀ f : Int, 1 ≤ f → f ≤ 3 → 1 ≤ R f ∧ R f ≤ 1000000)
    (hfl : vd F Z A i → FL Q R F Z A i k (F i)) (hno : ¬ (1 ≤ F i ∧ F i ≤ 3) → Q.F (F i) = none) (hlo : lo ≤ σ.next) :
    callX Try.prog 25 [.pointer (some ⟨b.q, 0, none⟩), .agg ⟨[.int .i64 ((i + 1 : Nat) : Int), .int .i64 (F i), .int .i64 (Z i)]⟩, .int .i64 (A i)] σ fun e σ' l =>
      e = .ret (.tuple ⟨[.agg ⟨[.int .i64 (rs R F Z A i).1, .int .i64 (rs R F Z A i).2.1]⟩, .int .i64 (rs R F Z A i).2.2]⟩) ∧ OneR σ b Q R F Z A i k lo σ' l := by
  by_cases hv : vd F Z A i
  · obtain ⟨x, hx, hx1, hx2, hb1, hb2, hx5, hx6⟩ := hfl hv
    have hv' := hv
    obtain ⟨h1, h2, h3⟩ := hv'
    have hRf := hR (F i) h1.1 h1.2
    have hS := ck_le (R := R) (F := F) (Z := Z) (A := A) (f := F i) hRf.2 i
    have ez : Z i = ((Z i).toNat : Int) := by omega
    have ea : A i = ((A i).toNat : Int) := by omega
    have hput := qput_call H.at' ((i + 1 : Nat) : Int) (F i) (Z i).toNat (A i).toNat (ck R F Z A (F i) i) (R (F i)) hx (H.free _ (by omega)) (by omega) (by omega) (by omega) (by omega) hx1 hx5 hx6 hRf (by omega) (by omega) (by omega) (by omega) (by have := H.np; omega) (fun y hy => by have := H.ids y hy; omega) (by have := H.len; omega) (by have := H.t; omega)
    rw [← ez, ← ea, ← ck_put rfl hv] at hput
    have er : rs R F Z A i = (((fN (ck R F Z A (F i) (i + 1)) (R (F i)) : Nat) : Int), ((fD (ck R F Z A (F i) (i + 1)) (R (F i)) : Nat) : Int), 0) := if_pos hv
    rw [er]
    refine hput.use fun e σ' l hl ⟨he, hP⟩ => ⟨he, ?_⟩
    obtain ⟨hlog, A', HB, hft⟩ := H.put hx hlo hP
    have hd0 : 0 < ((fD (ck R F Z A (F i) (i + 1)) (R (F i)) : Nat) : Int) := by
      have := fD_pos (a := ck R F Z A (F i) (i + 1)) (r := R (F i)) hRf.1
      omega
    refine ⟨hlog, { b with A := A' }, _, rfl, HB, hft, fun f hf => hf.put hx hv rfl rfl rfl, fun f hf hn => ?_, fun f last hil => hil.put H.at'.hx.toV.pos hv rfl rfl rfl hd0⟩
    have e : ¬ f = F i := fun e => hf (e ▸ h1)
    show updF Q.F (F i) _ f = none
    simp only [updF, e, if_false]
    exact hn
  · by_cases hin : inr F Z A i
    · have er : rs R F Z A i = (0, 0, 5) := by unfold rs; rw [if_neg hv, if_pos hin]
      rw [er]
      have h13 : ¬ (1 ≤ F i ∧ F i ≤ 3) := fun h => hv ⟨h, hin.2⟩
      exact (qput_none H.at' ((i + 1 : Nat) : Int) (F i) (Z i) (A i) (H.free _ (by omega)) (by omega) (hno h13) hin.1 hin.2.1 hin.2.2).use fun e σ' l hl h => refused_one H hv hl h
    · have er : rs R F Z A i = (0, 0, 2) := by unfold rs; rw [if_neg hv, if_neg hin]
      rw [er]
      exact (qput_arg H.at' ((i + 1 : Nat) : Int) (F i) (Z i) (A i) (H.free _ (by omega)) (by omega) hin).use fun e σ' l hl h => refused_one H hv hl h

end Go.Ab

set_option linter.unusedSimpArgs false
set_option linter.unusedVariables false
namespace Go.Ab
open Go.Proofs



def I5B (g0 : Option AObj) (sa : Option Addr) (len cap ra xa : Nat) (Rs : Nat → Int) (x0 x1 : Int) (R : Int → Nat) (F Z A : Nat → Int) (lo : Nat) (m : Nat) (fr : Fr) (σ : St) : Prop :=
  ∃ ts b Q b' Q', ∃ i : Nat, ∃ last : Int, fr = ⟨ts, []⟩ ∧ F5B ts sa len cap ra xa b.q b'.q i last ∧ m + i = len + 1 ∧ i ≤ len ∧ Low5 σ g0 ra xa Rs x0 x1 lo ∧ S5 σ b Q b' Q' R F Z A x0 i (2 * i) last lo

def E5B (x : AX) (fr : Fr) (_ : St) : Prop := x = .exit 2 ∧ ∃ ts, fr = ⟨ts, []⟩ ∧ ts.length = 149

set_option maxHeartbeats 1000000 in
set_option maxRecDepth 20000 in
theorem alone_other {len cap ra xa : Nat} {Rs : Nat → Int} {x0 x1 : Int} {lo : Nat} {ts : List Value} {σ : St} {b b' : QB} {Q Q' : QV} {R : Int → Nat} {F Z A : Nat → Int} {i m : Nat} {last : Int} {vs : List Value} {id0 : Int}
    (hR : ∀ f : Int, 1 ≤ f → f ≤ 3 → 1 ≤ R f ∧ R f ≤ 1000000) (hx1 : 1 ≤ x1) (hx0 : 1 ≤ x0 ∧ x0 ≤ 3) (hi : i < len) (hlen : len ≤ 40) (hmi : m + i = len + 1)
    (G : F5B ts (some ⟨0, 0, some 0⟩) len cap ra xa b.q b'.q i last) (hl : Low5 σ (some (.cells vs true)) ra xa Rs x0 x1 lo) (S : S5 σ b Q b' Q' R F Z A x0 i (2 * i) last lo)
    (a1 : (vs.drop (i * 7 + 1)).take 3 = [.int .i64 id0, .int .i64 (F i), .int .i64 (Z i)]) (a2 : i * 7 + 1 + 3 ≤ vs.length) (a3 : lget? vs (i * 7 + 6) = some (.int .i64 (A i))) (hf : ¬ F i = x0) :
    wp (cP Try.prog) q8 (btAll 5) false aloneB ⟨ts, []⟩ σ (stepW (I5B (some (.cells vs true)) (some ⟨0, 0, some 0⟩) len cap ra xa Rs x0 x1 R F Z A lo) E5B (fun c => lo ≤ c) m) := by
  obtain ⟨F5, e10, e11⟩ := G
  have e0 := F5.t0
  have e4 := F5.t4
  have e5 := F5.t5
  have e7 := F5.t7
  have e8 := F5.t8
  have el := F5.size
  have gx := hl.gx
  have g0 := hl.g0
  have hpos := hl.pos
  have hlo := hl.next
  have hxl : xa < σ.next := by have := hl.lxa; omega
  have nz : ¬ σ.next = 0 := by omega
  have c1 : (i : Int) < (len : Int) := by omega
  have c2 : (0 : Int) ≤ (i : Int) := by omega
  have w1 : IntKind.i64.wrap ((i : Int) + 1) = ((i + 1 : Nat) : Int) := by
    have : (i : Int) + 1 = ((i + 1 : Nat) : Int) := by omega
    rw [this]; exact wrapIN (by omega)
  have hf' : (F i == x0) = false := by simpa using hf
  have an : ∀ l : List Nat, (l.any fun _ => false) = false := fun l => by simp
  rw [aloneB_is]
  simp only [go_sem, Nat.reducePow, Nat.reduceDiv, Nat.reduceMod, Nat.reduceAdd, Nat.reduceSub, Nat.reduceMul, Nat.reduceLeDiff, Nat.reduceLT, Nat.reduceEqDiff, reduceCtorEq, reduceIte, reduceDIte, if_pos rfl, Int.reduceLT, Int.reduceLE, Int.reduceEq, Int.reduceNeg, Int.reduceAdd, Int.reduceSub, Int.reduceMul, Int.reduceToNat, opLen, callW, q8, p8, p7, p6, p5, p4, p3, p2, p1, undef, aloneX, aloneB, blockOf, nthC, loopOf, Try.f5, Option.getD, lget_put, lgetq_put, List.length_set, Int.toNat_natCast, e0, e5, e7, e8, e10, e11, el, hxl, gx, g0, nz, c1, c2, a1, a2, a3, w1]
  generalize hσ : ((σ.new (.cells [.int .i64 0, .int .i64 0, .int .i64 0] false)).set σ.next (.cells [.int .i64 id0, .int .i64 (F i), .int .i64 (Z i)] false)).set σ.next (.cells [.int .i64 ((i + 1 : Nat) : Int), .int .i64 (F i), .int .i64 (Z i)] false) = σa
  have na : σa.next = σ.next + 1 := by rw [← hσ]; simp only [go_sem, Nat.reducePow, Nat.reduceDiv, Nat.reduceMod, Nat.reduceAdd, Nat.reduceSub, Nat.reduceMul, Nat.reduceLeDiff, Nat.reduceLT, Nat.reduceEqDiff, reduceCtorEq, reduceIte, reduceDIte, if_pos rfl, Int.reduceLT, Int.reduceLE, Int.reduceEq, Int.reduceNeg, Int.reduceAdd, Int.reduceSub, Int.reduceMul, Int.reduceToNat, opLen]
  have ka : ∀ c, c < σ.next → σa.get c = σ.get c := fun c hc => by
    have q1 : ¬ σ.next = c := by omega
    rw [← hσ]
    simp only [go_sem, Nat.reducePow, Nat.reduceDiv, Nat.reduceMod, Nat.reduceAdd, Nat.reduceSub, Nat.reduceMul, Nat.reduceLeDiff, Nat.reduceLT, Nat.reduceEqDiff, reduceCtorEq, reduceIte, reduceDIte, if_pos rfl, Int.reduceLT, Int.reduceLE, Int.reduceEq, Int.reduceNeg, Int.reduceAdd, Int.reduceSub, Int.reduceMul, Int.reduceToNat, opLen, hc, q1]
  have ya : σa.get σ.next = some (.cells [.int .i64 ((i + 1 : Nat) : Int), .int .i64 (F i), .int .i64 (Z i)] false) := by
    rw [← hσ]
    simp only [go_sem, Nat.reducePow, Nat.reduceDiv, Nat.reduceMod, Nat.reduceAdd, Nat.reduceSub, Nat.reduceMul, Nat.reduceLeDiff, Nat.reduceLT, Nat.reduceEqDiff, reduceCtorEq, reduceIte, reduceDIte, if_pos rfl, Int.reduceLT, Int.reduceLE, Int.reduceEq, Int.reduceNeg, Int.reduceAdd, Int.reduceSub, Int.reduceMul, Int.reduceToNat, opLen]
  have hla := hl.grow (σ' := σa) (by omega) ka
  have Sa := S.grow (σ' := σa) (by omega) ka
  have yn : ∀ c, Foot b Q c → c < σ.next := fun c hc => S.q.at'.in_foot hc
  have yn' : ∀ c, Foot b' Q' c → c < σ.next := fun c hc => S.o.at'.in_foot hc
  clear hσ
  refine callX.hid (one_put Sa.q (k := 2 * i) (by omega) (by omega) hR (fun hv => Sa.fl (F i) hv.1.1 hv.1.2) (fun h => Sa.no _ h) (by omega)) ?_
  intro σ1 lg1 hlg1 hone
  obtain ⟨hlog1, b1, Q1, hb1, HB, hft, hFL, hNO, hIL⟩ := hone
  have n1 := hlg1.1
  have lo1 : ∀ c ∈ lg1, lo ≤ c := fun c hc => by
    rcases hlog1 c hc with h | h
    · exact S.q.foot c h
    · omega
  have hl1 : Low5 σ1 (some (.cells vs true)) ra xa Rs x0 x1 lo := hla.keep hlg1 lo1
  have y1 : σ1.get σ.next = some (.cells [.int .i64 ((i + 1 : Nat) : Int), .int .i64 (F i), .int .i64 (Z i)] false) := (hlg1.2 _ (by omega) fun hm => by
    rcases hlog1 _ hm with h | h
    · have := yn _ h; omega
    · omega).trans ya
  have y1l : σ.next < σ1.next := by omega
  have o1 : BQ σ1 b' Q' i lo := Sa.o.keep n1 (Sa.dj.log hlg1 hlog1)
  have dj1 : Disj b1 Q1 b' Q' := Sa.dj.left hft fun c hc => Sa.o.at'.in_foot hc
  have gx1 := hl1.gx
  have g01 := hl1.g0
  have hxl1 : xa < σ1.next := by omega
  have nz1 : ¬ σ1.next = 0 := by omega
  have il1 := hIL x0 last S.il
  have fl1 : ∀ f : Int, 1 ≤ f → f ≤ 3 → FL Q1 R F Z A (i + 1) (2 * i + 1) f := fun f h1 h2 => hFL f (S.fl f h1 h2)
  have no1 : ∀ f : Int, ¬ (1 ≤ f ∧ f ≤ 3) → Q1.F f = none := fun f h => hNO f h (S.no f h)
  clear hIL hFL hNO
  refine ⟨?_⟩
  simp only [go_sem, Nat.reducePow, Nat.reduceDiv, Nat.reduceMod, Nat.reduceAdd, Nat.reduceSub, Nat.reduceMul, Nat.reduceLeDiff, Nat.reduceLT, Nat.reduceEqDiff, reduceCtorEq, reduceIte, reduceDIte, if_pos rfl, Int.reduceLT, Int.reduceLE, Int.reduceEq, Int.reduceNeg, Int.reduceAdd, Int.reduceSub, Int.reduceMul, Int.reduceToNat, opLen, callW, q8, p8, p7, p6, p5, p4, p3, p2, p1, undef, lget_put, lgetq_put, List.length_set, Int.toNat_natCast, e0, e5, e7, e8, e10, e11, el, hxl1, gx1, g01, nz, nz1, c1, c2, a1, a2, a3, w1, y1, y1l, an, hf']
  refine alone_take (sa := some ⟨0, 0, some 0⟩) (len := len) (cap := cap) (ra := ra) (xa := xa) (g0 := some (.cells vs true)) (Rs := Rs) (x0 := x0) (x1 := x1) (lo := lo) (b := b1) (b' := b') (Q := Q1) (Q' := Q') (R := R) (F := F) (Z := Z) (A := A) (i := i) (k := 2 * i + 1) (last := last) (fun f h1 h2 => (hR f h1 h2).1) hx1 (by omega) (by omega) ?_ ?_ ?_ _ ?_
  · exact ⟨⟨by simp only [List.length_set, el], by simp only [go_sem, Nat.reducePow, Nat.reduceDiv, Nat.reduceMod, Nat.reduceAdd, Nat.reduceSub, Nat.reduceMul, Nat.reduceLeDiff, Nat.reduceLT, Nat.reduceEqDiff, reduceCtorEq, reduceIte, reduceDIte, if_pos rfl, Int.reduceLT, Int.reduceLE, Int.reduceEq, Int.reduceNeg, Int.reduceAdd, Int.reduceSub, Int.reduceMul, Int.reduceToNat, opLen, lget_put, List.length_set, el, e0], by simp only [go_sem, Nat.reducePow, Nat.reduceDiv, Nat.reduceMod, Nat.reduceAdd, Nat.reduceSub, Nat.reduceMul, Nat.reduceLeDiff, Nat.reduceLT, Nat.reduceEqDiff, reduceCtorEq, reduceIte, reduceDIte, if_pos rfl, Int.reduceLT, Int.reduceLE, Int.reduceEq, Int.reduceNeg, Int.reduceAdd, Int.reduceSub, Int.reduceMul, Int.reduceToNat, opLen, lget_put, List.length_set, el, e4], by simp only [go_sem, Nat.reducePow, Nat.reduceDiv, Nat.reduceMod, Nat.reduceAdd, Nat.reduceSub, Nat.reduceMul, Nat.reduceLeDiff, Nat.reduceLT, Nat.reduceEqDiff, reduceCtorEq, reduceIte, reduceDIte, if_pos rfl, Int.reduceLT, Int.reduceLE, Int.reduceEq, Int.reduceNeg, Int.reduceAdd, Int.reduceSub, Int.reduceMul, Int.reduceToNat, opLen, lget_put, List.length_set, el, e5], by simp only [go_sem, Nat.reducePow, Nat.reduceDiv, Nat.reduceMod, Nat.reduceAdd, Nat.reduceSub, Nat.reduceMul, Nat.reduceLeDiff, Nat.reduceLT, Nat.reduceEqDiff, reduceCtorEq, reduceIte, reduceDIte, if_pos rfl, Int.reduceLT, Int.reduceLE, Int.reduceEq, Int.reduceNeg, Int.reduceAdd, Int.reduceSub, Int.reduceMul, Int.reduceToNat, opLen, lget_put, List.length_set, el, e7, hb1], by simp only [go_sem, Nat.reducePow, Nat.reduceDiv, Nat.reduceMod, Nat.reduceAdd, Nat.reduceSub, Nat.reduceMul, Nat.reduceLeDiff, Nat.reduceLT, Nat.reduceEqDiff, reduceCtorEq, reduceIte, reduceDIte, if_pos rfl, Int.reduceLT, Int.reduceLE, Int.reduceEq, Int.reduceNeg, Int.reduceAdd, Int.reduceSub, Int.reduceMul, Int.reduceToNat, opLen, lget_put, List.length_set, el, e8]⟩, by simp only [go_sem, Nat.reducePow, Nat.reduceDiv, Nat.reduceMod, Nat.reduceAdd, Nat.reduceSub, Nat.reduceMul, Nat.reduceLeDiff, Nat.reduceLT, Nat.reduceEqDiff, reduceCtorEq, reduceIte, reduceDIte, if_pos rfl, Int.reduceLT, Int.reduceLE, Int.reduceEq, Int.reduceNeg, Int.reduceAdd, Int.reduceSub, Int.reduceMul, Int.reduceToNat, opLen, lget_put, List.length_set, el, e10], by simp only [go_sem, Nat.reducePow, Nat.reduceDiv, Nat.reduceMod, Nat.reduceAdd, Nat.reduceSub, Nat.reduceMul, Nat.reduceLeDiff, Nat.reduceLT, Nat.reduceEqDiff, reduceCtorEq, reduceIte, reduceDIte, if_pos rfl, Int.reduceLT, Int.reduceLE, Int.reduceEq, Int.reduceNeg, Int.reduceAdd, Int.reduceSub, Int.reduceMul, Int.reduceToNat, opLen, lget_put, List.length_set, el, e11]⟩
  · exact (hl1.grow (by simp only [go_sem, Nat.reducePow, Nat.reduceDiv, Nat.reduceMod, Nat.reduceAdd, Nat.reduceSub, Nat.reduceMul, Nat.reduceLeDiff, Nat.reduceLT, Nat.reduceEqDiff, reduceCtorEq, reduceIte, reduceDIte, if_pos rfl, Int.reduceLT, Int.reduceLE, Int.reduceEq, Int.reduceNeg, Int.reduceAdd, Int.reduceSub, Int.reduceMul, Int.reduceToNat, opLen] <;> omega) (fun c hc => by
    have q1 : ¬ σ1.next = c := by omega
    simp only [go_sem, Nat.reducePow, Nat.reduceDiv, Nat.reduceMod, Nat.reduceAdd, Nat.reduceSub, Nat.reduceMul, Nat.reduceLeDiff, Nat.reduceLT, Nat.reduceEqDiff, reduceCtorEq, reduceIte, reduceDIte, if_pos rfl, Int.reduceLT, Int.reduceLE, Int.reduceEq, Int.reduceNeg, Int.reduceAdd, Int.reduceSub, Int.reduceMul, Int.reduceToNat, opLen, hc, q1]))
  · exact (S5.grow (σ := σ1) ⟨HB, fl1, no1, il1, o1.next, S.fo.not (fun h => hf h.1), dj1⟩ (by simp only [go_sem, Nat.reducePow, Nat.reduceDiv, Nat.reduceMod, Nat.reduceAdd, Nat.reduceSub, Nat.reduceMul, Nat.reduceLeDiff, Nat.reduceLT, Nat.reduceEqDiff, reduceCtorEq, reduceIte, reduceDIte, if_pos rfl, Int.reduceLT, Int.reduceLE, Int.reduceEq, Int.reduceNeg, Int.reduceAdd, Int.reduceSub, Int.reduceMul, Int.reduceToNat, opLen] <;> omega) (fun c hc => by
    have q1 : ¬ σ1.next = c := by omega
    simp only [go_sem, Nat.reducePow, Nat.reduceDiv, Nat.reduceMod, Nat.reduceAdd, Nat.reduceSub, Nat.reduceMul, Nat.reduceLeDiff, Nat.reduceLT, Nat.reduceEqDiff, reduceCtorEq, reduceIte, reduceDIte, if_pos rfl, Int.reduceLT, Int.reduceLE, Int.reduceEq, Int.reduceNeg, Int.reduceAdd, Int.reduceSub, Int.reduceMul, Int.reduceToNat, opLen, hc, q1]))
  intro ts2 σ2 lg2 Q2 last2 G2 hl2 S2 hlog2 n2
  refine Hide.out ?_
  have e10' := G2.t10
  have e11' := G2.t11
  have d0 := G2.fr.t0
  have d4 := G2.fr.t4
  have d5 := G2.fr.t5
  have d7 := G2.fr.t7
  have d8 := G2.fr.t8
  have dl := G2.fr.size
  refine ⟨?_⟩
  simp only [go_sem, Nat.reducePow, Nat.reduceDiv, Nat.reduceMod, Nat.reduceAdd, Nat.reduceSub, Nat.reduceMul, Nat.reduceLeDiff, Nat.reduceLT, Nat.reduceEqDiff, reduceCtorEq, reduceIte, reduceDIte, if_pos rfl, Int.reduceLT, Int.reduceLE, Int.reduceEq, Int.reduceNeg, Int.reduceAdd, Int.reduceSub, Int.reduceMul, Int.reduceToNat, opLen, callW, q8, p8, p7, p6, p5, p4, p3, p2, p1, undef, lget_put, lgetq_put, List.length_set, Int.toNat_natCast, e10', e11', dl, w1]
  refine ⟨⟨by omega, by omega, fun c hc => ?_⟩, m - 1, by omega, _, b1, Q2, b', Q', i + 1, last2, rfl, ⟨⟨by simp only [List.length_set, dl], by simp only [go_sem, Nat.reducePow, Nat.reduceDiv, Nat.reduceMod, Nat.reduceAdd, Nat.reduceSub, Nat.reduceMul, Nat.reduceLeDiff, Nat.reduceLT, Nat.reduceEqDiff, reduceCtorEq, reduceIte, reduceDIte, if_pos rfl, Int.reduceLT, Int.reduceLE, Int.reduceEq, Int.reduceNeg, Int.reduceAdd, Int.reduceSub, Int.reduceMul, Int.reduceToNat, opLen, lget_put, List.length_set, dl, d0], by simp only [go_sem, Nat.reducePow, Nat.reduceDiv, Nat.reduceMod, Nat.reduceAdd, Nat.reduceSub, Nat.reduceMul, Nat.reduceLeDiff, Nat.reduceLT, Nat.reduceEqDiff, reduceCtorEq, reduceIte, reduceDIte, if_pos rfl, Int.reduceLT, Int.reduceLE, Int.reduceEq, Int.reduceNeg, Int.reduceAdd, Int.reduceSub, Int.reduceMul, Int.reduceToNat, opLen, lget_put, List.length_set, dl, d4], by simp only [go_sem, Nat.reducePow, Nat.reduceDiv, Nat.reduceMod, Nat.reduceAdd, Nat.reduceSub, Nat.reduceMul, Nat.reduceLeDiff, Nat.reduceLT, Nat.reduceEqDiff, reduceCtorEq, reduceIte, reduceDIte, if_pos rfl, Int.reduceLT, Int.reduceLE, Int.reduceEq, Int.reduceNeg, Int.reduceAdd, Int.reduceSub, Int.reduceMul, Int.reduceToNat, opLen, lget_put, List.length_set, dl, d5], by simp only [go_sem, Nat.reducePow, Nat.reduceDiv, Nat.reduceMod, Nat.reduceAdd, Nat.reduceSub, Nat.reduceMul, Nat.reduceLeDiff, Nat.reduceLT, Nat.reduceEqDiff, reduceCtorEq, reduceIte, reduceDIte, if_pos rfl, Int.reduceLT, Int.reduceLE, Int.reduceEq, Int.reduceNeg, Int.reduceAdd, Int.reduceSub, Int.reduceMul, Int.reduceToNat, opLen, lget_put, List.length_set, dl, d7], by simp only [go_sem, Nat.reducePow, Nat.reduceDiv, Nat.reduceMod, Nat.reduceAdd, Nat.reduceSub, Nat.reduceMul, Nat.reduceLeDiff, Nat.reduceLT, Nat.reduceEqDiff, reduceCtorEq, reduceIte, reduceDIte, if_pos rfl, Int.reduceLT, Int.reduceLE, Int.reduceEq, Int.reduceNeg, Int.reduceAdd, Int.reduceSub, Int.reduceMul, Int.reduceToNat, opLen, lget_put, List.length_set, dl, d8]⟩, by simp only [go_sem, Nat.reducePow, Nat.reduceDiv, Nat.reduceMod, Nat.reduceAdd, Nat.reduceSub, Nat.reduceMul, Nat.reduceLeDiff, Nat.reduceLT, Nat.reduceEqDiff, reduceCtorEq, reduceIte, reduceDIte, if_pos rfl, Int.reduceLT, Int.reduceLE, Int.reduceEq, Int.reduceNeg, Int.reduceAdd, Int.reduceSub, Int.reduceMul, Int.reduceToNat, opLen, lget_put, List.length_set, dl, e10'], by simp only [go_sem, Nat.reducePow, Nat.reduceDiv, Nat.reduceMod, Nat.reduceAdd, Nat.reduceSub, Nat.reduceMul, Nat.reduceLeDiff, Nat.reduceLT, Nat.reduceEqDiff, reduceCtorEq, reduceIte, reduceDIte, if_pos rfl, Int.reduceLT, Int.reduceLE, Int.reduceEq, Int.reduceNeg, Int.reduceAdd, Int.reduceSub, Int.reduceMul, Int.reduceToNat, opLen, lget_put, List.length_set, dl]⟩, by omega, by omega, hl2, by rw [show 2 * (i + 1) = 2 * i + 1 + 1 by omega]; exact S2⟩
  rcases hc with (hc | hc) | hc
  · exact lo1 c hc
  · omega
  · exact hlog2 c hc

set_option maxHeartbeats 1000000 in
set_option maxRecDepth 20000 in
theorem alone_own {len cap ra xa : Nat} {Rs : Nat → Int} {x0 x1 : Int} {lo : Nat} {ts : List Value} {σ : St} {b b' : QB} {Q Q' : QV} {R : Int → Nat} {F Z A : Nat → Int} {i m : Nat} {last : Int} {vs : List Value} {id0 : Int}
    (hR : ∀ f : Int, 1 ≤ f → f ≤ 3 → 1 ≤ R f ∧ R f ≤ 1000000) (hx1 : 1 ≤ x1) (hx0 : 1 ≤ x0 ∧ x0 ≤ 3) (hi : i < len) (hlen : len ≤ 40) (hmi : m + i = len + 1)
    (G : F5B ts (some ⟨0, 0, some 0⟩) len cap ra xa b.q b'.q i last) (hl : Low5 σ (some (.cells vs true)) ra xa Rs x0 x1 lo) (S : S5 σ b Q b' Q' R F Z A x0 i (2 * i) last lo)
    (a1 : (vs.drop (i * 7 + 1)).take 3 = [.int .i64 id0, .int .i64 (F i), .int .i64 (Z i)]) (a2 : i * 7 + 1 + 3 ≤ vs.length) (a3 : lget? vs (i * 7 + 6) = some (.int .i64 (A i))) (hf : F i = x0) :
    wp (cP Try.prog) q8 (btAll 5) false aloneB ⟨ts, []⟩ σ (stepW (I5B (some (.cells vs true)) (some ⟨0, 0, some 0⟩) len cap ra xa Rs x0 x1 R F Z A lo) E5B (fun c => lo ≤ c) m) := by
  obtain ⟨F5, e10, e11⟩ := G
  have e0 := F5.t0
  have e4 := F5.t4
  have e5 := F5.t5
  have e7 := F5.t7
  have e8 := F5.t8
  have el := F5.size
  have gx := hl.gx
  have g0 := hl.g0
  have hpos := hl.pos
  have hlo := hl.next
  have hxl : xa < σ.next := by have := hl.lxa; omega
  have nz : ¬ σ.next = 0 := by omega
  have c1 : (i : Int) < (len : Int) := by omega
  have c2 : (0 : Int) ≤ (i : Int) := by omega
  have w1 : IntKind.i64.wrap ((i : Int) + 1) = ((i + 1 : Nat) : Int) := by
    have : (i : Int) + 1 = ((i + 1 : Nat) : Int) := by omega
    rw [this]; exact wrapIN (by omega)
  have hf' : (F i == x0) = true := by simpa using hf
  have an : ∀ l : List Nat, (l.any fun _ => false) = false := fun l => by simp
  rw [aloneB_is]
  simp only [go_sem, Nat.reducePow, Nat.reduceDiv, Nat.reduceMod, Nat.reduceAdd, Nat.reduceSub, Nat.reduceMul, Nat.reduceLeDiff, Nat.reduceLT, Nat.reduceEqDiff, reduceCtorEq, reduceIte, reduceDIte, if_pos rfl, Int.reduceLT, Int.reduceLE, Int.reduceEq, Int.reduceNeg, Int.reduceAdd, Int.reduceSub, Int.reduceMul, Int.reduceToNat, opLen, callW, q8, p8, p7, p6, p5, p4, p3, p2, p1, undef, aloneX, aloneB, blockOf, nthC, loopOf, Try.f5, Option.getD, lget_put, lgetq_put, List.length_set, Int.toNat_natCast, e0, e5, e7, e8, e10, e11, el, hxl, gx, g0, nz, c1, c2, a1, a2, a3, w1]
  generalize hσ : ((σ.new (.cells [.int .i64 0, .int .i64 0, .int .i64 0] false)).set σ.next (.cells [.int .i64 id0, .int .i64 (F i), .int .i64 (Z i)] false)).set σ.next (.cells [.int .i64 ((i + 1 : Nat) : Int), .int .i64 (F i), .int .i64 (Z i)] false) = σa
  have na : σa.next = σ.next + 1 := by rw [← hσ]; simp only [go_sem, Nat.reducePow, Nat.reduceDiv, Nat.reduceMod, Nat.reduceAdd, Nat.reduceSub, Nat.reduceMul, Nat.reduceLeDiff, Nat.reduceLT, Nat.reduceEqDiff, reduceCtorEq, reduceIte, reduceDIte, if_pos rfl, Int.reduceLT, Int.reduceLE, Int.reduceEq, Int.reduceNeg, Int.reduceAdd, Int.reduceSub, Int.reduceMul, Int.reduceToNat, opLen]
  have ka : ∀ c, c < σ.next → σa.get c = σ.get c := fun c hc => by
    have q1 : ¬ σ.next = c := by omega
    rw [← hσ]
    simp only [go_sem, Nat.reducePow, Nat.reduceDiv, Nat.reduceMod, Nat.reduceAdd, Nat.reduceSub, Nat.reduceMul, Nat.reduceLeDiff, Nat.reduceLT, Nat.reduceEqDiff, reduceCtorEq, reduceIte, reduceDIte, if_pos rfl, Int.reduceLT, Int.reduceLE, Int.reduceEq, Int.reduceNeg, Int.reduceAdd, Int.reduceSub, Int.reduceMul, Int.reduceToNat, opLen, hc, q1]
  have ya : σa.get σ.next = some (.cells [.int .i64 ((i + 1 : Nat) : Int), .int .i64 (F i), .int .i64 (Z i)] false) := by
    rw [← hσ]
    simp only [go_sem, Nat.reducePow, Nat.reduceDiv, Nat.reduceMod, Nat.reduceAdd, Nat.reduceSub, Nat.reduceMul, Nat.reduceLeDiff, Nat.reduceLT, Nat.reduceEqDiff, reduceCtorEq, reduceIte, reduceDIte, if_pos rfl, Int.reduceLT, Int.reduceLE, Int.reduceEq, Int.reduceNeg, Int.reduceAdd, Int.reduceSub, Int.reduceMul, Int.reduceToNat, opLen]
  have hla := hl.grow (σ' := σa) (by omega) ka
  have Sa := S.grow (σ' := σa) (by omega) ka
  have yn : ∀ c, Foot b Q c → c < σ.next := fun c hc => S.q.at'.in_foot hc
  have yn' : ∀ c, Foot b' Q' c → c < σ.next := fun c hc => S.o.at'.in_foot hc
  clear hσ
  refine callX.hid (one_put Sa.q (k := 2 * i) (by omega) (by omega) hR (fun hv => Sa.fl (F i) hv.1.1 hv.1.2) (fun h => Sa.no _ h) (by omega)) ?_
  intro σ1 lg1 hlg1 hone
  obtain ⟨hlog1, b1, Q1, hb1, HB, hft, hFL, hNO, hIL⟩ := hone
  have n1 := hlg1.1
  have lo1 : ∀ c ∈ lg1, lo ≤ c := fun c hc => by
    rcases hlog1 c hc with h | h
    · exact S.q.foot c h
    · omega
  have hl1 : Low5 σ1 (some (.cells vs true)) ra xa Rs x0 x1 lo := hla.keep hlg1 lo1
  have y1 : σ1.get σ.next = some (.cells [.int .i64 ((i + 1 : Nat) : Int), .int .i64 (F i), .int .i64 (Z i)] false) := (hlg1.2 _ (by omega) fun hm => by
    rcases hlog1 _ hm with h | h
    · have := yn _ h; omega
    · omega).trans ya
  have y1l : σ.next < σ1.next := by omega
  have o1 : BQ σ1 b' Q' i lo := Sa.o.keep n1 (Sa.dj.log hlg1 hlog1)
  have dj1 : Disj b1 Q1 b' Q' := Sa.dj.left hft fun c hc => Sa.o.at'.in_foot hc
  have gx1 := hl1.gx
  have g01 := hl1.g0
  have hxl1 : xa < σ1.next := by omega
  have nz1 : ¬ σ1.next = 0 := by omega
  have il1 := hIL x0 last S.il
  have fl1 : ∀ f : Int, 1 ≤ f → f ≤ 3 → FL Q1 R F Z A (i + 1) (2 * i + 1) f := fun f h1 h2 => hFL f (S.fl f h1 h2)
  have no1 : ∀ f : Int, ¬ (1 ≤ f ∧ f ≤ 3) → Q1.F f = none := fun f h => hNO f h (S.no f h)
  clear hIL hFL hNO
  refine ⟨?_⟩
  simp only [go_sem, Nat.reducePow, Nat.reduceDiv, Nat.reduceMod, Nat.reduceAdd, Nat.reduceSub, Nat.reduceMul, Nat.reduceLeDiff, Nat.reduceLT, Nat.reduceEqDiff, reduceCtorEq, reduceIte, reduceDIte, if_pos rfl, Int.reduceLT, Int.reduceLE, Int.reduceEq, Int.reduceNeg, Int.reduceAdd, Int.reduceSub, Int.reduceMul, Int.reduceToNat, opLen, callW, q8, p8, p7, p6, p5, p4, p3, p2, p1, undef, lget_put, lgetq_put, List.length_set, Int.toNat_natCast, e0, e5, e7, e8, e10, e11, el, hxl1, gx1, g01, nz, nz1, c1, c2, a1, a2, a3, w1, y1, y1l, an, hf', if_true]
  generalize hσ1 : (σ1.new (.cells [.int .i64 0, .int .i64 0] false)).set σ1.next (.cells [.int .i64 (rs R F Z A i).1, .int .i64 (rs R F Z A i).2.1] false) = σb
  have nb : σb.next = σ1.next + 1 := by rw [← hσ1]; simp only [go_sem, Nat.reducePow, Nat.reduceDiv, Nat.reduceMod, Nat.reduceAdd, Nat.reduceSub, Nat.reduceMul, Nat.reduceLeDiff, Nat.reduceLT, Nat.reduceEqDiff, reduceCtorEq, reduceIte, reduceDIte, if_pos rfl, Int.reduceLT, Int.reduceLE, Int.reduceEq, Int.reduceNeg, Int.reduceAdd, Int.reduceSub, Int.reduceMul, Int.reduceToNat, opLen]
  have kb : ∀ c, c < σ1.next → σb.get c = σ1.get c := fun c hc => by
    have q1 : ¬ σ1.next = c := by omega
    rw [← hσ1]
    simp only [go_sem, Nat.reducePow, Nat.reduceDiv, Nat.reduceMod, Nat.reduceAdd, Nat.reduceSub, Nat.reduceMul, Nat.reduceLeDiff, Nat.reduceLT, Nat.reduceEqDiff, reduceCtorEq, reduceIte, reduceDIte, if_pos rfl, Int.reduceLT, Int.reduceLE, Int.reduceEq, Int.reduceNeg, Int.reduceAdd, Int.reduceSub, Int.reduceMul, Int.reduceToNat, opLen, hc, q1]
  have sb : σb.get σ1.next = some (.cells [.int .i64 (rs R F Z A i).1, .int .i64 (rs R F Z A i).2.1] false) := by
    rw [← hσ1]
    simp only [go_sem, Nat.reducePow, Nat.reduceDiv, Nat.reduceMod, Nat.reduceAdd, Nat.reduceSub, Nat.reduceMul, Nat.reduceLeDiff, Nat.reduceLT, Nat.reduceEqDiff, reduceCtorEq, reduceIte, reduceDIte, if_pos rfl, Int.reduceLT, Int.reduceLE, Int.reduceEq, Int.reduceNeg, Int.reduceAdd, Int.reduceSub, Int.reduceMul, Int.reduceToNat, opLen]
  clear hσ1
  have hlb := hl1.grow (σ' := σb) (by omega) kb
  have ob := o1.keep (σ' := σb) (by omega) fun c _ hc => kb c hc
  have HBb := HB.keep (σ' := σb) (by omega) fun c _ hc => kb c hc
  have in1 : ∀ c, Foot b1 Q1 c → c < σ1.next := fun c hc => HB.at'.in_foot hc
  refine callX.hid (one_put ob (k := 2 * i) (by omega) (by omega) hR (fun _ => hf ▸ S.fo) (fun h => absurd (hf ▸ hx0) h) (by omega)) ?_
  intro σ2 lg2 hlg2 hone2
  obtain ⟨hlog2, b2, Q2o, hb2, HB2, hft2, hFL2, hNO2, hIL2⟩ := hone2
  have n2 := hlg2.1
  have lo2 : ∀ c ∈ lg2, lo ≤ c := fun c hc => by
    rcases hlog2 c hc with h | h
    · exact S.o.foot c h
    · omega
  have hl2 : Low5 σ2 (some (.cells vs true)) ra xa Rs x0 x1 lo := hlb.keep hlg2 lo2
  have s2 : σ2.get σ1.next = some (.cells [.int .i64 (rs R F Z A i).1, .int .i64 (rs R F Z A i).2.1] false) := (hlg2.2 _ (by omega) fun hm => by
    rcases hlog2 _ hm with h | h
    · have := yn' _ h; omega
    · omega).trans sb
  have s2l : σ1.next < σ2.next := by omega
  have q2 : BQ σ2 b1 Q1 (i + 1) lo := HBb.keep n2 (dj1.symm.log hlg2 hlog2)
  have dj2 : Disj b1 Q1 b2 Q2o := (dj1.symm.left (n := σb.next) hft2 fun c hc => by have := in1 c hc; omega).symm
  have fo2 : FL Q2o R F Z A (i + 1) (2 * i + 1) x0 := hFL2 _ S.fo
  have gx2 := hl2.gx
  have hxl2 : xa < σ2.next := by omega
  have q9 : ¬ σ2.next = σ1.next := by omega
  have q8' : σ1.next < σ2.next + 1 := by omega
  clear hFL2 hNO2 hIL2
  refine ⟨?_⟩
  simp only [go_sem, Nat.reducePow, Nat.reduceDiv, Nat.reduceMod, Nat.reduceAdd, Nat.reduceSub, Nat.reduceMul, Nat.reduceLeDiff, Nat.reduceLT, Nat.reduceEqDiff, reduceCtorEq, reduceIte, reduceDIte, if_pos rfl, Int.reduceLT, Int.reduceLE, Int.reduceEq, Int.reduceNeg, Int.reduceAdd, Int.reduceSub, Int.reduceMul, Int.reduceToNat, opLen, callW, q8, p8, p7, p6, p5, p4, p3, p2, p1, undef, lget_put, lgetq_put, List.length_set, Int.toNat_natCast, e0, e5, e7, e8, e10, e11, el, hxl2, gx2, s2, s2l, q9, q8', an, w1, flat24, eqCells]
  refine alone_take (sa := some ⟨0, 0, some 0⟩) (len := len) (cap := cap) (ra := ra) (xa := xa) (g0 := some (.cells vs true)) (Rs := Rs) (x0 := x0) (x1 := x1) (lo := lo) (b := b1) (b' := b2) (Q := Q1) (Q' := Q2o) (R := R) (F := F) (Z := Z) (A := A) (i := i) (k := 2 * i + 1) (last := last) (fun f h1 h2 => (hR f h1 h2).1) hx1 (by omega) (by omega) ?_ ?_ ?_ _ ?_
  · exact ⟨⟨by simp only [List.length_set, el], by simp only [go_sem, Nat.reducePow, Nat.reduceDiv, Nat.reduceMod, Nat.reduceAdd, Nat.reduceSub, Nat.reduceMul, Nat.reduceLeDiff, Nat.reduceLT, Nat.reduceEqDiff, reduceCtorEq, reduceIte, reduceDIte, if_pos rfl, Int.reduceLT, Int.reduceLE, Int.reduceEq, Int.reduceNeg, Int.reduceAdd, Int.reduceSub, Int.reduceMul, Int.reduceToNat, opLen, lget_put, List.length_set, el, e0], by simp only [go_sem, Nat.reducePow, Nat.reduceDiv, Nat.reduceMod, Nat.reduceAdd, Nat.reduceSub, Nat.reduceMul, Nat.reduceLeDiff, Nat.reduceLT, Nat.reduceEqDiff, reduceCtorEq, reduceIte, reduceDIte, if_pos rfl, Int.reduceLT, Int.reduceLE, Int.reduceEq, Int.reduceNeg, Int.reduceAdd, Int.reduceSub, Int.reduceMul, Int.reduceToNat, opLen, lget_put, List.length_set, el, e4], by simp only [go_sem, Nat.reducePow, Nat.reduceDiv, Nat.reduceMod, Nat.reduceAdd, Nat.reduceSub, Nat.reduceMul, Nat.reduceLeDiff, Nat.reduceLT, Nat.reduceEqDiff, reduceCtorEq, reduceIte, reduceDIte, if_pos rfl, Int.reduceLT, Int.reduceLE, Int.reduceEq, Int.reduceNeg, Int.reduceAdd, Int.reduceSub, Int.reduceMul, Int.reduceToNat, opLen, lget_put, List.length_set, el, e5], by simp only [go_sem, Nat.reducePow, Nat.reduceDiv, Nat.reduceMod, Nat.reduceAdd, Nat.reduceSub, Nat.reduceMul, Nat.reduceLeDiff, Nat.reduceLT, Nat.reduceEqDiff, reduceCtorEq, reduceIte, reduceDIte, if_pos rfl, Int.reduceLT, Int.reduceLE, Int.reduceEq, Int.reduceNeg, Int.reduceAdd, Int.reduceSub, Int.reduceMul, Int.reduceToNat, opLen, lget_put, List.length_set, el, e7, hb1], by simp only [go_sem, Nat.reducePow, Nat.reduceDiv, Nat.reduceMod, Nat.reduceAdd, Nat.reduceSub, Nat.reduceMul, Nat.reduceLeDiff, Nat.reduceLT, Nat.reduceEqDiff, reduceCtorEq, reduceIte, reduceDIte, if_pos rfl, Int.reduceLT, Int.reduceLE, Int.reduceEq, Int.reduceNeg, Int.reduceAdd, Int.reduceSub, Int.reduceMul, Int.reduceToNat, opLen, lget_put, List.length_set, el, e8, hb2]⟩, by simp only [go_sem, Nat.reducePow, Nat.reduceDiv, Nat.reduceMod, Nat.reduceAdd, Nat.reduceSub, Nat.reduceMul, Nat.reduceLeDiff, Nat.reduceLT, Nat.reduceEqDiff, reduceCtorEq, reduceIte, reduceDIte, if_pos rfl, Int.reduceLT, Int.reduceLE, Int.reduceEq, Int.reduceNeg, Int.reduceAdd, Int.reduceSub, Int.reduceMul, Int.reduceToNat, opLen, lget_put, List.length_set, el, e10], by simp only [go_sem, Nat.reducePow, Nat.reduceDiv, Nat.reduceMod, Nat.reduceAdd, Nat.reduceSub, Nat.reduceMul, Nat.reduceLeDiff, Nat.reduceLT, Nat.reduceEqDiff, reduceCtorEq, reduceIte, reduceDIte, if_pos rfl, Int.reduceLT, Int.reduceLE, Int.reduceEq, Int.reduceNeg, Int.reduceAdd, Int.reduceSub, Int.reduceMul, Int.reduceToNat, opLen, lget_put, List.length_set, el, e11]⟩
  · exact hl2.grow (by simp only [go_sem, Nat.reducePow, Nat.reduceDiv, Nat.reduceMod, Nat.reduceAdd, Nat.reduceSub, Nat.reduceMul, Nat.reduceLeDiff, Nat.reduceLT, Nat.reduceEqDiff, reduceCtorEq, reduceIte, reduceDIte, if_pos rfl, Int.reduceLT, Int.reduceLE, Int.reduceEq, Int.reduceNeg, Int.reduceAdd, Int.reduceSub, Int.reduceMul, Int.reduceToNat, opLen] <;> omega) (fun c hc => by
    have q1 : ¬ σ2.next = c := by omega
    simp only [go_sem, Nat.reducePow, Nat.reduceDiv, Nat.reduceMod, Nat.reduceAdd, Nat.reduceSub, Nat.reduceMul, Nat.reduceLeDiff, Nat.reduceLT, Nat.reduceEqDiff, reduceCtorEq, reduceIte, reduceDIte, if_pos rfl, Int.reduceLT, Int.reduceLE, Int.reduceEq, Int.reduceNeg, Int.reduceAdd, Int.reduceSub, Int.reduceMul, Int.reduceToNat, opLen, hc, q1])
  · exact S5.grow (σ := σ2) ⟨q2, fl1, no1, il1, HB2, fo2, dj2⟩ (by simp only [go_sem, Nat.reducePow, Nat.reduceDiv, Nat.reduceMod, Nat.reduceAdd, Nat.reduceSub, Nat.reduceMul, Nat.reduceLeDiff, Nat.reduceLT, Nat.reduceEqDiff, reduceCtorEq, reduceIte, reduceDIte, if_pos rfl, Int.reduceLT, Int.reduceLE, Int.reduceEq, Int.reduceNeg, Int.reduceAdd, Int.reduceSub, Int.reduceMul, Int.reduceToNat, opLen] <;> omega) (fun c hc => by
    have q1 : ¬ σ2.next = c := by omega
    simp only [go_sem, Nat.reducePow, Nat.reduceDiv, Nat.reduceMod, Nat.reduceAdd, Nat.reduceSub, Nat.reduceMul, Nat.reduceLeDiff, Nat.reduceLT, Nat.reduceEqDiff, reduceCtorEq, reduceIte, reduceDIte, if_pos rfl, Int.reduceLT, Int.reduceLE, Int.reduceEq, Int.reduceNeg, Int.reduceAdd, Int.reduceSub, Int.reduceMul, Int.reduceToNat, opLen, hc, q1])
  intro ts2 σ3 lg3 Q2 last2 G2 hl3 S2 hlog3 n3
  refine Hide.out ?_
  have e10' := G2.t10
  have e11' := G2.t11
  have d0 := G2.fr.t0
  have d4 := G2.fr.t4
  have d5 := G2.fr.t5
  have d7 := G2.fr.t7
  have d8 := G2.fr.t8
  have dl := G2.fr.size
  refine ⟨?_⟩
  simp only [go_sem, Nat.reducePow, Nat.reduceDiv, Nat.reduceMod, Nat.reduceAdd, Nat.reduceSub, Nat.reduceMul, Nat.reduceLeDiff, Nat.reduceLT, Nat.reduceEqDiff, reduceCtorEq, reduceIte, reduceDIte, if_pos rfl, Int.reduceLT, Int.reduceLE, Int.reduceEq, Int.reduceNeg, Int.reduceAdd, Int.reduceSub, Int.reduceMul, Int.reduceToNat, opLen, callW, q8, p8, p7, p6, p5, p4, p3, p2, p1, undef, lget_put, lgetq_put, List.length_set, Int.toNat_natCast, e10', e11', dl, w1]
  refine ⟨⟨by omega, by omega, fun c hc => ?_⟩, m - 1, by omega, _, b1, Q2, b2, Q2o, i + 1, last2, rfl, ⟨⟨by simp only [List.length_set, dl], by simp only [go_sem, Nat.reducePow, Nat.reduceDiv, Nat.reduceMod, Nat.reduceAdd, Nat.reduceSub, Nat.reduceMul, Nat.reduceLeDiff, Nat.reduceLT, Nat.reduceEqDiff, reduceCtorEq, reduceIte, reduceDIte, if_pos rfl, Int.reduceLT, Int.reduceLE, Int.reduceEq, Int.reduceNeg, Int.reduceAdd, Int.reduceSub, Int.reduceMul, Int.reduceToNat, opLen, lget_put, List.length_set, dl, d0], by simp only [go_sem, Nat.reducePow, Nat.reduceDiv, Nat.reduceMod, Nat.reduceAdd, Nat.reduceSub, Nat.reduceMul, Nat.reduceLeDiff, Nat.reduceLT, Nat.reduceEqDiff, reduceCtorEq, reduceIte, reduceDIte, if_pos rfl, Int.reduceLT, Int.reduceLE, Int.reduceEq, Int.reduceNeg, Int.reduceAdd, Int.reduceSub, Int.reduceMul, Int.reduceToNat, opLen, lget_put, List.length_set, dl, d4], by simp only [go_sem, Nat.reducePow, Nat.reduceDiv, Nat.reduceMod, Nat.reduceAdd, Nat.reduceSub, Nat.reduceMul, Nat.reduceLeDiff, Nat.reduceLT, Nat.reduceEqDiff, reduceCtorEq, reduceIte, reduceDIte, if_pos rfl, Int.reduceLT, Int.reduceLE, Int.reduceEq, Int.reduceNeg, Int.reduceAdd, Int.reduceSub, Int.reduceMul, Int.reduceToNat, opLen, lget_put, List.length_set, dl, d5], by simp only [go_sem, Nat.reducePow, Nat.reduceDiv, Nat.reduceMod, Nat.reduceAdd, Nat.reduceSub, Nat.reduceMul, Nat.reduceLeDiff, Nat.reduceLT, Nat.reduceEqDiff, reduceCtorEq, reduceIte, reduceDIte, if_pos rfl, Int.reduceLT, Int.reduceLE, Int.reduceEq, Int.reduceNeg, Int.reduceAdd, Int.reduceSub, Int.reduceMul, Int.reduceToNat, opLen, lget_put, List.length_set, dl, d7], by simp only [go_sem, Nat.reducePow, Nat.reduceDiv, Nat.reduceMod, Nat.reduceAdd, Nat.reduceSub, Nat.reduceMul, Nat.reduceLeDiff, Nat.reduceLT, Nat.reduceEqDiff, reduceCtorEq, reduceIte, reduceDIte, if_pos rfl, Int.reduceLT, Int.reduceLE, Int.reduceEq, Int.reduceNeg, Int.reduceAdd, Int.reduceSub, Int.reduceMul, Int.reduceToNat, opLen, lget_put, List.length_set, dl, d8]⟩, by simp only [go_sem, Nat.reducePow, Nat.reduceDiv, Nat.reduceMod, Nat.reduceAdd, Nat.reduceSub, Nat.reduceMul, Nat.reduceLeDiff, Nat.reduceLT, Nat.reduceEqDiff, reduceCtorEq, reduceIte, reduceDIte, if_pos rfl, Int.reduceLT, Int.reduceLE, Int.reduceEq, Int.reduceNeg, Int.reduceAdd, Int.reduceSub, Int.reduceMul, Int.reduceToNat, opLen, lget_put, List.length_set, dl, e10'], by simp only [go_sem, Nat.reducePow, Nat.reduceDiv, Nat.reduceMod, Nat.reduceAdd, Nat.reduceSub, Nat.reduceMul, Nat.reduceLeDiff, Nat.reduceLT, Nat.reduceEqDiff, reduceCtorEq, reduceIte, reduceDIte, if_pos rfl, Int.reduceLT, Int.reduceLE, Int.reduceEq, Int.reduceNeg, Int.reduceAdd, Int.reduceSub, Int.reduceMul, Int.reduceToNat, opLen, lget_put, List.length_set, dl]⟩, by omega, by omega, hl3, by rw [show 2 * (i + 1) = 2 * i + 1 + 1 by omega]; exact S2⟩
  rcases hc with (hc | hc) | (hc | hc) | hc
  · exact lo1 c hc
  · omega
  · exact lo2 c hc
  · omega
  · exact hlog3 c hc

end Go.Ab

set_option linter.unusedSimpArgs false
set_option linter.unusedVariables false
namespace Go.Ab
open Go.Proofs

/-- What is put, as it came in. -/
def ActsIn (vs : List Value) (len : Nat) (F Z A : Nat → Int) : Prop :=
  ∀ i, i < len → ∃ id0 : Int, (vs.drop (i * 7 + 1)).take 3 = [.int .i64 id0, .int .i64 (F i), .int .i64 (Z i)] ∧ i * 7 + 1 + 3 ≤ vs.length ∧ lget? vs (i * 7 + 6) = some (.int .i64 (A i))

set_option maxHeartbeats 1000000 in
set_option maxRecDepth 20000 in
theorem alone_loop {sa : Option Addr} {len cap ra xa : Nat} {Rs : Nat → Int} {x0 x1 : Int} {lo : Nat} {R : Int → Nat} {F Z A : Nat → Int} {vs : List Value} {g0 : Option AObj}
    (hol : ∀ σ, opLen (cP Try.prog).T σ 47 (.slice sa len cap) = some (.val (.int .i64 (len : Int)) []))
    (hR : ∀ f : Int, 1 ≤ f → f ≤ 3 → 1 ≤ R f ∧ R f ≤ 1000000) (hx1 : 1 ≤ x1) (hx0 : 1 ≤ x0 ∧ x0 ≤ 3) (hlen : len ≤ 40) (hsa : 0 < len → sa = some ⟨0, 0, some 0⟩) (hg : 0 < len → g0 = some (.cells vs true)) (hin : ActsIn vs len F Z A) :
    ∀ m fr σ, I5B g0 sa len cap ra xa Rs x0 x1 R F Z A lo m fr σ → loopX Try.prog false aloneB fr σ (endL E5B fun c => lo ≤ c) := by
  refine loop_ind q8 5 (by kernel_rfl) _ _ _ ?_
  rintro m fr σ ⟨ts, b, Q, b', Q', i, last, rfl, G, hmi, hil, hl, S⟩
  by_cases hi : i < len
  · obtain rfl := hsa (by omega)
    obtain rfl := hg (by omega)
    obtain ⟨id0, a1, a2, a3⟩ := hin i hi
    by_cases hf : F i = x0
    · exact alone_own hR hx1 hx0 hi hlen hmi G hl S a1 a2 a3 hf
    · exact alone_other hR hx1 hx0 hi hlen hmi G hl S a1 a2 a3 hf
  · obtain rfl : i = len := by omega
    have e0 := G.fr.t0
    have e11 := G.t11
    have el := G.fr.size
    have c1 : ¬ (i : Int) < (i : Int) := by omega
    simp only [go_sem, Nat.reducePow, Nat.reduceDiv, Nat.reduceMod, Nat.reduceAdd, Nat.reduceSub, Nat.reduceMul, Nat.reduceLeDiff, Nat.reduceLT, Nat.reduceEqDiff, reduceCtorEq, reduceIte, reduceDIte, if_pos rfl, Int.reduceLT, Int.reduceLE, Int.reduceEq, Int.reduceNeg, Int.reduceAdd, Int.reduceSub, Int.reduceMul, Int.reduceToNat, callW, q8, p8, p7, p6, p5, p4, p3, p2, p1, aloneB, nthC, loopOf, Try.f5, Option.getD, lget_put, lgetq_put, List.length_set, e0, e11, el, hol, c1]
    exact ⟨rfl, _, rfl, by simp only [List.length_set, el]⟩

end Go.Ab

set_option linter.unusedSimpArgs false
set_option linter.unusedVariables false
namespace Go.Ab
open Go.Proofs

set_option maxHeartbeats 1000000 in
set_option maxRecDepth 20000 in
theorem alone_known {sa : Option Addr} {len cap : Nat} {r0 r1 r2 x0 x1 : Int} {σ : St} (hol : ∀ σ, opLen (cP Try.prog).T σ 47 (.slice sa len cap) = some (.val (.int .i64 (len : Int)) []))
    (h : 40 < (len : Int) ∨ x0 < 1 ∨ 3 < x0 ∨ x1 < 1) :
    callX Try.prog 5 [.slice sa len cap, .agg ⟨[.int .i64 r0, .int .i64 r1, .int .i64 r2]⟩, .agg ⟨[.int .i64 x0, .int .i64 x1]⟩] σ fun e σ' l => e = .ret (.bool true) ∧ ∀ c ∈ l, σ.next ≤ c := by
  refine enter (p := q8) Try.func5 rfl (by kernel_rfl) ?_
  by_cases h1 : 40 < (len : Int)
  · simp only [go_sem, Nat.reducePow, Nat.reduceDiv, Nat.reduceMod, Nat.reduceAdd, Nat.reduceSub, Nat.reduceMul, Nat.reduceLeDiff, Nat.reduceLT, Nat.reduceEqDiff, reduceCtorEq, reduceIte, reduceDIte, if_pos rfl, Int.reduceLT, Int.reduceLE, Int.reduceEq, Int.reduceNeg, Int.reduceAdd, Int.reduceSub, Int.reduceMul, Int.reduceToNat, callW, q8, p8, p7, p6, p5, p4, p3, p2, p1, undef, Try.f5, hol, h1]
    refine .of (known22_call _) ?_
    simp only [go_sem, Nat.reducePow, Nat.reduceDiv, Nat.reduceMod, Nat.reduceAdd, Nat.reduceSub, Nat.reduceMul, Nat.reduceLeDiff, Nat.reduceLT, Nat.reduceEqDiff, reduceCtorEq, reduceIte, reduceDIte, if_pos rfl, Int.reduceLT, Int.reduceLE, Int.reduceEq, Int.reduceNeg, Int.reduceAdd, Int.reduceSub, Int.reduceMul, Int.reduceToNat]
  by_cases h2 : x0 < 1
  · simp only [go_sem, Nat.reducePow, Nat.reduceDiv, Nat.reduceMod, Nat.reduceAdd, Nat.reduceSub, Nat.reduceMul, Nat.reduceLeDiff, Nat.reduceLT, Nat.reduceEqDiff, reduceCtorEq, reduceIte, reduceDIte, if_pos rfl, Int.reduceLT, Int.reduceLE, Int.reduceEq, Int.reduceNeg, Int.reduceAdd, Int.reduceSub, Int.reduceMul, Int.reduceToNat, callW, q8, p8, p7, p6, p5, p4, p3, p2, p1, undef, Try.f5, hol, h1, h2]
    refine .of (known22_call _) ?_
    simp only [go_sem, Nat.reducePow, Nat.reduceDiv, Nat.reduceMod, Nat.reduceAdd, Nat.reduceSub, Nat.reduceMul, Nat.reduceLeDiff, Nat.reduceLT, Nat.reduceEqDiff, reduceCtorEq, reduceIte, reduceDIte, if_pos rfl, Int.reduceLT, Int.reduceLE, Int.reduceEq, Int.reduceNeg, Int.reduceAdd, Int.reduceSub, Int.reduceMul, Int.reduceToNat]
  by_cases h3 : 3 < x0
  · simp only [go_sem, Nat.reducePow, Nat.reduceDiv, Nat.reduceMod, Nat.reduceAdd, Nat.reduceSub, Nat.reduceMul, Nat.reduceLeDiff, Nat.reduceLT, Nat.reduceEqDiff, reduceCtorEq, reduceIte, reduceDIte, if_pos rfl, Int.reduceLT, Int.reduceLE, Int.reduceEq, Int.reduceNeg, Int.reduceAdd, Int.reduceSub, Int.reduceMul, Int.reduceToNat, callW, q8, p8, p7, p6, p5, p4, p3, p2, p1, undef, Try.f5, hol, h1, h2, h3]
    refine .of (known22_call _) ?_
    simp only [go_sem, Nat.reducePow, Nat.reduceDiv, Nat.reduceMod, Nat.reduceAdd, Nat.reduceSub, Nat.reduceMul, Nat.reduceLeDiff, Nat.reduceLT, Nat.reduceEqDiff, reduceCtorEq, reduceIte, reduceDIte, if_pos rfl, Int.reduceLT, Int.reduceLE, Int.reduceEq, Int.reduceNeg, Int.reduceAdd, Int.reduceSub, Int.reduceMul, Int.reduceToNat]
  by_cases h4 : x1 < 1
  · simp only [go_sem, Nat.reducePow, Nat.reduceDiv, Nat.reduceMod, Nat.reduceAdd, Nat.reduceSub, Nat.reduceMul, Nat.reduceLeDiff, Nat.reduceLT, Nat.reduceEqDiff, reduceCtorEq, reduceIte, reduceDIte, if_pos rfl, Int.reduceLT, Int.reduceLE, Int.reduceEq, Int.reduceNeg, Int.reduceAdd, Int.reduceSub, Int.reduceMul, Int.reduceToNat, callW, q8, p8, p7, p6, p5, p4, p3, p2, p1, undef, Try.f5, hol, h1, h2, h3, h4]
    refine .of (known22_call _) ?_
    simp only [go_sem, Nat.reducePow, Nat.reduceDiv, Nat.reduceMod, Nat.reduceAdd, Nat.reduceSub, Nat.reduceMul, Nat.reduceLeDiff, Nat.reduceLT, Nat.reduceEqDiff, reduceCtorEq, reduceIte, reduceDIte, if_pos rfl, Int.reduceLT, Int.reduceLE, Int.reduceEq, Int.reduceNeg, Int.reduceAdd, Int.reduceSub, Int.reduceMul, Int.reduceToNat]
  omega

/-- The rate of a flow. -/
def rOf (Rs : Nat → Int) (f : Int) : Nat := (Rs (f - 1).toNat).toNat

theorem AD.fresh {σ : St} {b : QB} {Rs : Nat → Int} {lo : Nat} (H : QAt σ b Q0) (hf : ∀ c, Foot b Q0 c → lo ≤ c) : AD σ b Q0 Rs 0 lo :=
  ⟨H, fun f hf => absurd hf (Nat.not_lt_zero f), fun _ _ => rfl, rfl, fun _ => rfl, rfl, rfl, rfl, hf⟩

theorem AD.start {σ : St} {b : QB} {Q : QV} {Rs : Nat → Int} {lo : Nat} (H : AD σ b Q Rs 3 lo) (hv : ∀ f : Nat, f < 3 → 1 ≤ Rs f ∧ Rs f ≤ 1000000) (F Z A : Nat → Int) (x0 : Int) :
    BQ σ b Q 0 lo ∧ (∀ f : Int, 1 ≤ f → f ≤ 3 → FL Q (rOf Rs) F Z A 0 0 f) ∧ (∀ f : Int, ¬ (1 ≤ f ∧ f ≤ 3) → Q.F f = none) ∧ IL Q (rOf Rs) F Z A 0 x0 0 := by
  have hn : ∀ y, y ∉ Q.L := fun y => by rw [H.L]; exact List.not_mem_nil
  refine ⟨⟨H.at', H.foot, fun k _ => H.P k, by rw [H.np]; exact Nat.le_refl _, by rw [H.L]; exact Nat.le_refl _, by rw [H.t]; omega, fun y hy => absurd hy (hn y)⟩, fun f h1 h3 => ?_, fun f hf => H.no f (by omega), ⟨by rw [H.L]; intro i hi u v hu _; simp at hu, fun y hy => absurd hy (hn y), by omega⟩⟩
  obtain ⟨x, hx, hx1, hx2, hx3, hx4, hx5⟩ := H.fl (f - 1).toNat (by omega)
  have hr := hv (f - 1).toNat (by omega)
  have er : ((rOf Rs f : Nat) : Int) = Rs (f - 1).toNat := by unfold rOf; omega
  have ef : (((f - 1).toNat + 1 : Nat) : Int) = f := by omega
  rw [ef] at hx
  have fw := f_whole (n := 0) (r := rOf Rs f) (by omega)
  rw [Nat.zero_mul] at fw
  refine ⟨x, hx, by rw [hx1, er], hx2, by rw [hx3]; omega, by rw [hx3]; omega, ?_, ?_⟩
  · show x.n = ((fN 0 (rOf Rs f) : Nat) : Int)
    rw [fw.1, hx4]; rfl
  · show x.d = ((fD 0 (rOf Rs f) : Nat) : Int)
    rw [fw.2, hx5]; rfl

set_option maxHeartbeats 1000000 in
set_option maxRecDepth 20000 in
theorem alone_call {sa : Option Addr} {len cap : Nat} {r0 r1 r2 x0 x1 : Int} {vs : List Value} {F Z A : Nat → Int} {σ : St} (hol : ∀ σ, opLen (cP Try.prog).T σ 47 (.slice sa len cap) = some (.val (.int .i64 (len : Int)) []))
    (hsa : 0 < len → sa = some ⟨0, 0, some 0⟩) (h0 : 0 < len → 0 < σ.next) (g0 : 0 < len → σ.get 0 = some (.cells vs true)) (hin : ActsIn vs len F Z A) :
    callX Try.prog 5 [.slice sa len cap, .agg ⟨[.int .i64 r0, .int .i64 r1, .int .i64 r2]⟩, .agg ⟨[.int .i64 x0, .int .i64 x1]⟩] σ fun e σ' l => e = .ret (.bool true) ∧ ∀ c ∈ l, σ.next ≤ c := by
  by_cases h : 40 < (len : Int) ∨ x0 < 1 ∨ 3 < x0 ∨ x1 < 1
  · exact alone_known hol h
  simp only [not_or] at h
  obtain ⟨h1, h2, h3, h4⟩ := h
  obtain ⟨Rs, hRs⟩ : ∃ Rs : Nat → Int, Rs 0 = r0 ∧ Rs 1 = r1 ∧ Rs 2 = r2 := ⟨fun n => match n with | 0 => r0 | 1 => r1 | _ => r2, rfl, rfl, rfl⟩
  obtain ⟨rfl, rfl, rfl⟩ := hRs
  refine enter (p := q8) Try.func5 rfl (by kernel_rfl) ?_
  simp only [go_sem, Nat.reducePow, Nat.reduceDiv, Nat.reduceMod, Nat.reduceAdd, Nat.reduceSub, Nat.reduceMul, Nat.reduceLeDiff, Nat.reduceLT, Nat.reduceEqDiff, reduceCtorEq, reduceIte, reduceDIte, if_pos rfl, Int.reduceLT, Int.reduceLE, Int.reduceEq, Int.reduceNeg, Int.reduceAdd, Int.reduceSub, Int.reduceMul, Int.reduceToNat, callW, q8, p8, p7, p6, p5, p4, p3, p2, p1, undef, Try.f5, hol, h1, h2, h3, h4]
  generalize hσ : (σ.new (.cells [.int .i64 (Rs 0), .int .i64 (Rs 1), .int .i64 (Rs 2)] false)).new (.cells [.int .i64 x0, .int .i64 x1] false) = σa
  have na : σa.next = σ.next + 2 := by rw [← hσ]; rfl
  have ga : 0 < len → σa.get 0 = some (.cells vs true) := fun hl => by
    have h0 := h0 hl
    have g0 := g0 hl
    have q1 : ¬ σ.next = 0 := by omega
    have q2 : 0 < σ.next + 1 := by omega
    rw [← hσ]
    simp only [go_sem, Nat.reducePow, Nat.reduceDiv, Nat.reduceMod, Nat.reduceAdd, Nat.reduceSub, Nat.reduceMul, Nat.reduceLeDiff, Nat.reduceLT, Nat.reduceEqDiff, reduceCtorEq, reduceIte, reduceDIte, if_pos rfl, Int.reduceLT, Int.reduceLE, Int.reduceEq, Int.reduceNeg, Int.reduceAdd, Int.reduceSub, Int.reduceMul, Int.reduceToNat, opLen, h0, q2, g0]
  have gr : σa.get σ.next = some (.cells [.int .i64 (Rs 0), .int .i64 (Rs 1), .int .i64 (Rs 2)] false) := by rw [← hσ]; simp only [go_sem, Nat.reducePow, Nat.reduceDiv, Nat.reduceMod, Nat.reduceAdd, Nat.reduceSub, Nat.reduceMul, Nat.reduceLeDiff, Nat.reduceLT, Nat.reduceEqDiff, reduceCtorEq, reduceIte, reduceDIte, if_pos rfl, Int.reduceLT, Int.reduceLE, Int.reduceEq, Int.reduceNeg, Int.reduceAdd, Int.reduceSub, Int.reduceMul, Int.reduceToNat, opLen]
  have gx : σa.get (σ.next + 1) = some (.cells [.int .i64 x0, .int .i64 x1] false) := by rw [← hσ]; simp only [go_sem, Nat.reducePow, Nat.reduceDiv, Nat.reduceMod, Nat.reduceAdd, Nat.reduceSub, Nat.reduceMul, Nat.reduceLeDiff, Nat.reduceLT, Nat.reduceEqDiff, reduceCtorEq, reduceIte, reduceDIte, if_pos rfl, Int.reduceLT, Int.reduceLE, Int.reduceEq, Int.reduceNeg, Int.reduceAdd, Int.reduceSub, Int.reduceMul, Int.reduceToNat, opLen]
  clear hσ
  have la : Low5 σa (σa.get 0) σ.next (σ.next + 1) Rs x0 x1 (σ.next + 2) := ⟨by omega, by omega, by omega, by omega, rfl, gr, gx⟩
  refine callX.hid (qnew_call σa) ?_
  intro σ1 l1 hl1 hN1
  obtain ⟨hlog1, H1⟩ := hN1
  have n1 := hl1.1
  refine ⟨?_⟩
  simp only [go_sem, Nat.reducePow, Nat.reduceDiv, Nat.reduceMod, Nat.reduceAdd, Nat.reduceSub, Nat.reduceMul, Nat.reduceLeDiff, Nat.reduceLT, Nat.reduceEqDiff, reduceCtorEq, reduceIte, reduceDIte, if_pos rfl, Int.reduceLT, Int.reduceLE, Int.reduceEq, Int.reduceNeg, Int.reduceAdd, Int.reduceSub, Int.reduceMul, Int.reduceToNat, callW, q8, p8, p7, p6, p5, p4, p3, p2, p1, undef]
  refine callX.hid (qnew_call σ1) ?_
  intro σ2 l2 hl2 hN2
  obtain ⟨hlog2, H2⟩ := hN2
  have n2 := hl2.1
  have lo1 : ∀ c ∈ l1, σ.next + 2 ≤ c := fun c hc => by have := hlog1 c hc; omega
  have f1 : ∀ c, Foot ⟨σa.next + 4, σa.next + 2, σa.next + 3, σa.next + 1, σa.next, []⟩ Q0 c → c < σ1.next := fun c hc => H1.in_foot hc
  have f1' : ∀ c, Foot ⟨σa.next + 4, σa.next + 2, σa.next + 3, σa.next + 1, σa.next, []⟩ Q0 c → σ.next + 2 ≤ c := fun c hc => by
    rcases hc with hc | ⟨k, y, hy, _⟩
    · simp only [QB.core, List.mem_cons, List.not_mem_nil, or_false] at hc; omega
    · exact absurd hy (by simp [Q0])
  have f2' : ∀ c, Foot ⟨σ1.next + 4, σ1.next + 2, σ1.next + 3, σ1.next + 1, σ1.next, []⟩ Q0 c → σ1.next ≤ c := fun c hc => by
    rcases hc with hc | ⟨k, y, hy, _⟩
    · simp only [QB.core, List.mem_cons, List.not_mem_nil, or_false] at hc; omega
    · exact absurd hy (by simp [Q0])
  have lo2 : ∀ c ∈ l2, σ.next + 2 ≤ c := fun c hc => by have := hlog2 c hc; omega
  have L2 := (la.keep hl1 lo1).keep hl2 lo2
  have A1 : AD σ2 _ Q0 Rs 0 (σ.next + 2) := (AD.fresh H1 f1').keep n2 fun c _ hc => hl2.2 c hc fun hm => by have := hlog2 c hm; omega
  have A2 : AD σ2 _ Q0 Rs 0 (σ.next + 2) := AD.fresh H2 fun c hc => by have := f2' c hc; omega
  have D : Disj ⟨σa.next + 4, σa.next + 2, σa.next + 3, σa.next + 1, σa.next, []⟩ Q0 ⟨σ1.next + 4, σ1.next + 2, σ1.next + 3, σ1.next + 1, σ1.next, []⟩ Q0 := fun c ha hb => by have := f1 c ha; have := f2' c hb; omega
  refine ⟨?_⟩
  simp only [go_sem, Nat.reducePow, Nat.reduceDiv, Nat.reduceMod, Nat.reduceAdd, Nat.reduceSub, Nat.reduceMul, Nat.reduceLeDiff, Nat.reduceLT, Nat.reduceEqDiff, reduceCtorEq, reduceIte, reduceDIte, if_pos rfl, Int.reduceLT, Int.reduceLE, Int.reduceEq, Int.reduceNeg, Int.reduceAdd, Int.reduceSub, Int.reduceMul, Int.reduceToNat, callW, q8, p8, p7, p6, p5, p4, p3, p2, p1, undef]
  refine loop_then (alone_adds (sa := sa) (len := len) (cap := cap) (ra := σ.next) (xa := σ.next + 1) (g0 := σa.get 0) (Rs := Rs) (x0 := x0) (x1 := x1) (lo := σ.next + 2) 3 _ _ ⟨_, _, Q0, _, Q0, 0, rfl, ⟨rfl, rfl, rfl, rfl, rfl, rfl⟩, rfl, rfl, L2, A1, A2, D, fun f hf => absurd hf (Nat.not_lt_zero f)⟩) ?_
  intro x fr' σ3 l3 hl3 hB3 hE
  refine Hide.out ?_
  obtain ⟨ts, rfl, el, hE⟩ := hE
  rcases hE with ⟨rfl, h6⟩ | ⟨rfl, b, Q, b', Q', F5, L3, A3, A3', D3, hv⟩
  · refine ⟨?_⟩
    simp only [go_sem, Nat.reducePow, Nat.reduceDiv, Nat.reduceMod, Nat.reduceAdd, Nat.reduceSub, Nat.reduceMul, Nat.reduceLeDiff, Nat.reduceLT, Nat.reduceEqDiff, reduceCtorEq, reduceIte, reduceDIte, if_pos rfl, Int.reduceLT, Int.reduceLE, Int.reduceEq, Int.reduceNeg, Int.reduceAdd, Int.reduceSub, Int.reduceMul, Int.reduceToNat, h6, el]
    rintro c ((hc | hc) | hc)
    · have := lo1 c hc; omega
    · have := lo2 c hc; omega
    · have := hB3 c hc; omega
  · obtain ⟨s1, s2, s3, s4⟩ := A3.start hv F Z A x0
    obtain ⟨t1, t2, _, _⟩ := A3'.start hv F Z A x0
    have e0 := F5.t0
    have e4 := F5.t4
    have e5 := F5.t5
    have e7 := F5.t7
    have e8 := F5.t8
    refine ⟨?_⟩
    simp only [go_sem, Nat.reducePow, Nat.reduceDiv, Nat.reduceMod, Nat.reduceAdd, Nat.reduceSub, Nat.reduceMul, Nat.reduceLeDiff, Nat.reduceLT, Nat.reduceEqDiff, reduceCtorEq, reduceIte, reduceDIte, if_pos rfl, Int.reduceLT, Int.reduceLE, Int.reduceEq, Int.reduceNeg, Int.reduceAdd, Int.reduceSub, Int.reduceMul, Int.reduceToNat, callW, q8, p8, p7, p6, p5, p4, p3, p2, p1, lget_put, lgetq_put, List.length_set, el]
    refine loop_then (alone_loop (sa := sa) (len := len) (cap := cap) (ra := σ.next) (xa := σ.next + 1) (Rs := Rs) (x0 := x0) (x1 := x1) (lo := σ.next + 2) (R := rOf Rs) (F := F) (Z := Z) (A := A) (vs := vs) (g0 := σa.get 0) hol (fun f h1 h3 => by
        have := hv (f - 1).toNat (by omega)
        unfold rOf
        omega) (by omega) (by omega) (by omega) hsa ga hin (len + 1) _ _ ⟨_, b, Q, b', Q', 0, 0, rfl, ⟨⟨by simp only [List.length_set, el], by simp only [go_sem, Nat.reducePow, Nat.reduceDiv, Nat.reduceMod, Nat.reduceAdd, Nat.reduceSub, Nat.reduceMul, Nat.reduceLeDiff, Nat.reduceLT, Nat.reduceEqDiff, reduceCtorEq, reduceIte, reduceDIte, if_pos rfl, Int.reduceLT, Int.reduceLE, Int.reduceEq, Int.reduceNeg, Int.reduceAdd, Int.reduceSub, Int.reduceMul, Int.reduceToNat, lget_put, List.length_set, el, e0], by simp only [go_sem, Nat.reducePow, Nat.reduceDiv, Nat.reduceMod, Nat.reduceAdd, Nat.reduceSub, Nat.reduceMul, Nat.reduceLeDiff, Nat.reduceLT, Nat.reduceEqDiff, reduceCtorEq, reduceIte, reduceDIte, if_pos rfl, Int.reduceLT, Int.reduceLE, Int.reduceEq, Int.reduceNeg, Int.reduceAdd, Int.reduceSub, Int.reduceMul, Int.reduceToNat, lget_put, List.length_set, el, e4], by simp only [go_sem, Nat.reducePow, Nat.reduceDiv, Nat.reduceMod, Nat.reduceAdd, Nat.reduceSub, Nat.reduceMul, Nat.reduceLeDiff, Nat.reduceLT, Nat.reduceEqDiff, reduceCtorEq, reduceIte, reduceDIte, if_pos rfl, Int.reduceLT, Int.reduceLE, Int.reduceEq, Int.reduceNeg, Int.reduceAdd, Int.reduceSub, Int.reduceMul, Int.reduceToNat, lget_put, List.length_set, el, e5], by simp only [go_sem, Nat.reducePow, Nat.reduceDiv, Nat.reduceMod, Nat.reduceAdd, Nat.reduceSub, Nat.reduceMul, Nat.reduceLeDiff, Nat.reduceLT, Nat.reduceEqDiff, reduceCtorEq, reduceIte, reduceDIte, if_pos rfl, Int.reduceLT, Int.reduceLE, Int.reduceEq, Int.reduceNeg, Int.reduceAdd, Int.reduceSub, Int.reduceMul, Int.reduceToNat, lget_put, List.length_set, el, e7], by simp only [go_sem, Nat.reducePow, Nat.reduceDiv, Nat.reduceMod, Nat.reduceAdd, Nat.reduceSub, Nat.reduceMul, Nat.reduceLeDiff, Nat.reduceLT, Nat.reduceEqDiff, reduceCtorEq, reduceIte, reduceDIte, if_pos rfl, Int.reduceLT, Int.reduceLE, Int.reduceEq, Int.reduceNeg, Int.reduceAdd, Int.reduceSub, Int.reduceMul, Int.reduceToNat, lget_put, List.length_set, el, e8]⟩, by simp only [go_sem, Nat.reducePow, Nat.reduceDiv, Nat.reduceMod, Nat.reduceAdd, Nat.reduceSub, Nat.reduceMul, Nat.reduceLeDiff, Nat.reduceLT, Nat.reduceEqDiff, reduceCtorEq, reduceIte, reduceDIte, if_pos rfl, Int.reduceLT, Int.reduceLE, Int.reduceEq, Int.reduceNeg, Int.reduceAdd, Int.reduceSub, Int.reduceMul, Int.reduceToNat, lget_put, List.length_set, el], by simp only [go_sem, Nat.reducePow, Nat.reduceDiv, Nat.reduceMod, Nat.reduceAdd, Nat.reduceSub, Nat.reduceMul, Nat.reduceLeDiff, Nat.reduceLT, Nat.reduceEqDiff, reduceCtorEq, reduceIte, reduceDIte, if_pos rfl, Int.reduceLT, Int.reduceLE, Int.reduceEq, Int.reduceNeg, Int.reduceAdd, Int.reduceSub, Int.reduceMul, Int.reduceToNat, lget_put, List.length_set, el] <;> rfl⟩, rfl, Nat.zero_le _, L3, ⟨s1, s2, s3, s4, t1, t2 x0 (by omega) (by omega), D3⟩⟩) ?_
    intro x fr' σ4 l4 hl4 hB4 hE4
    refine Hide.out ?_
    obtain ⟨rfl, ts4, rfl, el4⟩ := hE4
    refine ⟨?_⟩
    simp only [go_sem, Nat.reducePow, Nat.reduceDiv, Nat.reduceMod, Nat.reduceAdd, Nat.reduceSub, Nat.reduceMul, Nat.reduceLeDiff, Nat.reduceLT, Nat.reduceEqDiff, reduceCtorEq, reduceIte, reduceDIte, if_pos rfl, Int.reduceLT, Int.reduceLE, Int.reduceEq, Int.reduceNeg, Int.reduceAdd, Int.reduceSub, Int.reduceMul, Int.reduceToNat, callW, q8, p8, p7, p6, p5, p4, p3, p2, p1, lget_put, lgetq_put, List.length_set, el4]
    refine .of (known22_call _) ?_
    simp only [go_sem, Nat.reducePow, Nat.reduceDiv, Nat.reduceMod, Nat.reduceAdd, Nat.reduceSub, Nat.reduceMul, Nat.reduceLeDiff, Nat.reduceLT, Nat.reduceEqDiff, reduceCtorEq, reduceIte, reduceDIte, if_pos rfl, Int.reduceLT, Int.reduceLE, Int.reduceEq, Int.reduceNeg, Int.reduceAdd, Int.reduceSub, Int.reduceMul, Int.reduceToNat, callW, q8, p8, p7, p6, p5, p4, p3, p2, p1, lget_put, lgetq_put, List.length_set, el4]
    rintro c ((hc | hc) | hc | hc)
    · have := lo1 c hc; omega
    · have := lo2 c hc; omega
    · have := hB3 c hc; omega
    · have := hB4 c hc; omega

end Go.Ab

set_option linter.unusedSimpArgs false
set_option linter.unusedVariables false
namespace Go.Proofs.Ytlipmhhndhhgdaa.clockAlone
open Go.ChangeShapes Go.WideShapes Go.ChangeAt Go.RowKit Go.Ab

theorem own : ownKnob Try.prog.godebug = none := by kernel_rfl
theorem laidOut : laidOutB Try.prog = true := by kernel_rfl

theorem flat_acts : flatK Try.prog 5 56 = some [.int .i64, .int .i64, .int .i64, .int .i64, .int .i64, .int .i64, .int .i64] := by kernel_rfl

def k7 : List FK := [.int .i64, .int .i64, .int .i64, .int .i64, .int .i64, .int .i64, .int .i64]

theorem acts_cells {c : List Value} (h : oks k7 c) : ∃ a b d e f g i : Int, c = [.int .i64 a, .int .i64 b, .int .i64 d, .int .i64 e, .int .i64 f, .int .i64 g, .int .i64 i] := by
  have hl := oks_length h
  obtain ⟨a, b, d, e, f, g, i, rfl⟩ : ∃ a b d e f g i, c = [a, b, d, e, f, g, i] := by
    match c, hl with
    | [a, b, d, e, f, g, i], _ => exact ⟨a, b, d, e, f, g, i, rfl⟩
  obtain ⟨⟨a, rfl, _⟩, ⟨b, rfl, _⟩, ⟨d, rfl, _⟩, ⟨e, rfl, _⟩, ⟨f, rfl, _⟩, ⟨g, rfl, _⟩, ⟨i, rfl, _⟩, _⟩ := h
  exact ⟨a, b, d, e, f, g, i, rfl⟩

theorem acts_in {es : List (List Value)} (hok : ∀ c ∈ es, oks k7 c) : ∃ F Z A : Nat → Int, ActsIn es.flatten es.length F Z A := by
  have key : ∀ i, ∃ x : Int × Int × Int, i < es.length → ∃ id0 : Int, (es.flatten.drop (i * 7 + 1)).take 3 = [.int .i64 id0, .int .i64 x.1, .int .i64 x.2.1] ∧ i * 7 + 1 + 3 ≤ es.flatten.length ∧ lget? es.flatten (i * 7 + 6) = some (.int .i64 x.2.2) := fun i => by
    by_cases hi : i < es.length
    · obtain ⟨a, b, d, e, f, g, n, hc⟩ := acts_cells (hok es[i] (List.getElem_mem hi))
      obtain ⟨h3, h4⟩ := flatten_take (k := 7) (fun c hc => oks_length (hok c hc)) (List.getElem?_eq_getElem hi)
      rw [hc] at h3
      have h5 := List.take_append_drop 7 (es.flatten.drop (i * 7))
      rw [h3] at h5
      refine ⟨(d, e, n), fun _ => ⟨b, ?_, by omega, ?_⟩⟩
      · rw [← List.drop_drop, ← h5]; rfl
      · rw [lget?_eq, ← List.getElem?_drop, ← h5]; rfl
    · exact ⟨(0, 0, 0), fun h => absurd h hi⟩
  exact ⟨fun i => (Classical.choose (key i)).1, fun i => (Classical.choose (key i)).2.1, fun i => (Classical.choose (key i)).2.2, fun i hi => Classical.choose_spec (key i) hi⟩

theorem walk (r0 r1 r2 x0 x1 : Int) (a : Option Addr) (len cap : Nat) (es : List (List Value)) (w : World) (h : IsRow k7 w a len cap es) :
    Calls Try.prog 5 #[.slice a len cap, .agg #[.int .i64 r0, .int .i64 r1, .int .i64 r2], .agg #[.int .i64 x0, .int .i64 x1]] w fun e w' => e = .returned (.bool true) ∧ Below w.heap.size w w' := by
  have hok : ∀ c ∈ es, oks k7 c := by
    rcases h with ⟨_, _, _, rfl⟩ | ⟨x, _, _, _, _, h, _⟩
    · intro c hc; simp at hc
    · exact h
  obtain ⟨F, Z, A, hin⟩ := acts_in hok
  have va : ∀ ρ, VR ρ (.agg ⟨[.int .i64 r0, .int .i64 r1, .int .i64 r2]⟩) (.agg #[.int .i64 r0, .int .i64 r1, .int .i64 r2]) := fun ρ => .agg (.cons (.int _ _) (.cons (.int _ _) (.cons (.int _ _) .nil)))
  have vx : ∀ ρ, VR ρ (.agg ⟨[.int .i64 x0, .int .i64 x1]⟩) (.agg #[.int .i64 x0, .int .i64 x1]) := fun ρ => .agg (.cons (.int _ _) (.cons (.int _ _) .nil))
  obtain ⟨ρ, σ, v, hw, hro, hv, hs⟩ := row_in h (by decide)
  rcases hs with ⟨rfl, rfl, hv2⟩ | ⟨hl, rfl, rfl⟩
  · have key : ∀ sa : Option Addr, v = .slice sa 0 0 → (∀ σ, opLen (cP Try.prog).T σ 47 (.slice sa 0 0) = some (.val (.int .i64 ((0 : Nat) : Int)) [])) → Calls Try.prog 5 #[.slice a 0 cap, .agg #[.int .i64 r0, .int .i64 r1, .int .i64 r2], .agg #[.int .i64 x0, .int .i64 x1]] w fun e w' => e = .returned (.bool true) ∧ Below w.heap.size w w' := fun sa e hol => by
      subst e
      obtain ⟨e', σ', lg, d, rfl, f⟩ := alone_call (r0 := r0) (r1 := r1) (r2 := r2) (x0 := x0) (x1 := x1) (sa := sa) (len := 0) (cap := 0) (vs := []) (F := F) (Z := Z) (A := A) (σ := St.nil) hol (fun h => absurd h (by omega)) (fun h => absurd h (by omega)) (fun h => absurd h (by omega)) (fun i hi => absurd hi (by omega))
      exact calls_true d hw (.cons hv (.cons (va _) (.cons (vx _) .nil))) hro fun b hb hbl => by have := f b hbl; omega
    rcases hv2 with hv2 | hv2
    · exact key none hv2 fun σ => by simp only [opLen, cx_und, Try.underlying47]; rfl
    · exact key _ hv2 fun σ => by simp only [opLen, cx_und, Try.underlying47]
  · obtain ⟨e', σ', lg, d, rfl, f⟩ := alone_call (r0 := r0) (r1 := r1) (r2 := r2) (x0 := x0) (x1 := x1) (sa := some ⟨0, 0, some 0⟩) (len := len) (cap := cap) (vs := es.flatten) (F := F) (Z := Z) (A := A) (σ := St.nil.new (.cells es.flatten true)) (fun σ => by simp only [opLen, cx_und, Try.underlying47])
      (fun _ => rfl) (fun _ => Nat.zero_lt_one) (fun _ => by rw [St.get_new]; rfl) (fun i hi => hin i (by omega))
    exact calls_true d hw (.cons hv (.cons (va _) (.cons (vx _) .nil))) hro fun b hb hbl => by have := f b hbl; omega

theorem len3 {cs : List Value} (h : cs.length = 3) : ∃ a b c, cs = [a, b, c] := by
  match cs, h with
  | [a, b, c], _ => exact ⟨a, b, c, rfl⟩
theorem len2 {cs : List Value} (h : cs.length = 2) : ∃ a b, cs = [a, b] := by
  match cs, h with
  | [a, b], _ => exact ⟨a, b, rfl⟩

section
variable {H : Type} {enc : TypeId × Value → H} {w : World} {base : Nat} {spare : Nat → Bool} {held : Bool}
theorem arr3 {fuel : Nat} {cs : List Value} {x : DataW H × List MemPlace} (h : DataW.trod enc Try.prog w base spare held fuel 48 cs = some x) : ∃ a b c : Int, cs = [.int .i64 a, .int .i64 b, .int .i64 c] := by
  obtain ⟨xs, m, rfl, _, hl, hx, he⟩ := DataW.trod_array Try.underlying48 h
  have h1 : Try.prog.cellsOf 2 = 1 := by kernel_rfl
  rw [show Try.prog.cellsOf 48 = 3 by kernel_rfl] at hl
  rw [h1] at he
  obtain ⟨a, b, c, rfl⟩ := len3 hl
  have h0' := (he 0 (by decide)).trans (List.getElem?_eq_getElem (show 0 < xs.length by omega))
  have h1' := (he 1 (by decide)).trans (List.getElem?_eq_getElem (show 1 < xs.length by omega))
  have h2' := (he 2 (by decide)).trans (List.getElem?_eq_getElem (show 2 < xs.length by omega))
  obtain ⟨i0, e0, _⟩ := DataW.trod_int Try.underlying2 h0'
  obtain ⟨i1, e1, _⟩ := DataW.trod_int Try.underlying2 h1'
  obtain ⟨i2, e2, _⟩ := DataW.trod_int Try.underlying2 h2'
  have e0 : [a] = [Value.int .i64 i0] := e0
  have e1 : [b] = [Value.int .i64 i1] := e1
  have e2 : [c] = [Value.int .i64 i2] := e2
  cases e0; cases e1; cases e2
  exact ⟨i0, i1, i2, rfl⟩
theorem arr2 {fuel : Nat} {cs : List Value} {x : DataW H × List MemPlace} (h : DataW.trod enc Try.prog w base spare held fuel 49 cs = some x) : ∃ a b : Int, cs = [.int .i64 a, .int .i64 b] := by
  obtain ⟨xs, m, rfl, _, hl, hx, he⟩ := DataW.trod_array Try.underlying49 h
  have h1 : Try.prog.cellsOf 3 = 1 := by kernel_rfl
  rw [show Try.prog.cellsOf 49 = 2 by kernel_rfl] at hl
  rw [h1] at he
  obtain ⟨a, b, rfl⟩ := len2 hl
  have h0' := (he 0 (by decide)).trans (List.getElem?_eq_getElem (show 0 < xs.length by omega))
  have h1' := (he 1 (by decide)).trans (List.getElem?_eq_getElem (show 1 < xs.length by omega))
  obtain ⟨i0, e0, _⟩ := DataW.trod_int Try.underlying3 h0'
  obtain ⟨i1, e1, _⟩ := DataW.trod_int Try.underlying3 h1'
  have e0 : [a] = [Value.int .i64 i0] := e0
  have e1 : [b] = [Value.int .i64 i1] := e1
  cases e0; cases e1
  exact ⟨i0, i1, rfl⟩
end

set_option maxRecDepth 100000 in
theorem lifted (os : Os) (started : os.Started) (H : Type) (enc : TypeId × Value → H) :
    ReturnsInHanded {} Try.checked os 5 .any (Rows.clockAloneSpec.pre6 enc Try.prog Try.f5 Rows.clockAloneRow.domain false) (Rows.clockAloneSpec.post enc Try.prog Try.f5 false true false false) := by
  refine returnsInHanded_of_change (C := Try.checked) own started (by kernel_rfl) Try.func5
    (ChangeSpec.witness6 (enc := enc) (C := Try.checked) false ⟨#[], #[.slice none 0 0, .agg #[.int .i64 0, .int .i64 0, .int .i64 0], .agg #[.int .i64 0, .int .i64 0]], []⟩ 8 (by kernel_rfl) (by kernel_rfl) (by kernel_rfl) (by kernel_rfl)) ?_
  intro W base args ds gs before hval0 hW hcnd _
  have hval : ∀ (j : Nat) t v, Try.f5.params[j]? = some t → args[j]? = some v → Value.okWide Try.prog W .any base t v := hval0
  have hW' := hW
  obtain ⟨p, q, hA0, hV, rfl, hfz, hnd⟩ := hW
  have hA : DataW.TrodAll enc Try.prog W 0 (fun _ => true) true Try.f5.params.toList args.toList ds p := hA0
  rw [Try.params5] at hA hval
  obtain ⟨v0, vs0, d0, ds0, p0, q0, hargs, rfl, rfl, h0, r0⟩ := trodAll_cons hA
  obtain ⟨v1, vs1, d1, ds1, p1, q1, rfl, rfl, rfl, h1, r1⟩ := trodAll_cons r0
  obtain ⟨v2, vs2, d2, ds2, p2, q2, rfl, rfl, rfl, h2, r2⟩ := trodAll_cons r1
  obtain ⟨rfl, rfl, rfl⟩ := trodAll_nil r2
  obtain rfl : args = #[v0, v1, v2] := by cases args; simp_all
  obtain ⟨rfl, rfl⟩ := trodVars_none hV
  obtain ⟨a0, len0, cap0, rfl⟩ := okWide_slice Try.underlying47 (hval 0 47 v0 rfl rfl)
  have o1 := hval 1 48 v1 rfl rfl
  have o2 := hval 2 49 v2 rfl rfl
  simp only [Value.okWide, Try.underlying48] at o1
  simp only [Value.okWide, Try.underlying49] at o2
  obtain ⟨cs1, rfl, _⟩ := o1
  obtain ⟨cs2, rfl, _⟩ := o2
  have k0 := h0
  have k1 := h1
  have k2 := h2
  have lt0 : ∀ x ∈ p0, x.block < W.heap.size := by obtain ⟨m, hm⟩ := k0; exact DataW.trod_lt m _ _ _ hm
  have lt1 : ∀ x ∈ p1, x.block < W.heap.size := by obtain ⟨m, hm⟩ := k1; exact DataW.trod_lt m _ _ _ hm
  have lt2 : ∀ x ∈ p2, x.block < W.heap.size := by obtain ⟨m, hm⟩ := k2; exact DataW.trod_lt m _ _ _ hm
  obtain ⟨y0, y1, y2, rfl⟩ : ∃ y0 y1 y2 : Int, cs1 = #[.int .i64 y0, .int .i64 y1, .int .i64 y2] := by
    obtain ⟨fuel, hf⟩ := h1
    obtain ⟨y0, y1, y2, hx⟩ := arr3 hf
    refine ⟨y0, y1, y2, ?_⟩
    cases cs1; simpa [Value.cells] using hx
  obtain ⟨z0, z1, rfl⟩ : ∃ z0 z1 : Int, cs2 = #[.int .i64 z0, .int .i64 z1] := by
    obtain ⟨fuel, hf⟩ := h2
    obtain ⟨z0, z1, hx⟩ := arr2 hf
    refine ⟨z0, z1, ?_⟩
    cases cs2; simpa [Value.cells] using hx
  obtain ⟨es, w0⟩ : ∃ es, IsRow k7 W a0 len0 cap0 es := by
    obtain ⟨fuel, hf⟩ := h0
    rcases open_flats Try.underlying47 flat_acts (by kernel_rfl) hf with hcs | ⟨x, l, c, es, hcs, _, hl, hm, hz, hok, hcell⟩
    · simp [Value.cells] at hcs
      obtain ⟨rfl, rfl, rfl⟩ := hcs
      exact ⟨[], .inl ⟨rfl, rfl, rfl, rfl⟩⟩
    · simp [Value.cells] at hcs
      obtain ⟨rfl, rfl, rfl⟩ := hcs
      exact ⟨es, .inr ⟨_, rfl, hl, hm, hz, hok, hcell⟩⟩
  clear hA0 hval0
  refine (walk y0 y1 y2 z0 z1 a0 len0 cap0 es W w0).mono fun e W' ⟨he, bel⟩ => ?_
  subst he
  exact ⟨_, rfl, _, _, _, [], _, [], hW', trodAll_mk1 (shut_bool Try.underlying4 _), (trodAll_cons_mk (Below.trod laidOut (by kernel_rfl) (of_decide_eq_true (by kernel_rfl)) k0 bel lt0) (trodAll_cons_mk (Below.trod laidOut (by kernel_rfl) (of_decide_eq_true (by kernel_rfl)) k1 bel lt1) (trodAll_cons_mk (Below.trod laidOut (by kernel_rfl) (of_decide_eq_true (by kernel_rfl)) k2 bel lt2) trodAll_mk0))), rfl, bel.frame _, fun h => by cases h⟩

theorem over : Rows.clockAloneRow.holds Try.pinned (OpenSpec.ofChange Rows.clockAloneSpec) :=
  OpenClaim.holds_of_wide 5 Try.f5 rfl rfl rfl rfl rfl rfl rfl ⟨rfl, rfl, rfl, rfl, rfl⟩ rfl rfl rfl rfl rfl (by kernel_rfl) Try.func5 (by kernel_rfl)
    (of_decide_eq_true (by kernel_rfl)) (by unfold Func.isWrapper; first | (rw [if_pos (by decide +kernel)]; kernel_rfl) | (rw [if_neg (by decide +kernel)]; exact ⟨rfl, rfl⟩))
    (fun os started H enc _ => lifted os started H enc)

/-- The statement. -/
theorem proved : Rows.ClockAloneSaid := over
#print axioms proved
end Go.Proofs.Ytlipmhhndhhgdaa.clockAlone
