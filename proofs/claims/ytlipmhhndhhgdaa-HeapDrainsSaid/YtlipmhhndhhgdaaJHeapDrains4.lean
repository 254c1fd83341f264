/- The reference's fractions: size, Right. The reference's fractions: Cmp. The reference's heap, empty: Put, Set, Drop, Take answer. The reference's heap, empty: Set, Drop, Take; lay and Put. The reference's heap, empty: lay and Put. The reference's heap, empty: Put; a call of 'does' on it. A plain law: what a heap is behind any calls, and what is taken out rises. heap: any call of Put, Set, Drop, Take on a heap behind k calls; what it turns stands between two bounds. A call of 'does': whatever the act, on a heap behind k calls and a reference without an item. A call of 'does': Take; no act; any act. HeapDrains: the walk's two loops. The functions and types of the seat's program as trees, and the runner of whole calls over them. HeapDrains: the call. The statement: HeapDrains returns true, for every slice of acts; the argument reads behind the call as it read before. -/
import Derived.Test.YtlipmhhndhhgdaaJHeapDrains3
import Derived.Test.YtlipmhhndhhgdaaJHeapDrains2
import Derived.Test.YtlipmhhndhhgdaaJHeapDrains1
import Derived.Test.YtlipmhhndhhgdaaProg
import Derived.KernelRfl
import Derived.Test.YtlipmhhndhhgdaaRows
import Derived.ChangeOld
import Derived.Carry
import Derived.Below

set_option linter.unusedSimpArgs false
set_option linter.unusedVariables false
namespace Go.Ab
open Go.Proofs

theorem sizeB_call (n : Int) (σ : St) (h : okI n = true) : DCall Try.prog 56 [.int .i64 n] σ (.ret (.int .u64 n.natAbs)) σ [] := by
  simp only [okI, Bool.and_eq_true, decide_eq_true_eq] at h
  refine calls Orc.none_ok Try.func56 rfl 20 nobt (by kernel_rfl) ?_
  by_cases hn : n < 0
  · have w1 : IntKind.i64.wrap (-1 - n) = -1 - n := by rw [IntKind.wrap_i64]; omega
    have w2 : IntKind.u64.wrap (-1 - n) = -1 - n := by rw [IntKind.wrap_u64]; omega
    have w3 : IntKind.u64.wrap (1 + (-1 - n)) = (n.natAbs : Int) := by rw [IntKind.wrap_u64]; omega
    exact ⟨_, by simp only [go_sem, Nat.reducePow, Nat.reduceDiv, Nat.reduceMod, Nat.reduceAdd, Nat.reduceSub, Nat.reduceMul, Nat.reduceLeDiff, Nat.reduceLT, Nat.reduceEqDiff, reduceCtorEq, reduceIte, reduceDIte, if_pos rfl, Int.reduceLT, Int.reduceLE, Int.reduceEq, Int.reduceNeg, Int.reduceAdd, Int.reduceSub, Int.reduceMul, Int.reduceToNat, hn, w1, w2, w3, Try.f56, Try.underlying2, info2, Try.t2, Try.underlying4, info4, Try.t4, Try.underlying115, info115, Try.t115] <;> rfl, by simp only [go_sem, Nat.reducePow, Nat.reduceDiv, Nat.reduceMod, Nat.reduceAdd, Nat.reduceSub, Nat.reduceMul, Nat.reduceLeDiff, Nat.reduceLT, Nat.reduceEqDiff, reduceCtorEq, reduceIte, reduceDIte, if_pos rfl, Int.reduceLT, Int.reduceLE, Int.reduceEq, Int.reduceNeg, Int.reduceAdd, Int.reduceSub, Int.reduceMul, Int.reduceToNat, Try.f56], rfl, rfl⟩
  · have w1 : IntKind.u64.wrap n = (n.natAbs : Int) := by rw [IntKind.wrap_u64]; omega
    exact ⟨_, by simp only [go_sem, Nat.reducePow, Nat.reduceDiv, Nat.reduceMod, Nat.reduceAdd, Nat.reduceSub, Nat.reduceMul, Nat.reduceLeDiff, Nat.reduceLT, Nat.reduceEqDiff, reduceCtorEq, reduceIte, reduceDIte, if_pos rfl, Int.reduceLT, Int.reduceLE, Int.reduceEq, Int.reduceNeg, Int.reduceAdd, Int.reduceSub, Int.reduceMul, Int.reduceToNat, hn, w1, Try.f56, Try.underlying2, info2, Try.t2, Try.underlying4, info4, Try.t4, Try.underlying115, info115, Try.t115] <;> rfl, by simp only [go_sem, Nat.reducePow, Nat.reduceDiv, Nat.reduceMod, Nat.reduceAdd, Nat.reduceSub, Nat.reduceMul, Nat.reduceLeDiff, Nat.reduceLT, Nat.reduceEqDiff, reduceCtorEq, reduceIte, reduceDIte, if_pos rfl, Int.reduceLT, Int.reduceLE, Int.reduceEq, Int.reduceNeg, Int.reduceAdd, Int.reduceSub, Int.reduceMul, Int.reduceToNat, Try.f56], rfl, rfl⟩

def q1 : FuncId → List Value → Option Value
  | 56, [.int .i64 n] => if okI n then some (.int .u64 n.natAbs) else none
  | f, args => p8 f args
theorem q1_is : ∀ f args v, q1 f args = some v → ∀ σ, DCall Try.prog f args σ (.ret v) σ [] := fun f args v h σ => by
  unfold q1 at h
  split at h
  · split at h
    · rename_i hn
      cases h
      exact sizeB_call _ σ hn
    · cases h
  · exact p8_is f args v h σ
theorem q1_ok : (pureO q1).Ok Try.prog := pureO_ok q1_is

def bt116 : Nat → List Nat
  | 3 => [0, 1, 3, 7, 0, 16, 48, 127, 255, 511]
  | _ => []

noncomputable def rightB : Code := Try.f116.body.getD .skip

theorem dig_one : dig 1 = [1] := by decide
theorem dig_single {g x : Nat} (h : dig g = [x]) : g = x := by
  have := val_dig g
  rw [h] at this
  simpa [val] using this.symm

set_option maxRecDepth 20000 in
theorem right_call (n d : Int) (σ : St) (hn : okI n = true) (hd : okI d = true) : DCall Try.prog 116 [.agg ⟨[.int .i64 n, .int .i64 d]⟩] σ (.ret (.bool (decide (chk n d)))) σ [] := by
  have hn' := hn
  have hd' := hd
  simp only [okI, Bool.and_eq_true, decide_eq_true_eq] at hn' hd'
  obtain ⟨ts0, h0, l0, q0⟩ : ∃ ts0, start [.agg ⟨[.int .i64 n, .int .i64 d]⟩] Try.f116.ntmps = ⟨ts0, []⟩ ∧ ts0.length = 31 ∧ lget ts0 0 = .agg ⟨[.int .i64 n, .int .i64 d]⟩ := ⟨(start [.agg ⟨[.int .i64 n, .int .i64 d]⟩] 31).ts, rfl, rfl, rfl⟩
  let σ1 := σ.new (.cells [.int .i64 n, .int .i64 d] false)
  have g1 : σ1.get σ.next = some (.cells [.int .i64 n, .int .i64 d] false) := by rw [St.get_new, if_pos rfl]
  obtain ⟨ts1, r1, l1, q1'⟩ : ∃ ts1, DC Try.prog false (nthC 0 rightB) ⟨ts0, []⟩ σ ⟨.norm, ⟨ts1, []⟩, σ1, []⟩ ∧ ts1.length = 31 ∧ lget ts1 1 = .pointer (some ⟨σ.next, 0, none⟩) := by
    refine ⟨_, runs Orc.none_ok 40 nobt (by kernel_rfl) (by simp only [go_sem, Nat.reducePow, Nat.reduceDiv, Nat.reduceMod, Nat.reduceAdd, Nat.reduceSub, Nat.reduceMul, Nat.reduceLeDiff, Nat.reduceLT, Nat.reduceEqDiff, reduceCtorEq, reduceIte, reduceDIte, if_pos rfl, Int.reduceLT, Int.reduceLE, Int.reduceEq, Int.reduceNeg, Int.reduceAdd, Int.reduceSub, Int.reduceMul, Int.reduceToNat, σ1, nthC, rightB, Option.getD, lget_put, lgetq_put, List.length_set, q0, l0, Try.f116, Try.underlying2, info2, Try.t2, Try.underlying3, info3, Try.t3, Try.underlying4, info4, Try.t4, Try.underlying23, info23, Try.t23, Try.underlying24, info24, Try.t24, Try.underlying112, info112, Try.t112, Try.underlying115, info115, Try.t115, Try.underlying154, info154, Try.t154] <;> rfl), ?_, ?_⟩ <;> simp only [lget_put, List.length_set, l0, Nat.reduceEqDiff, Nat.reduceLT, if_true, if_false]
  by_cases hd1 : d < 1
  · have hc : decide (chk n d) = false := decide_eq_false fun h => by have := h.1; omega
    rw [hc]
    obtain ⟨ts2, r2, p2⟩ : ∃ ts2, DC Try.prog false (nthC 1 rightB) ⟨ts1, []⟩ σ1 ⟨.ret, ⟨ts2, []⟩, σ1, []⟩ ∧ lget ts2 2 = .bool false := by
      refine ⟨_, runs q1_ok 40 nobt (by kernel_rfl) (by simp only [go_sem, Nat.reducePow, Nat.reduceDiv, Nat.reduceMod, Nat.reduceAdd, Nat.reduceSub, Nat.reduceMul, Nat.reduceLeDiff, Nat.reduceLT, Nat.reduceEqDiff, reduceCtorEq, reduceIte, reduceDIte, if_pos rfl, Int.reduceLT, Int.reduceLE, Int.reduceEq, Int.reduceNeg, Int.reduceAdd, Int.reduceSub, Int.reduceMul, Int.reduceToNat, nthC, rightB, Option.getD, lget_put, lgetq_put, List.length_set, q1', l1, g1, hd1, Try.f116, Try.underlying2, info2, Try.t2, Try.underlying3, info3, Try.t3, Try.underlying4, info4, Try.t4, Try.underlying23, info23, Try.t23, Try.underlying24, info24, Try.t24, Try.underlying112, info112, Try.t112, Try.underlying115, info115, Try.t115, Try.underlying154, info154, Try.t154, body56] <;> rfl), ?_⟩
      simp only [lget_put, List.length_set, l1, Nat.reduceEqDiff, Nat.reduceLT, if_true, if_false]
    refine DCall.forget (σ' := σ1) (callsD Try.func116 (rfl : Try.f116.body = some rightB) (h0 ▸ DC.seq r1 rfl (DC.seq_out r2 rfl)) ?_ rfl rfl) rfl
    simp only [endsA, Try.f116, resA, resList, resOne, p2, Option.map, RR.pre]
  · by_cases hmin : n = -9223372036854775808
    · have hc : decide (chk n d) = false := by simp [chk, hmin]
      rw [hc]
      have c1 : (9223372036854775808 : Int) ≤ (n.natAbs : Int) := by omega
      obtain ⟨ts2, r2, p2⟩ : ∃ ts2, DC Try.prog false (nthC 1 rightB) ⟨ts1, []⟩ σ1 ⟨.ret, ⟨ts2, []⟩, σ1, []⟩ ∧ lget ts2 2 = .bool false := by
        refine ⟨_, runs q1_ok 40 nobt (by kernel_rfl) (by simp only [go_sem, Nat.reducePow, Nat.reduceDiv, Nat.reduceMod, Nat.reduceAdd, Nat.reduceSub, Nat.reduceMul, Nat.reduceLeDiff, Nat.reduceLT, Nat.reduceEqDiff, reduceCtorEq, reduceIte, reduceDIte, if_pos rfl, Int.reduceLT, Int.reduceLE, Int.reduceEq, Int.reduceNeg, Int.reduceAdd, Int.reduceSub, Int.reduceMul, Int.reduceToNat, q1, nthC, rightB, Option.getD, lget_put, lgetq_put, List.length_set, q1', l1, g1, hd1, hn, c1, Try.f116, Try.underlying2, info2, Try.t2, Try.underlying3, info3, Try.t3, Try.underlying4, info4, Try.t4, Try.underlying23, info23, Try.t23, Try.underlying24, info24, Try.t24, Try.underlying112, info112, Try.t112, Try.underlying115, info115, Try.t115, Try.underlying154, info154, Try.t154, body56] <;> rfl), ?_⟩
        simp only [lget_put, List.length_set, l1, Nat.reduceEqDiff, Nat.reduceLT, if_true, if_false]
      refine DCall.forget (σ' := σ1) (callsD Try.func116 (rfl : Try.f116.body = some rightB) (h0 ▸ DC.seq r1 rfl (DC.seq_out r2 rfl)) ?_ rfl rfl) rfl
      simp only [endsA, Try.f116, resA, resList, resOne, p2, Option.map, RR.pre]
    · have c1 : ¬ (9223372036854775808 : Int) ≤ (n.natAbs : Int) := by omega
      obtain ⟨ts2, r2, l2, q2'⟩ : ∃ ts2, DC Try.prog false (nthC 1 rightB) ⟨ts1, []⟩ σ1 ⟨.norm, ⟨ts2, []⟩, σ1, []⟩ ∧ ts2.length = 31 ∧ lget ts2 1 = .pointer (some ⟨σ.next, 0, none⟩) := by
        refine ⟨_, runs q1_ok 40 nobt (by kernel_rfl) (by simp only [go_sem, Nat.reducePow, Nat.reduceDiv, Nat.reduceMod, Nat.reduceAdd, Nat.reduceSub, Nat.reduceMul, Nat.reduceLeDiff, Nat.reduceLT, Nat.reduceEqDiff, reduceCtorEq, reduceIte, reduceDIte, if_pos rfl, Int.reduceLT, Int.reduceLE, Int.reduceEq, Int.reduceNeg, Int.reduceAdd, Int.reduceSub, Int.reduceMul, Int.reduceToNat, q1, nthC, rightB, Option.getD, lget_put, lgetq_put, List.length_set, q1', l1, g1, hd1, hn, c1, Try.f116, Try.underlying2, info2, Try.t2, Try.underlying3, info3, Try.t3, Try.underlying4, info4, Try.t4, Try.underlying23, info23, Try.t23, Try.underlying24, info24, Try.t24, Try.underlying112, info112, Try.t112, Try.underlying115, info115, Try.t115, Try.underlying154, info154, Try.t154, body56] <;> rfl), ?_, ?_⟩ <;> simp only [lget_put, List.length_set, q1', l1, Nat.reduceEqDiff, Nat.reduceLT, if_true, if_false]
      obtain ⟨σa, va, da, ba, _⟩ := of_call (n := n.natAbs) (by omega) σ1
      have da' := da.pad
      have ka := same_of da'
      obtain ⟨σb, vb, db, bb, _⟩ := of_call (n := d.natAbs) (by omega) σa.pad
      have db' := db.pad
      have kb := same_of db'
      have la : (dig n.natAbs).length ≤ 4 := dig_length_le (by omega)
      have lb : (dig d.natAbs).length ≤ 4 := dig_length_le (by omega)
      obtain ⟨σc, vc, dc, bc⟩ := gcdB_call (ba.pad.keep kb.1 kb.2) bb.pad (by omega) (by omega)
      have kc := same_of dc
      have ed : IntKind.u64.wrap d = (d.natAbs : Int) := by rw [IntKind.wrap_u64]; omega
      have nab : ¬ σa.pad = σ1 := St.ne_of_next (by rw [St.next_pad]; have := same_of da; omega)
      have gb : σa.pad.get σ.next = some (.cells [.int .i64 n, .int .i64 d] false) := (ka.2 _ (Nat.lt_succ_self _)).trans g1
      have n1 : ¬ σ1.next ≤ σ.next := by show ¬ σ.next + 1 ≤ σ.next; omega
      obtain ⟨ts3, r3, l3, q3⟩ : ∃ ts3, DC Try.prog false (nthC 2 rightB) ⟨ts2, []⟩ σ1 ⟨.norm, ⟨ts3, []⟩, σc, []⟩ ∧ ts3.length = 31 ∧ lget ts3 3 = vc := by
        refine ⟨_, runs (one_ok' (one_ok' (one_ok' q1_ok dc) db') da') 40 bt116 (by kernel_rfl) (by simp only [go_sem, Nat.reducePow, Nat.reduceDiv, Nat.reduceMod, Nat.reduceAdd, Nat.reduceSub, Nat.reduceMul, Nat.reduceLeDiff, Nat.reduceLT, Nat.reduceEqDiff, reduceCtorEq, reduceIte, reduceDIte, if_pos rfl, Int.reduceLT, Int.reduceLE, Int.reduceEq, Int.reduceNeg, Int.reduceAdd, Int.reduceSub, Int.reduceMul, Int.reduceToNat, bt116, q1, nthC, rightB, Option.getD, Orc.one_call, one_other, one_miss nab, lget_put, lgetq_put, List.length_set, q2', l2, g1, gb, hn, ed, n1, Try.f116, Try.underlying2, info2, Try.t2, Try.underlying3, info3, Try.t3, Try.underlying4, info4, Try.t4, Try.underlying23, info23, Try.t23, Try.underlying24, info24, Try.t24, Try.underlying112, info112, Try.t112, Try.underlying115, info115, Try.t115, Try.underlying154, info154, Try.t154, body55, body56, body95] <;> rfl), ?_, ?_⟩ <;> simp only [lget_put, List.length_set, l2, Nat.reduceEqDiff, Nat.reduceLT, if_true, if_false]
      obtain ⟨g, hg⟩ : ∃ g, Nat.gcd n.natAbs d.natAbs = g := ⟨_, rfl⟩
      rw [hg] at bc
      have hchk : chk n d ↔ g = 1 := by
        unfold chk
        rw [← hg]
        constructor
        · rintro ⟨_, _, h⟩; exact h
        · intro h; exact ⟨by omega, hmin, h⟩
      have oC := bc.len
      have last : ∀ r : Bool, r = decide (chk n d) → (∃ ts4, DC Try.prog false (nthC 3 rightB) ⟨ts3, []⟩ σc ⟨.norm, ⟨ts4, []⟩, σc, []⟩ ∧ lget ts4 2 = .bool r) → DCall Try.prog 116 [.agg ⟨[.int .i64 n, .int .i64 d]⟩] σ (.ret (.bool (decide (chk n d)))) σ [] := by
        rintro r hr ⟨ts4, r4, p2⟩
        rw [← hr]
        refine DCall.forget (σ' := σc) (callsD Try.func116 (rfl : Try.f116.body = some rightB) (h0 ▸ DC.seq r1 rfl (DC.seq r2 rfl (DC.seq r3 rfl (DC.seq r4 rfl (DC.ret _ _ _))))) ?_ rfl rfl) rfl
        simp only [endsA, Try.f116, resA, resList, resOne, p2, Option.map, RR.pre]
      by_cases h1 : (dig g).length = 1
      · obtain ⟨x, hx⟩ : ∃ x, dig g = [x] := List.length_eq_one_iff.1 h1
        have hgx := dig_single hx
        obtain ⟨b, sp, cap, vs, ro, rfl, hb, hgv, he⟩ := bc.at (i := 0) (d := x) (by rw [hx]; rfl)
        rw [h1] at q3 oC
        have e1 : (((1 : Nat) : Int) == 1) = true := by decide
        by_cases hx1 : x = 1
        · have e2 : ((x : Int) == 1) = true := by rw [hx1]; decide
          refine last true (by rw [decide_eq_true (hchk.2 (by omega))]) ⟨_, runs Orc.none_ok 40 nobt (by kernel_rfl) (by simp only [go_sem, Nat.reducePow, Nat.reduceDiv, Nat.reduceMod, Nat.reduceAdd, Nat.reduceSub, Nat.reduceMul, Nat.reduceLeDiff, Nat.reduceLT, Nat.reduceEqDiff, reduceCtorEq, reduceIte, reduceDIte, if_pos rfl, Int.reduceLT, Int.reduceLE, Int.reduceEq, Int.reduceNeg, Int.reduceAdd, Int.reduceSub, Int.reduceMul, Int.reduceToNat, nthC, rightB, Option.getD, lget_put, lgetq_put, List.length_set, q3, l3, oC, hgv, he, e1, e2, Int.natCast_one, Try.f116, Try.underlying2, info2, Try.t2, Try.underlying3, info3, Try.t3, Try.underlying4, info4, Try.t4, Try.underlying23, info23, Try.t23, Try.underlying24, info24, Try.t24, Try.underlying112, info112, Try.t112, Try.underlying115, info115, Try.t115, Try.underlying154, info154, Try.t154] <;> rfl), ?_⟩
          simp only [lget_put, List.length_set, l3, Nat.reduceEqDiff, Nat.reduceLT, if_true, if_false]
        · have e2 : ((x : Int) == 1) = false := by simp; omega
          refine last false (by rw [decide_eq_false (fun h => hx1 (by have := hchk.1 h; omega))]) ⟨_, runs Orc.none_ok 40 nobt (by kernel_rfl) (by simp only [go_sem, Nat.reducePow, Nat.reduceDiv, Nat.reduceMod, Nat.reduceAdd, Nat.reduceSub, Nat.reduceMul, Nat.reduceLeDiff, Nat.reduceLT, Nat.reduceEqDiff, reduceCtorEq, reduceIte, reduceDIte, if_pos rfl, Int.reduceLT, Int.reduceLE, Int.reduceEq, Int.reduceNeg, Int.reduceAdd, Int.reduceSub, Int.reduceMul, Int.reduceToNat, nthC, rightB, Option.getD, lget_put, lgetq_put, List.length_set, q3, l3, oC, hgv, he, e1, e2, Int.natCast_one, Try.f116, Try.underlying2, info2, Try.t2, Try.underlying3, info3, Try.t3, Try.underlying4, info4, Try.t4, Try.underlying23, info23, Try.t23, Try.underlying24, info24, Try.t24, Try.underlying112, info112, Try.t112, Try.underlying115, info115, Try.t115, Try.underlying154, info154, Try.t154] <;> rfl), ?_⟩
          simp only [lget_put, List.length_set, l3, Nat.reduceEqDiff, Nat.reduceLT, if_true, if_false]
      · have e1 : (((dig g).length : Int) == 1) = false := by simp; omega
        refine last false (by rw [decide_eq_false (fun h => h1 (by rw [hchk.1 h]; rfl))]) ⟨_, runs Orc.none_ok 40 nobt (by kernel_rfl) (by simp only [go_sem, Nat.reducePow, Nat.reduceDiv, Nat.reduceMod, Nat.reduceAdd, Nat.reduceSub, Nat.reduceMul, Nat.reduceLeDiff, Nat.reduceLT, Nat.reduceEqDiff, reduceCtorEq, reduceIte, reduceDIte, if_pos rfl, Int.reduceLT, Int.reduceLE, Int.reduceEq, Int.reduceNeg, Int.reduceAdd, Int.reduceSub, Int.reduceMul, Int.reduceToNat, nthC, rightB, Option.getD, lget_put, lgetq_put, List.length_set, q3, l3, oC, e1, Try.f116, Try.underlying2, info2, Try.t2, Try.underlying3, info3, Try.t3, Try.underlying4, info4, Try.t4, Try.underlying23, info23, Try.t23, Try.underlying24, info24, Try.t24, Try.underlying112, info112, Try.t112, Try.underlying115, info115, Try.t115, Try.underlying154, info154, Try.t154] <;> rfl), ?_⟩
        simp only [lget_put, List.length_set, l3, Nat.reduceEqDiff, Nat.reduceLT, if_true, if_false]

end Go.Ab

set_option linter.unusedSimpArgs false
set_option linter.unusedVariables false
namespace Go.Ab
open Go.Proofs

def bt20 : Nat → List Nat
  | 1 => [0, 1, 3, 7, 0, 16, 48, 127, 255, 0, 512, 2047, 4095, 0, 8192, 24576, 65535, 131071, 262143, 524287]
  | _ => []

noncomputable def cmpB : Code := Try.f20.body.getD .skip

theorem cmp_of {n₁ d₁ n₂ d₂ : Int} (h1 : 1 ≤ d₁) (h2 : 1 ≤ d₂) : ((n₁.natAbs * d₂.natAbs : Nat) : Int) = (if n₁ < 0 then -(n₁ * d₂) else n₁ * d₂) ∧ ((n₂.natAbs * d₁.natAbs : Nat) : Int) = (if n₂ < 0 then -(n₂ * d₁) else n₂ * d₁) := by
  have e : ∀ n d : Int, 1 ≤ d → ((n.natAbs * d.natAbs : Nat) : Int) = if n < 0 then -(n * d) else n * d := fun n d hd => by
    rw [Int.natCast_mul]
    have ed : (d.natAbs : Int) = d := by omega
    rw [ed]
    split
    · have : (n.natAbs : Int) = -n := by omega
      rw [this, Int.neg_mul]
    · have : (n.natAbs : Int) = n := by omega
      rw [this]
  exact ⟨e _ _ h2, e _ _ h1⟩

set_option maxRecDepth 20000 in
theorem cmpB_call (n₁ d₁ n₂ d₂ : Int) (σ : St) (hn₁ : okI n₁ = true) (hd₁ : okI d₁ = true) (hn₂ : okI n₂ = true) (hd₂ : okI d₂ = true) (p₁ : 1 ≤ d₁) (p₂ : 1 ≤ d₂) :
    DCall Try.prog 20 [.agg ⟨[.int .i64 n₁, .int .i64 d₁]⟩, .agg ⟨[.int .i64 n₂, .int .i64 d₂]⟩] σ (.ret (.int .i64 (cmpR n₁ d₁ n₂ d₂))) σ [] := by
  have i1 := hn₁
  have i2 := hd₁
  have i3 := hn₂
  have i4 := hd₂
  simp only [okI, Bool.and_eq_true, decide_eq_true_eq] at i1 i2 i3 i4
  obtain ⟨ts0, h0, l0, q0, q1'⟩ : ∃ ts0, start [.agg ⟨[.int .i64 n₁, .int .i64 d₁]⟩, .agg ⟨[.int .i64 n₂, .int .i64 d₂]⟩] Try.f20.ntmps = ⟨ts0, []⟩ ∧ ts0.length = 55 ∧ lget ts0 0 = .agg ⟨[.int .i64 n₁, .int .i64 d₁]⟩ ∧ lget ts0 1 = .agg ⟨[.int .i64 n₂, .int .i64 d₂]⟩ :=
    ⟨(start [.agg ⟨[.int .i64 n₁, .int .i64 d₁]⟩, .agg ⟨[.int .i64 n₂, .int .i64 d₂]⟩] 55).ts, rfl, rfl, rfl, rfl⟩
  let σ1 := (σ.new (.cells [.int .i64 n₁, .int .i64 d₁] false)).new (.cells [.int .i64 n₂, .int .i64 d₂] false)
  have g1 : σ1.get σ.next = some (.cells [.int .i64 n₁, .int .i64 d₁] false) := by rw [St.get_new, if_neg (by simp), St.get_new, if_pos rfl]
  have g2 : σ1.get (σ.next + 1) = some (.cells [.int .i64 n₂, .int .i64 d₂] false) := by rw [St.get_new, if_pos (by rfl)]
  have nx1 : σ1.next = σ.next + 2 := rfl
  obtain ⟨ts1, r1, l1, q2, q3⟩ : ∃ ts1, DC Try.prog false (nthC 0 cmpB) ⟨ts0, []⟩ σ ⟨.norm, ⟨ts1, []⟩, σ1, []⟩ ∧ ts1.length = 55 ∧ lget ts1 2 = .pointer (some ⟨σ.next, 0, none⟩) ∧ lget ts1 3 = .pointer (some ⟨σ.next + 1, 0, none⟩) := by
    refine ⟨_, runs Orc.none_ok 40 nobt (by kernel_rfl) (by simp only [go_sem, Nat.reducePow, Nat.reduceDiv, Nat.reduceMod, Nat.reduceAdd, Nat.reduceSub, Nat.reduceMul, Nat.reduceLeDiff, Nat.reduceLT, Nat.reduceEqDiff, reduceCtorEq, reduceIte, reduceDIte, if_pos rfl, Int.reduceLT, Int.reduceLE, Int.reduceEq, Int.reduceNeg, Int.reduceAdd, Int.reduceSub, Int.reduceMul, Int.reduceToNat, σ1, nthC, cmpB, Option.getD, lget_put, lgetq_put, List.length_set, q0, q1', l0, Try.f20, Try.underlying2, info2, Try.t2, Try.underlying3, info3, Try.t3, Try.underlying4, info4, Try.t4, Try.underlying23, info23, Try.t23, Try.underlying24, info24, Try.t24, Try.underlying112, info112, Try.t112, Try.underlying115, info115, Try.t115, Try.underlying154, info154, Try.t154] <;> rfl), ?_, ?_, ?_⟩ <;> simp only [lget_put, List.length_set, l0, Nat.reduceEqDiff, Nat.reduceLT, if_true, if_false, St.next_new]
  -- the six calls
  obtain ⟨σa, va, da, ba, _⟩ := of_call (n := n₁.natAbs) (by omega) σ1
  have da' := da.pad
  have ka := same_of da'
  obtain ⟨σb, vb, db, bb, _⟩ := of_call (n := d₂.natAbs) (by omega) σa.pad
  have db' := db.pad
  have kb := same_of db'
  have ln1 : (dig n₁.natAbs).length ≤ 4 := dig_length_le (by omega)
  have ln2 : (dig n₂.natAbs).length ≤ 4 := dig_length_le (by omega)
  have ld1 : (dig d₁.natAbs).length ≤ 4 := dig_length_le (by omega)
  have ld2 : (dig d₂.natAbs).length ≤ 4 := dig_length_le (by omega)
  obtain ⟨σc, vc, dc, bc, _⟩ := mul_call (ba.pad.keep kb.1 kb.2) bb.pad (dig_low _) (dig_low _) (by omega) (by omega)
  rw [val_dig, val_dig] at bc
  have dc' := dc.pad
  have kc := same_of dc'
  obtain ⟨σd, vd, dd, bd, _⟩ := of_call (n := n₂.natAbs) (by omega) σc.pad
  have dd' := dd.pad
  have kd := same_of dd'
  obtain ⟨σe, ve, de, be, _⟩ := of_call (n := d₁.natAbs) (by omega) σd.pad
  have de' := de.pad
  have ke := same_of de'
  obtain ⟨σf, vf, df, bf, _⟩ := mul_call (bd.pad.keep ke.1 ke.2) be.pad (dig_low _) (dig_low _) (by omega) (by omega)
  rw [val_dig, val_dig] at bf
  have kf := same_of df
  have X1 : BigS σf vc (dig (n₁.natAbs * d₂.natAbs)) := ((bc.pad.keep kd.1 kd.2).keep ke.1 ke.2).keep kf.1 kf.2
  obtain ⟨X, hX⟩ : ∃ X, n₁.natAbs * d₂.natAbs = X := ⟨_, rfl⟩
  obtain ⟨Y, hY⟩ : ∃ Y, n₂.natAbs * d₁.natAbs = Y := ⟨_, rfl⟩
  have hXb : X < 65536 ^ 8 := by
    rw [← hX]
    have : n₁.natAbs * d₂.natAbs < 65536 ^ 4 * 65536 ^ 4 := Nat.mul_lt_mul'' (by omega) (by omega)
    simpa using this
  have hYb : Y < 65536 ^ 8 := by
    rw [← hY]
    have : n₂.natAbs * d₁.natAbs < 65536 ^ 4 * 65536 ^ 4 := Nat.mul_lt_mul'' (by omega) (by omega)
    simpa using this
  have lX := dig_length_le hXb
  have lY := dig_length_le hYb
  have hcmp := cmp_of (n₁ := n₁) (n₂ := n₂) p₁ p₂
  rw [hX, hY] at hcmp
  rw [hX] at X1
  rw [hY] at bf
  have e1 : IntKind.u64.wrap d₁ = (d₁.natAbs : Int) := by rw [IntKind.wrap_u64]; omega
  have e2 : IntKind.u64.wrap d₂ = (d₂.natAbs : Int) := by rw [IntKind.wrap_u64]; omega
  have na := ka.1
  have nb := kb.1
  have nc := kc.1
  have nd := kd.1
  have ne := ke.1
  have sa := (same_of da).1
  have sb := (same_of db).1
  have sc := (same_of dc).1
  have sd := (same_of dd).1
  have se := (same_of de).1
  simp only [St.next_pad] at na nb nc nd ne sa sb sc sd se
  have m1 : ¬ σa.pad = σ1 := St.ne_of_next (by rw [St.next_pad]; omega)
  have m2 : ¬ σb.pad = σ1 := St.ne_of_next (by rw [St.next_pad]; omega)
  have m3 : ¬ σb.pad = σa.pad := St.ne_of_next (by rw [St.next_pad, St.next_pad]; omega)
  have m4 : ¬ σc.pad = σ1 := St.ne_of_next (by rw [St.next_pad]; omega)
  have m5 : ¬ σc.pad = σa.pad := St.ne_of_next (by rw [St.next_pad, St.next_pad]; omega)
  have m6 : ¬ σc.pad = σb.pad := St.ne_of_next (by rw [St.next_pad, St.next_pad]; omega)
  have m7 : ¬ σd.pad = σ1 := St.ne_of_next (by rw [St.next_pad]; omega)
  have m8 : ¬ σd.pad = σa.pad := St.ne_of_next (by rw [St.next_pad, St.next_pad]; omega)
  have m9 : ¬ σd.pad = σb.pad := St.ne_of_next (by rw [St.next_pad, St.next_pad]; omega)
  have m10 : ¬ σd.pad = σc.pad := St.ne_of_next (by rw [St.next_pad, St.next_pad]; omega)
  have m11 : ¬ σe.pad = σ1 := St.ne_of_next (by rw [St.next_pad]; omega)
  have m12 : ¬ σe.pad = σa.pad := St.ne_of_next (by rw [St.next_pad, St.next_pad]; omega)
  have m13 : ¬ σe.pad = σb.pad := St.ne_of_next (by rw [St.next_pad, St.next_pad]; omega)
  have m14 : ¬ σe.pad = σc.pad := St.ne_of_next (by rw [St.next_pad, St.next_pad]; omega)
  have m15 : ¬ σe.pad = σd.pad := St.ne_of_next (by rw [St.next_pad, St.next_pad]; omega)
  have get_at : ∀ c, c < σ.next + 2 → σa.pad.get c = σ1.get c ∧ σb.pad.get c = σ1.get c ∧ σc.pad.get c = σ1.get c ∧ σd.pad.get c = σ1.get c ∧ σe.pad.get c = σ1.get c ∧ σf.get c = σ1.get c := fun c hc => by
    have t1 := ka.2 c (by omega)
    have t2 := kb.2 c (by rw [St.next_pad]; omega)
    have t3 := kc.2 c (by rw [St.next_pad]; omega)
    have t4 := kd.2 c (by rw [St.next_pad]; omega)
    have t5 := ke.2 c (by rw [St.next_pad]; omega)
    have t6 := kf.2 c (by rw [St.next_pad]; omega)
    exact ⟨t1, t2.trans t1, t3.trans (t2.trans t1), t4.trans (t3.trans (t2.trans t1)), t5.trans (t4.trans (t3.trans (t2.trans t1))), t6.trans (t5.trans (t4.trans (t3.trans (t2.trans t1))))⟩
  have ga := get_at σ.next (by omega)
  have gb := get_at (σ.next + 1) (by omega)
  rw [g1] at ga
  rw [g2] at gb
  have n1 : ¬ σ1.next ≤ σ.next := by omega
  have n2 : ¬ σ1.next ≤ σ.next + 1 := by omega
  have za0 : ¬ σa.pad.next ≤ σ.next := by rw [St.next_pad]; omega
  have za1 : ¬ σa.pad.next ≤ σ.next + 1 := by rw [St.next_pad]; omega
  have zb0 : ¬ σb.pad.next ≤ σ.next := by rw [St.next_pad]; omega
  have zb1 : ¬ σb.pad.next ≤ σ.next + 1 := by rw [St.next_pad]; omega
  have zc0 : ¬ σc.pad.next ≤ σ.next := by rw [St.next_pad]; omega
  have zc1 : ¬ σc.pad.next ≤ σ.next + 1 := by rw [St.next_pad]; omega
  have zd0 : ¬ σd.pad.next ≤ σ.next := by rw [St.next_pad]; omega
  have zd1 : ¬ σd.pad.next ≤ σ.next + 1 := by rw [St.next_pad]; omega
  have ze0 : ¬ σe.pad.next ≤ σ.next := by rw [St.next_pad]; omega
  have ze1 : ¬ σe.pad.next ≤ σ.next + 1 := by rw [St.next_pad]; omega
  obtain ⟨ts2, r2, l2, p2, p3, p5, p6⟩ : ∃ ts2, DC Try.prog false (nthC 1 cmpB) ⟨ts1, []⟩ σ1 ⟨.norm, ⟨ts2, []⟩, σf, []⟩ ∧ ts2.length = 55 ∧ lget ts2 2 = .pointer (some ⟨σ.next, 0, none⟩) ∧ lget ts2 3 = .pointer (some ⟨σ.next + 1, 0, none⟩) ∧ lget ts2 5 = vc ∧ lget ts2 6 = vf := by
    refine ⟨_, runs (one_ok' (one_ok' (one_ok' (one_ok' (one_ok' (one_ok' q1_ok df) de') dd') dc') db') da') 60 bt20 (by kernel_rfl) (by simp only [go_sem, Nat.reducePow, Nat.reduceDiv, Nat.reduceMod, Nat.reduceAdd, Nat.reduceSub, Nat.reduceMul, Nat.reduceLeDiff, Nat.reduceLT, Nat.reduceEqDiff, reduceCtorEq, reduceIte, reduceDIte, if_pos rfl, Int.reduceLT, Int.reduceLE, Int.reduceEq, Int.reduceNeg, Int.reduceAdd, Int.reduceSub, Int.reduceMul, Int.reduceToNat, bt20, q1, nthC, cmpB, Option.getD, Orc.one_call, one_other, one_miss m1, one_miss m2, one_miss m3, one_miss m4, one_miss m5, one_miss m6, one_miss m7, one_miss m8, one_miss m9, one_miss m10, one_miss m11, one_miss m12, one_miss m13, one_miss m14, one_miss m15, lget_put, lgetq_put, List.length_set, q2, q3, l1, g1, g2, ga, gb, hn₁, hn₂, e1, e2, n1, n2, za0, za1, zb0, zb1, zc0, zc1, zd0, zd1, ze0, ze1, Try.f20, Try.underlying2, info2, Try.t2, Try.underlying3, info3, Try.t3, Try.underlying4, info4, Try.t4, Try.underlying23, info23, Try.t23, Try.underlying24, info24, Try.t24, Try.underlying112, info112, Try.t112, Try.underlying115, info115, Try.t115, Try.underlying154, info154, Try.t154, body54, body55, body56] <;> rfl), ?_, ?_, ?_, ?_, ?_⟩ <;> simp only [lget_put, List.length_set, q2, q3, l1, Nat.reduceEqDiff, Nat.reduceLT, if_true, if_false]
  have gf1 := ga.2.2.2.2.2
  have gf2 := gb.2.2.2.2.2
  have dXY := less_call' X1 bf (by omega) (by omega)
  have dYX := less_call' bf X1 (by omega) (by omega)
  -- the end, from where the signs are the same
  have tail : ∀ (x y : Value) (U V : Nat) (ts3 : List Value) (r : Int), DCall Try.prog 57 [x, y] σf (.ret (.bool (decide (U < V)))) σf [] → DCall Try.prog 57 [y, x] σf (.ret (.bool (decide (V < U)))) σf [] → DC Try.prog false (nthC 2 cmpB) ⟨ts2, []⟩ σf ⟨.norm, ⟨ts3, []⟩, σf, []⟩ → ts3.length = 55 → lget ts3 5 = x → lget ts3 6 = y →
      r = (if U < V then -1 else if V < U then 1 else 0) → DCall Try.prog 20 [.agg ⟨[.int .i64 n₁, .int .i64 d₁]⟩, .agg ⟨[.int .i64 n₂, .int .i64 d₂]⟩] σ (.ret (.int .i64 r)) σ [] := by
    intro x y U V ts3 r dxy dyx r3 l3 p5 p6 hr
    by_cases h1 : U < V
    · have e1 : decide (U < V) = true := by simp [h1]
      rw [e1] at dxy
      rw [if_pos h1] at hr
      obtain ⟨ts4, r4, p4⟩ : ∃ ts4, DC Try.prog false (nthC 3 cmpB) ⟨ts3, []⟩ σf ⟨.ret, ⟨ts4, []⟩, σf, []⟩ ∧ lget ts4 4 = .int .i64 (-1) := by
        refine ⟨_, runs (one_ok' Orc.none_ok dxy) 60 nobt (by kernel_rfl) (by simp only [go_sem, Nat.reducePow, Nat.reduceDiv, Nat.reduceMod, Nat.reduceAdd, Nat.reduceSub, Nat.reduceMul, Nat.reduceLeDiff, Nat.reduceLT, Nat.reduceEqDiff, reduceCtorEq, reduceIte, reduceDIte, if_pos rfl, Int.reduceLT, Int.reduceLE, Int.reduceEq, Int.reduceNeg, Int.reduceAdd, Int.reduceSub, Int.reduceMul, Int.reduceToNat, nthC, cmpB, Option.getD, Orc.one_call, lget_put, lgetq_put, List.length_set, p5, p6, l3, Try.f20, Try.underlying2, info2, Try.t2, Try.underlying3, info3, Try.t3, Try.underlying4, info4, Try.t4, Try.underlying23, info23, Try.t23, Try.underlying24, info24, Try.t24, Try.underlying112, info112, Try.t112, Try.underlying115, info115, Try.t115, Try.underlying154, info154, Try.t154, body57] <;> rfl), ?_⟩
        simp only [lget_put, List.length_set, l3, Nat.reduceEqDiff, Nat.reduceLT, if_true, if_false]
      rw [hr]
      refine DCall.forget (σ' := σf) (callsD Try.func20 (rfl : Try.f20.body = some cmpB) (h0 ▸ DC.seq r1 rfl (DC.seq r2 rfl (DC.seq r3 rfl (DC.seq_out r4 rfl)))) ?_ rfl rfl) rfl
      simp only [endsA, Try.f20, resA, resList, resOne, p4, Option.map, RR.pre]
    · have e1 : decide (U < V) = false := by simp [h1]
      rw [e1] at dxy
      rw [if_neg h1] at hr
      obtain ⟨ts4, r4, l4, p5, p6⟩ : ∃ ts4, DC Try.prog false (nthC 3 cmpB) ⟨ts3, []⟩ σf ⟨.norm, ⟨ts4, []⟩, σf, []⟩ ∧ ts4.length = 55 ∧ lget ts4 5 = x ∧ lget ts4 6 = y := by
        refine ⟨_, runs (one_ok' Orc.none_ok dxy) 60 nobt (by kernel_rfl) (by simp only [go_sem, Nat.reducePow, Nat.reduceDiv, Nat.reduceMod, Nat.reduceAdd, Nat.reduceSub, Nat.reduceMul, Nat.reduceLeDiff, Nat.reduceLT, Nat.reduceEqDiff, reduceCtorEq, reduceIte, reduceDIte, if_pos rfl, Int.reduceLT, Int.reduceLE, Int.reduceEq, Int.reduceNeg, Int.reduceAdd, Int.reduceSub, Int.reduceMul, Int.reduceToNat, nthC, cmpB, Option.getD, Orc.one_call, lget_put, lgetq_put, List.length_set, p5, p6, l3, Try.f20, Try.underlying2, info2, Try.t2, Try.underlying3, info3, Try.t3, Try.underlying4, info4, Try.t4, Try.underlying23, info23, Try.t23, Try.underlying24, info24, Try.t24, Try.underlying112, info112, Try.t112, Try.underlying115, info115, Try.t115, Try.underlying154, info154, Try.t154, body57] <;> rfl), ?_, ?_, ?_⟩ <;> simp only [lget_put, List.length_set, p5, p6, l3, Nat.reduceEqDiff, Nat.reduceLT, if_true, if_false]
      by_cases h2 : V < U
      · have e2 : decide (V < U) = true := by simp [h2]
        rw [e2] at dyx
        rw [if_pos h2] at hr
        obtain ⟨ts5, r5, p4⟩ : ∃ ts5, DC Try.prog false (nthC 4 cmpB) ⟨ts4, []⟩ σf ⟨.ret, ⟨ts5, []⟩, σf, []⟩ ∧ lget ts5 4 = .int .i64 1 := by
          refine ⟨_, runs (one_ok' Orc.none_ok dyx) 60 nobt (by kernel_rfl) (by simp only [go_sem, Nat.reducePow, Nat.reduceDiv, Nat.reduceMod, Nat.reduceAdd, Nat.reduceSub, Nat.reduceMul, Nat.reduceLeDiff, Nat.reduceLT, Nat.reduceEqDiff, reduceCtorEq, reduceIte, reduceDIte, if_pos rfl, Int.reduceLT, Int.reduceLE, Int.reduceEq, Int.reduceNeg, Int.reduceAdd, Int.reduceSub, Int.reduceMul, Int.reduceToNat, nthC, cmpB, Option.getD, Orc.one_call, lget_put, lgetq_put, List.length_set, p5, p6, l4, Try.f20, Try.underlying2, info2, Try.t2, Try.underlying3, info3, Try.t3, Try.underlying4, info4, Try.t4, Try.underlying23, info23, Try.t23, Try.underlying24, info24, Try.t24, Try.underlying112, info112, Try.t112, Try.underlying115, info115, Try.t115, Try.underlying154, info154, Try.t154, body57] <;> rfl), ?_⟩
          simp only [lget_put, List.length_set, l4, Nat.reduceEqDiff, Nat.reduceLT, if_true, if_false]
        rw [hr]
        refine DCall.forget (σ' := σf) (callsD Try.func20 (rfl : Try.f20.body = some cmpB) (h0 ▸ DC.seq r1 rfl (DC.seq r2 rfl (DC.seq r3 rfl (DC.seq r4 rfl (DC.seq_out r5 rfl))))) ?_ rfl rfl) rfl
        simp only [endsA, Try.f20, resA, resList, resOne, p4, Option.map, RR.pre]
      · have e2 : decide (V < U) = false := by simp [h2]
        rw [e2] at dyx
        rw [if_neg h2] at hr
        obtain ⟨ts5, r5, l5⟩ : ∃ ts5, DC Try.prog false (nthC 4 cmpB) ⟨ts4, []⟩ σf ⟨.norm, ⟨ts5, []⟩, σf, []⟩ ∧ ts5.length = 55 := by
          refine ⟨_, runs (one_ok' Orc.none_ok dyx) 60 nobt (by kernel_rfl) (by simp only [go_sem, Nat.reducePow, Nat.reduceDiv, Nat.reduceMod, Nat.reduceAdd, Nat.reduceSub, Nat.reduceMul, Nat.reduceLeDiff, Nat.reduceLT, Nat.reduceEqDiff, reduceCtorEq, reduceIte, reduceDIte, if_pos rfl, Int.reduceLT, Int.reduceLE, Int.reduceEq, Int.reduceNeg, Int.reduceAdd, Int.reduceSub, Int.reduceMul, Int.reduceToNat, nthC, cmpB, Option.getD, Orc.one_call, lget_put, lgetq_put, List.length_set, p5, p6, l4, Try.f20, Try.underlying2, info2, Try.t2, Try.underlying3, info3, Try.t3, Try.underlying4, info4, Try.t4, Try.underlying23, info23, Try.t23, Try.underlying24, info24, Try.t24, Try.underlying112, info112, Try.t112, Try.underlying115, info115, Try.t115, Try.underlying154, info154, Try.t154, body57] <;> rfl), ?_⟩
          simp only [List.length_set, l4]
        obtain ⟨ts6, r6, p4⟩ : ∃ ts6, DC Try.prog false (nthC 5 cmpB) ⟨ts5, []⟩ σf ⟨.norm, ⟨ts6, []⟩, σf, []⟩ ∧ lget ts6 4 = .int .i64 0 := by
          refine ⟨_, runs Orc.none_ok 60 nobt (by kernel_rfl) (by simp only [go_sem, Nat.reducePow, Nat.reduceDiv, Nat.reduceMod, Nat.reduceAdd, Nat.reduceSub, Nat.reduceMul, Nat.reduceLeDiff, Nat.reduceLT, Nat.reduceEqDiff, reduceCtorEq, reduceIte, reduceDIte, if_pos rfl, Int.reduceLT, Int.reduceLE, Int.reduceEq, Int.reduceNeg, Int.reduceAdd, Int.reduceSub, Int.reduceMul, Int.reduceToNat, nthC, cmpB, Option.getD, lget_put, lgetq_put, List.length_set, l5, Try.f20, Try.underlying2, info2, Try.t2, Try.underlying3, info3, Try.t3, Try.underlying4, info4, Try.t4, Try.underlying23, info23, Try.t23, Try.underlying24, info24, Try.t24, Try.underlying112, info112, Try.t112, Try.underlying115, info115, Try.t115, Try.underlying154, info154, Try.t154] <;> rfl), ?_⟩
          simp only [lget_put, List.length_set, l5, Nat.reduceEqDiff, Nat.reduceLT, if_true, if_false]
        rw [hr]
        refine DCall.forget (σ' := σf) (callsD Try.func20 (rfl : Try.f20.body = some cmpB) (h0 ▸ DC.seq r1 rfl (DC.seq r2 rfl (DC.seq r3 rfl (DC.seq r4 rfl (DC.seq r5 rfl (DC.seq r6 rfl (DC.ret _ _ _))))))) ?_ rfl rfl) rfl
        simp only [endsA, Try.f20, resA, resList, resOne, p4, Option.map, RR.pre]
  by_cases s1 : n₁ < 0
  · by_cases s2 : n₂ < 0
    · have s2' : ¬ 0 ≤ n₂ := by omega
      have s1' : ¬ 0 ≤ n₁ := by omega
      obtain ⟨ts3, r3, l3, t5, t6⟩ : ∃ ts3, DC Try.prog false (nthC 2 cmpB) ⟨ts2, []⟩ σf ⟨.norm, ⟨ts3, []⟩, σf, []⟩ ∧ ts3.length = 55 ∧ lget ts3 5 = vf ∧ lget ts3 6 = vc := by
        refine ⟨_, runs Orc.none_ok 60 nobt (by kernel_rfl) (by simp only [go_sem, Nat.reducePow, Nat.reduceDiv, Nat.reduceMod, Nat.reduceAdd, Nat.reduceSub, Nat.reduceMul, Nat.reduceLeDiff, Nat.reduceLT, Nat.reduceEqDiff, reduceCtorEq, reduceIte, reduceDIte, if_pos rfl, Int.reduceLT, Int.reduceLE, Int.reduceEq, Int.reduceNeg, Int.reduceAdd, Int.reduceSub, Int.reduceMul, Int.reduceToNat, nthC, cmpB, Option.getD, lget_put, lgetq_put, List.length_set, p2, p3, p5, p6, l2, gf1, gf2, s1, s1', s2', Try.f20, Try.underlying2, info2, Try.t2, Try.underlying3, info3, Try.t3, Try.underlying4, info4, Try.t4, Try.underlying23, info23, Try.t23, Try.underlying24, info24, Try.t24, Try.underlying112, info112, Try.t112, Try.underlying115, info115, Try.t115, Try.underlying154, info154, Try.t154] <;> rfl), ?_, ?_, ?_⟩ <;> simp only [lget_put, List.length_set, p5, p6, l2, Nat.reduceEqDiff, Nat.reduceLT, if_true, if_false]
      refine tail vf vc Y X ts3 _ dYX dXY r3 l3 t5 t6 ?_
      rw [if_pos s1, if_pos s2] at hcmp
      unfold cmpR
      repeat' split
      all_goals omega
    · have s2' : 0 ≤ n₂ := by omega
      obtain ⟨ts3, r3, p4⟩ : ∃ ts3, DC Try.prog false (nthC 2 cmpB) ⟨ts2, []⟩ σf ⟨.ret, ⟨ts3, []⟩, σf, []⟩ ∧ lget ts3 4 = .int .i64 (-1) := by
        refine ⟨_, runs Orc.none_ok 60 nobt (by kernel_rfl) (by simp only [go_sem, Nat.reducePow, Nat.reduceDiv, Nat.reduceMod, Nat.reduceAdd, Nat.reduceSub, Nat.reduceMul, Nat.reduceLeDiff, Nat.reduceLT, Nat.reduceEqDiff, reduceCtorEq, reduceIte, reduceDIte, if_pos rfl, Int.reduceLT, Int.reduceLE, Int.reduceEq, Int.reduceNeg, Int.reduceAdd, Int.reduceSub, Int.reduceMul, Int.reduceToNat, nthC, cmpB, Option.getD, lget_put, lgetq_put, List.length_set, p2, p3, p5, p6, l2, gf1, gf2, s1, s2', Try.f20, Try.underlying2, info2, Try.t2, Try.underlying3, info3, Try.t3, Try.underlying4, info4, Try.t4, Try.underlying23, info23, Try.t23, Try.underlying24, info24, Try.t24, Try.underlying112, info112, Try.t112, Try.underlying115, info115, Try.t115, Try.underlying154, info154, Try.t154] <;> rfl), ?_⟩
        simp only [lget_put, List.length_set, l2, Nat.reduceEqDiff, Nat.reduceLT, if_true, if_false]
      have hr : cmpR n₁ d₁ n₂ d₂ = -1 := by
        have h1 : n₁ * d₂ < 0 := Int.mul_neg_of_neg_of_pos s1 (by omega)
        have h2 : 0 ≤ n₂ * d₁ := Int.mul_nonneg s2' (by omega)
        unfold cmpR
        repeat' split
        all_goals omega
      rw [hr]
      refine DCall.forget (σ' := σf) (callsD Try.func20 (rfl : Try.f20.body = some cmpB) (h0 ▸ DC.seq r1 rfl (DC.seq r2 rfl (DC.seq_out r3 rfl))) ?_ rfl rfl) rfl
      simp only [endsA, Try.f20, resA, resList, resOne, p4, Option.map, RR.pre]
  · have s1' : 0 ≤ n₁ := by omega
    by_cases s2 : n₂ < 0
    · obtain ⟨ts3, r3, p4⟩ : ∃ ts3, DC Try.prog false (nthC 2 cmpB) ⟨ts2, []⟩ σf ⟨.ret, ⟨ts3, []⟩, σf, []⟩ ∧ lget ts3 4 = .int .i64 1 := by
        refine ⟨_, runs Orc.none_ok 60 nobt (by kernel_rfl) (by simp only [go_sem, Nat.reducePow, Nat.reduceDiv, Nat.reduceMod, Nat.reduceAdd, Nat.reduceSub, Nat.reduceMul, Nat.reduceLeDiff, Nat.reduceLT, Nat.reduceEqDiff, reduceCtorEq, reduceIte, reduceDIte, if_pos rfl, Int.reduceLT, Int.reduceLE, Int.reduceEq, Int.reduceNeg, Int.reduceAdd, Int.reduceSub, Int.reduceMul, Int.reduceToNat, nthC, cmpB, Option.getD, lget_put, lgetq_put, List.length_set, p2, p3, p5, p6, l2, gf1, gf2, s1, s1', s2, Try.f20, Try.underlying2, info2, Try.t2, Try.underlying3, info3, Try.t3, Try.underlying4, info4, Try.t4, Try.underlying23, info23, Try.t23, Try.underlying24, info24, Try.t24, Try.underlying112, info112, Try.t112, Try.underlying115, info115, Try.t115, Try.underlying154, info154, Try.t154] <;> rfl), ?_⟩
        simp only [lget_put, List.length_set, l2, Nat.reduceEqDiff, Nat.reduceLT, if_true, if_false]
      have hr : cmpR n₁ d₁ n₂ d₂ = 1 := by
        have h1 : n₂ * d₁ < 0 := Int.mul_neg_of_neg_of_pos s2 (by omega)
        have h2 : 0 ≤ n₁ * d₂ := Int.mul_nonneg s1' (by omega)
        unfold cmpR
        repeat' split
        all_goals omega
      rw [hr]
      refine DCall.forget (σ' := σf) (callsD Try.func20 (rfl : Try.f20.body = some cmpB) (h0 ▸ DC.seq r1 rfl (DC.seq r2 rfl (DC.seq_out r3 rfl))) ?_ rfl rfl) rfl
      simp only [endsA, Try.f20, resA, resList, resOne, p4, Option.map, RR.pre]
    · obtain ⟨ts3, r3, l3, t5, t6⟩ : ∃ ts3, DC Try.prog false (nthC 2 cmpB) ⟨ts2, []⟩ σf ⟨.norm, ⟨ts3, []⟩, σf, []⟩ ∧ ts3.length = 55 ∧ lget ts3 5 = vc ∧ lget ts3 6 = vf := by
        refine ⟨_, runs Orc.none_ok 60 nobt (by kernel_rfl) (by simp only [go_sem, Nat.reducePow, Nat.reduceDiv, Nat.reduceMod, Nat.reduceAdd, Nat.reduceSub, Nat.reduceMul, Nat.reduceLeDiff, Nat.reduceLT, Nat.reduceEqDiff, reduceCtorEq, reduceIte, reduceDIte, if_pos rfl, Int.reduceLT, Int.reduceLE, Int.reduceEq, Int.reduceNeg, Int.reduceAdd, Int.reduceSub, Int.reduceMul, Int.reduceToNat, nthC, cmpB, Option.getD, lget_put, lgetq_put, List.length_set, p2, p3, p5, p6, l2, gf1, gf2, s1, s1', s2, Try.f20, Try.underlying2, info2, Try.t2, Try.underlying3, info3, Try.t3, Try.underlying4, info4, Try.t4, Try.underlying23, info23, Try.t23, Try.underlying24, info24, Try.t24, Try.underlying112, info112, Try.t112, Try.underlying115, info115, Try.t115, Try.underlying154, info154, Try.t154] <;> rfl), ?_, ?_, ?_⟩ <;> simp only [lget_put, List.length_set, p5, p6, l2, Nat.reduceEqDiff, Nat.reduceLT, if_true, if_false]
      refine tail vc vf X Y ts3 _ dXY dYX r3 l3 t5 t6 ?_
      rw [if_neg s1, if_neg s2] at hcmp
      unfold cmpR
      repeat' split
      all_goals omega

end Go.Ab

set_option linter.unusedSimpArgs false
set_option linter.unusedVariables false
namespace Go.Ab
open Go.Proofs

def q2 : FuncId → List Value → Option Value
  | 116, [.agg ⟨[.int .i64 n, .int .i64 d]⟩] => if okI n && okI d then some (.bool (decide (chk n d))) else none
  | 20, [.agg ⟨[.int .i64 n₁, .int .i64 d₁]⟩, .agg ⟨[.int .i64 n₂, .int .i64 d₂]⟩] => if okR n₁ d₁ && okR n₂ d₂ then some (.int .i64 (cmpR n₁ d₁ n₂ d₂)) else none
  | f, args => q1 f args
theorem q2_is : ∀ f args v, q2 f args = some v → ∀ σ, DCall Try.prog f args σ (.ret v) σ [] := fun f args v h σ => by
  unfold q2 at h
  split at h
  · split at h
    · rename_i hn
      rw [Bool.and_eq_true] at hn
      cases h
      exact right_call _ _ σ hn.1 hn.2
    · cases h
  · split at h
    · rename_i hn
      rw [Bool.and_eq_true] at hn
      cases h
      have h1 := hn.1
      have h2 := hn.2
      simp only [okR, Bool.and_eq_true, decide_eq_true_eq] at h1 h2
      exact cmpB_call _ _ _ _ σ h1.1.1 h1.1.2 h2.1.1 h2.1.2 h1.2.1 h2.2.1
    · cases h
  · exact q1_is f args v h σ
theorem q2_ok : (pureO q2).Ok Try.prog := pureO_ok q2_is

theorem may_call (id n d : Int) (σ : St) (hn : okI n = true) (hd : okI d = true) : DCall Try.prog 82 [.int .i64 id, .agg ⟨[.int .i64 n, .int .i64 d]⟩] σ (.ret (.bool (decide (0 ≤ id) && decide (id ≤ 4611686018427387904) && decide (chk n d)))) σ [] := by
  have g1 : (σ.new (.cells [.int .i64 n, .int .i64 d] false)).get σ.next = some (.cells [.int .i64 n, .int .i64 d] false) := by rw [St.get_new, if_pos rfl]
  refine DCall.forget (σ' := σ.new (.cells [.int .i64 n, .int .i64 d] false)) ?_ rfl
  refine callsL q2_ok Try.func82 rfl 40 nobt (by kernel_rfl) ?_
  have fin : ∀ c, c < σ.next → (σ.new (.cells [.int .i64 n, .int .i64 d] false)).get c = σ.get c := fun c hc => by rw [St.get_new, if_neg (by omega)]
  by_cases r1 : 0 ≤ id
  · by_cases r2 : id ≤ 4611686018427387904
    · by_cases r3 : chk n d
      · exact ⟨_, by simp only [go_sem, Nat.reducePow, Nat.reduceDiv, Nat.reduceMod, Nat.reduceAdd, Nat.reduceSub, Nat.reduceMul, Nat.reduceLeDiff, Nat.reduceLT, Nat.reduceEqDiff, reduceCtorEq, reduceIte, reduceDIte, if_pos rfl, Int.reduceLT, Int.reduceLE, Int.reduceEq, Int.reduceNeg, Int.reduceAdd, Int.reduceSub, Int.reduceMul, Int.reduceToNat, q2, r1, r2, r3, hn, hd, Try.f82, Try.underlying2, info2, Try.t2, Try.underlying3, info3, Try.t3, Try.underlying4, info4, Try.t4, Try.underlying23, info23, Try.t23, Try.underlying24, info24, Try.t24, body116] <;> rfl, by simp only [go_sem, Nat.reducePow, Nat.reduceDiv, Nat.reduceMod, Nat.reduceAdd, Nat.reduceSub, Nat.reduceMul, Nat.reduceLeDiff, Nat.reduceLT, Nat.reduceEqDiff, reduceCtorEq, reduceIte, reduceDIte, if_pos rfl, Int.reduceLT, Int.reduceLE, Int.reduceEq, Int.reduceNeg, Int.reduceAdd, Int.reduceSub, Int.reduceMul, Int.reduceToNat, r1, r2, r3, Try.f82], rfl, fin⟩
      · exact ⟨_, by simp only [go_sem, Nat.reducePow, Nat.reduceDiv, Nat.reduceMod, Nat.reduceAdd, Nat.reduceSub, Nat.reduceMul, Nat.reduceLeDiff, Nat.reduceLT, Nat.reduceEqDiff, reduceCtorEq, reduceIte, reduceDIte, if_pos rfl, Int.reduceLT, Int.reduceLE, Int.reduceEq, Int.reduceNeg, Int.reduceAdd, Int.reduceSub, Int.reduceMul, Int.reduceToNat, q2, r1, r2, r3, hn, hd, Try.f82, Try.underlying2, info2, Try.t2, Try.underlying3, info3, Try.t3, Try.underlying4, info4, Try.t4, Try.underlying23, info23, Try.t23, Try.underlying24, info24, Try.t24, body116] <;> rfl, by simp only [go_sem, Nat.reducePow, Nat.reduceDiv, Nat.reduceMod, Nat.reduceAdd, Nat.reduceSub, Nat.reduceMul, Nat.reduceLeDiff, Nat.reduceLT, Nat.reduceEqDiff, reduceCtorEq, reduceIte, reduceDIte, if_pos rfl, Int.reduceLT, Int.reduceLE, Int.reduceEq, Int.reduceNeg, Int.reduceAdd, Int.reduceSub, Int.reduceMul, Int.reduceToNat, r1, r2, r3, Try.f82], rfl, fin⟩
    · exact ⟨_, by simp only [go_sem, Nat.reducePow, Nat.reduceDiv, Nat.reduceMod, Nat.reduceAdd, Nat.reduceSub, Nat.reduceMul, Nat.reduceLeDiff, Nat.reduceLT, Nat.reduceEqDiff, reduceCtorEq, reduceIte, reduceDIte, if_pos rfl, Int.reduceLT, Int.reduceLE, Int.reduceEq, Int.reduceNeg, Int.reduceAdd, Int.reduceSub, Int.reduceMul, Int.reduceToNat, q2, r1, r2, hn, hd, Try.f82, Try.underlying2, info2, Try.t2, Try.underlying3, info3, Try.t3, Try.underlying4, info4, Try.t4, Try.underlying23, info23, Try.t23, Try.underlying24, info24, Try.t24, body116] <;> rfl, by simp only [go_sem, Nat.reducePow, Nat.reduceDiv, Nat.reduceMod, Nat.reduceAdd, Nat.reduceSub, Nat.reduceMul, Nat.reduceLeDiff, Nat.reduceLT, Nat.reduceEqDiff, reduceCtorEq, reduceIte, reduceDIte, if_pos rfl, Int.reduceLT, Int.reduceLE, Int.reduceEq, Int.reduceNeg, Int.reduceAdd, Int.reduceSub, Int.reduceMul, Int.reduceToNat, r1, r2, Try.f82], rfl, fin⟩
  · exact ⟨_, by simp only [go_sem, Nat.reducePow, Nat.reduceDiv, Nat.reduceMod, Nat.reduceAdd, Nat.reduceSub, Nat.reduceMul, Nat.reduceLeDiff, Nat.reduceLT, Nat.reduceEqDiff, reduceCtorEq, reduceIte, reduceDIte, if_pos rfl, Int.reduceLT, Int.reduceLE, Int.reduceEq, Int.reduceNeg, Int.reduceAdd, Int.reduceSub, Int.reduceMul, Int.reduceToNat, q2, r1, hn, hd, Try.f82, Try.underlying2, info2, Try.t2, Try.underlying3, info3, Try.t3, Try.underlying4, info4, Try.t4, Try.underlying23, info23, Try.t23, Try.underlying24, info24, Try.t24, body116] <;> rfl, by simp only [go_sem, Nat.reducePow, Nat.reduceDiv, Nat.reduceMod, Nat.reduceAdd, Nat.reduceSub, Nat.reduceMul, Nat.reduceLeDiff, Nat.reduceLT, Nat.reduceEqDiff, reduceCtorEq, reduceIte, reduceDIte, if_pos rfl, Int.reduceLT, Int.reduceLE, Int.reduceEq, Int.reduceNeg, Int.reduceAdd, Int.reduceSub, Int.reduceMul, Int.reduceToNat, r1, Try.f82], rfl, fin⟩

/-- The document's heap without an item. -/
def refE : Value := .agg ⟨[.slice none 0 0, .int .i64 0]⟩

theorem find_empty (id : Int) (σ : St) : DCall Try.prog 30 [refE, .int .i64 id] σ (.ret (.int .i64 (-1))) σ [] := by
  unfold refE
  refine DCall.forget (σ' := σ.new (.cells [.slice none 0 0, .int .i64 0] false)) ?_ rfl
  refine callsL Orc.none_ok Try.func30 rfl 40 nobt (by kernel_rfl) ?_
  exact ⟨_, by simp only [go_sem, Nat.reducePow, Nat.reduceDiv, Nat.reduceMod, Nat.reduceAdd, Nat.reduceSub, Nat.reduceMul, Nat.reduceLeDiff, Nat.reduceLT, Nat.reduceEqDiff, reduceCtorEq, reduceIte, reduceDIte, if_pos rfl, Int.reduceLT, Int.reduceLE, Int.reduceEq, Int.reduceNeg, Int.reduceAdd, Int.reduceSub, Int.reduceMul, Int.reduceToNat, opLen, Try.f30, Try.underlying2, info2, Try.t2, Try.underlying3, info3, Try.t3, Try.underlying4, info4, Try.t4, Try.underlying23, info23, Try.t23, Try.underlying24, info24, Try.t24, Try.underlying30, info30, Try.t30, Try.underlying31, info31, Try.t31, Try.underlying37, info37, Try.t37, Try.underlying38, info38, Try.t38, Try.underlying39, info39, Try.t39] <;> rfl, by simp only [go_sem, Nat.reducePow, Nat.reduceDiv, Nat.reduceMod, Nat.reduceAdd, Nat.reduceSub, Nat.reduceMul, Nat.reduceLeDiff, Nat.reduceLT, Nat.reduceEqDiff, reduceCtorEq, reduceIte, reduceDIte, if_pos rfl, Int.reduceLT, Int.reduceLE, Int.reduceEq, Int.reduceNeg, Int.reduceAdd, Int.reduceSub, Int.reduceMul, Int.reduceToNat, Try.f30], rfl, fun c hc => by rw [St.get_new, if_neg (by omega)]⟩

end Go.Ab

set_option linter.unusedSimpArgs false
set_option linter.unusedVariables false
namespace Go.Ab
open Go.Proofs

def mayB (id n d : Int) : Bool := decide (0 ≤ id) && decide (id ≤ 4611686018427387904) && decide (chk n d)

def q3 : FuncId → List Value → Option Value
  | 82, [.int .i64 id, .agg ⟨[.int .i64 n, .int .i64 d]⟩] => if okI n && okI d then some (.bool (mayB id n d)) else none
  | 30, [.agg ⟨[.slice none 0 0, .int .i64 0]⟩, .int .i64 _] => some (.int .i64 (-1))
  | f, args => q2 f args
theorem q3_is : ∀ f args v, q3 f args = some v → ∀ σ, DCall Try.prog f args σ (.ret v) σ [] := fun f args v h σ => by
  unfold q3 at h
  split at h
  · split at h
    · rename_i hn
      rw [Bool.and_eq_true] at hn
      cases h
      exact may_call _ _ _ σ hn.1 hn.2
    · cases h
  · cases h
    exact find_empty _ σ
  · exact q2_is f args v h σ
theorem q3_ok : (pureO q3).Ok Try.prog := pureO_ok q3_is

theorem refDrop_empty (id : Int) (σ : St) : DCall Try.prog 52 [.agg ⟨[.slice none 0 0, .int .i64 0]⟩, .int .i64 id] σ (.ret (.tuple ⟨[.agg ⟨[.slice none 0 0, .int .i64 0]⟩, .int .i64 5]⟩)) σ [] := by
  refine DCall.forget (σ' := ((σ.new (.cells [.slice none 0 0, .int .i64 0] false)).new (.cells [.slice none 0 0, .int .i64 0] false)).set (σ.next + 1) (.cells [.slice none 0 0, .int .i64 0] false)) ?_ rfl
  refine callsL q3_ok Try.func52 rfl 40 nobt (by kernel_rfl) ?_
  exact ⟨_, by simp only [go_sem, Nat.reducePow, Nat.reduceDiv, Nat.reduceMod, Nat.reduceAdd, Nat.reduceSub, Nat.reduceMul, Nat.reduceLeDiff, Nat.reduceLT, Nat.reduceEqDiff, reduceCtorEq, reduceIte, reduceDIte, if_pos rfl, Int.reduceLT, Int.reduceLE, Int.reduceEq, Int.reduceNeg, Int.reduceAdd, Int.reduceSub, Int.reduceMul, Int.reduceToNat, q3, Try.f52, Try.underlying2, info2, Try.t2, Try.underlying3, info3, Try.t3, Try.underlying4, info4, Try.t4, Try.underlying23, info23, Try.t23, Try.underlying24, info24, Try.t24, Try.underlying30, info30, Try.t30, Try.underlying31, info31, Try.t31, Try.underlying37, info37, Try.t37, Try.underlying38, info38, Try.t38, Try.underlying39, info39, Try.t39, body30] <;> rfl, by simp only [go_sem, Nat.reducePow, Nat.reduceDiv, Nat.reduceMod, Nat.reduceAdd, Nat.reduceSub, Nat.reduceMul, Nat.reduceLeDiff, Nat.reduceLT, Nat.reduceEqDiff, reduceCtorEq, reduceIte, reduceDIte, if_pos rfl, Int.reduceLT, Int.reduceLE, Int.reduceEq, Int.reduceNeg, Int.reduceAdd, Int.reduceSub, Int.reduceMul, Int.reduceToNat, Try.f52, Try.underlying38, info38, Try.t38, Try.underlying39, info39, Try.t39], rfl, fun c hc => by simp only [St.get_set, St.get_new, St.next_new]; rw [if_neg (by omega), if_neg (by omega), if_neg (by omega)]⟩

def bt53 : Nat → List Nat
  | 3 => [0, 1, 0, 4, 12, 28, 3, 127, 255]
  | _ => []

theorem refTake_empty (σ : St) : DCall Try.prog 53 [.agg ⟨[.slice none 0 0, .int .i64 0]⟩] σ (.ret (.tuple ⟨[.agg ⟨[.slice none 0 0, .int .i64 0]⟩, .agg ⟨[.int .i64 0, .int .i64 0, .int .i64 0, .int .i64 0]⟩, .bool false]⟩)) σ [] := by
  refine DCall.forget (σ' := ((((σ.new (.cells [.slice none 0 0, .int .i64 0] false)).new (.cells [.slice none 0 0, .int .i64 0] false)).new (.cells [.int .i64 0, .int .i64 0, .int .i64 0, .int .i64 0] false)).set (σ.next + 1) (.cells [.slice none 0 0, .int .i64 0] false)).set (σ.next + 2) (.cells [.int .i64 0, .int .i64 0, .int .i64 0, .int .i64 0] false)) ?_ rfl
  refine callsL q3_ok Try.func53 rfl 40 bt53 (by kernel_rfl) ?_
  exact ⟨_, by simp only [go_sem, Nat.reducePow, Nat.reduceDiv, Nat.reduceMod, Nat.reduceAdd, Nat.reduceSub, Nat.reduceMul, Nat.reduceLeDiff, Nat.reduceLT, Nat.reduceEqDiff, reduceCtorEq, reduceIte, reduceDIte, if_pos rfl, Int.reduceLT, Int.reduceLE, Int.reduceEq, Int.reduceNeg, Int.reduceAdd, Int.reduceSub, Int.reduceMul, Int.reduceToNat, opLen, Try.f53, Try.underlying2, info2, Try.t2, Try.underlying3, info3, Try.t3, Try.underlying4, info4, Try.t4, Try.underlying23, info23, Try.t23, Try.underlying24, info24, Try.t24, Try.underlying30, info30, Try.t30, Try.underlying31, info31, Try.t31, Try.underlying37, info37, Try.t37, Try.underlying38, info38, Try.t38, Try.underlying39, info39, Try.t39] <;> rfl, by simp only [go_sem, Nat.reducePow, Nat.reduceDiv, Nat.reduceMod, Nat.reduceAdd, Nat.reduceSub, Nat.reduceMul, Nat.reduceLeDiff, Nat.reduceLT, Nat.reduceEqDiff, reduceCtorEq, reduceIte, reduceDIte, if_pos rfl, Int.reduceLT, Int.reduceLE, Int.reduceEq, Int.reduceNeg, Int.reduceAdd, Int.reduceSub, Int.reduceMul, Int.reduceToNat, Try.f53, Try.underlying30, info30, Try.t30, Try.underlying31, info31, Try.t31, Try.underlying38, info38, Try.t38, Try.underlying39, info39, Try.t39], rfl, fun c hc => by simp only [St.get_set, St.get_new, St.next_new]; rw [if_neg (by omega), if_neg (by omega), if_neg (by omega), if_neg (by omega), if_neg (by omega)]⟩

def bt51 : Nat → List Nat
  | 8 => [0, 0, 3, 0, 15, 31, 63]
  | _ => []

theorem refSet_empty (id n d : Int) (σ : St) (hn : okI n = true) (hd : okI d = true) : ∃ e, DCall Try.prog 51 [.agg ⟨[.slice none 0 0, .int .i64 0]⟩, .int .i64 id, .agg ⟨[.int .i64 n, .int .i64 d]⟩] σ (.ret (.tuple ⟨[.agg ⟨[.slice none 0 0, .int .i64 0]⟩, .int .i64 e]⟩)) σ [] := by
  have fin : ∀ c, c < σ.next → ((((σ.new (.cells [.slice none 0 0, .int .i64 0] false)).new (.cells [.int .i64 n, .int .i64 d] false)).new (.cells [.slice none 0 0, .int .i64 0] false)).set (σ.next + 2) (.cells [.slice none 0 0, .int .i64 0] false)).get c = σ.get c := fun c hc => by
    simp only [St.get_set, St.get_new, St.next_new]; rw [if_neg (by omega), if_neg (by omega), if_neg (by omega), if_neg (by omega)]
  by_cases hm : mayB id n d = true
  · refine ⟨5, DCall.forget (σ' := (((σ.new (.cells [.slice none 0 0, .int .i64 0] false)).new (.cells [.int .i64 n, .int .i64 d] false)).new (.cells [.slice none 0 0, .int .i64 0] false)).set (σ.next + 2) (.cells [.slice none 0 0, .int .i64 0] false)) ?_ rfl⟩
    refine callsL q3_ok Try.func51 rfl 40 bt51 (by kernel_rfl) ?_
    exact ⟨_, by simp only [go_sem, Nat.reducePow, Nat.reduceDiv, Nat.reduceMod, Nat.reduceAdd, Nat.reduceSub, Nat.reduceMul, Nat.reduceLeDiff, Nat.reduceLT, Nat.reduceEqDiff, reduceCtorEq, reduceIte, reduceDIte, if_pos rfl, Int.reduceLT, Int.reduceLE, Int.reduceEq, Int.reduceNeg, Int.reduceAdd, Int.reduceSub, Int.reduceMul, Int.reduceToNat, q3, hm, hn, hd, Try.f51, Try.underlying2, info2, Try.t2, Try.underlying3, info3, Try.t3, Try.underlying4, info4, Try.t4, Try.underlying23, info23, Try.t23, Try.underlying24, info24, Try.t24, Try.underlying30, info30, Try.t30, Try.underlying31, info31, Try.t31, Try.underlying37, info37, Try.t37, Try.underlying38, info38, Try.t38, Try.underlying39, info39, Try.t39, body30, body82] <;> rfl, by simp only [go_sem, Nat.reducePow, Nat.reduceDiv, Nat.reduceMod, Nat.reduceAdd, Nat.reduceSub, Nat.reduceMul, Nat.reduceLeDiff, Nat.reduceLT, Nat.reduceEqDiff, reduceCtorEq, reduceIte, reduceDIte, if_pos rfl, Int.reduceLT, Int.reduceLE, Int.reduceEq, Int.reduceNeg, Int.reduceAdd, Int.reduceSub, Int.reduceMul, Int.reduceToNat, Try.f51, Try.underlying38, info38, Try.t38, Try.underlying39, info39, Try.t39], rfl, fin⟩
  · have hm' : mayB id n d = false := by simpa using hm
    refine ⟨2, DCall.forget (σ' := (((σ.new (.cells [.slice none 0 0, .int .i64 0] false)).new (.cells [.int .i64 n, .int .i64 d] false)).new (.cells [.slice none 0 0, .int .i64 0] false)).set (σ.next + 2) (.cells [.slice none 0 0, .int .i64 0] false)) ?_ rfl⟩
    refine callsL q3_ok Try.func51 rfl 40 bt51 (by kernel_rfl) ?_
    exact ⟨_, by simp only [go_sem, Nat.reducePow, Nat.reduceDiv, Nat.reduceMod, Nat.reduceAdd, Nat.reduceSub, Nat.reduceMul, Nat.reduceLeDiff, Nat.reduceLT, Nat.reduceEqDiff, reduceCtorEq, reduceIte, reduceDIte, if_pos rfl, Int.reduceLT, Int.reduceLE, Int.reduceEq, Int.reduceNeg, Int.reduceAdd, Int.reduceSub, Int.reduceMul, Int.reduceToNat, q3, hm', hn, hd, Try.f51, Try.underlying2, info2, Try.t2, Try.underlying3, info3, Try.t3, Try.underlying4, info4, Try.t4, Try.underlying23, info23, Try.t23, Try.underlying24, info24, Try.t24, Try.underlying30, info30, Try.t30, Try.underlying31, info31, Try.t31, Try.underlying37, info37, Try.t37, Try.underlying38, info38, Try.t38, Try.underlying39, info39, Try.t39, body30, body82] <;> rfl, by simp only [go_sem, Nat.reducePow, Nat.reduceDiv, Nat.reduceMod, Nat.reduceAdd, Nat.reduceSub, Nat.reduceMul, Nat.reduceLeDiff, Nat.reduceLT, Nat.reduceEqDiff, reduceCtorEq, reduceIte, reduceDIte, if_pos rfl, Int.reduceLT, Int.reduceLE, Int.reduceEq, Int.reduceNeg, Int.reduceAdd, Int.reduceSub, Int.reduceMul, Int.reduceToNat, Try.f51, Try.underlying38, info38, Try.t38, Try.underlying39, info39, Try.t39], rfl, fin⟩

/-! ### lay, Put -/
theorem append_none (σ : St) : opAppend (cP Try.prog).T σ 37 37 (.slice none 0 0) (.slice none 0 0) = some (.val (.slice none 0 0) []) := by
  have h37 : (cP Try.prog).T.und 37 = some (.slice 31) := (cx_und 37).trans Try.underlying37
  have h31 : (cP Try.prog).T.info 31 = some Try.t31 := (cx_info 31).trans info31
  simp only [opAppend, h37, h31, srcLen, Try.t31, srcCells]
  simp [isSeqD, oneCells, plain, plainL, vcells]

theorem append_no_more (σ : St) (b : Nat) : opAppend (cP Try.prog).T σ 37 37 (.slice (some ⟨b, 0, some 6⟩) 1 1) (.slice none 0 0) = some (.val (.slice (some ⟨b, 0, some 6⟩) 1 1) []) := by
  have h37 : (cP Try.prog).T.und 37 = some (.slice 31) := (cx_und 37).trans Try.underlying37
  have h31 : (cP Try.prog).T.info 31 = some Try.t31 := (cx_info 31).trans info31
  simp only [opAppend, h37, h31, srcLen, Try.t31, srcCells]
  simp [isSeqD, oneCells, plain, plainL, vcells]

theorem slice_nil_hi : opSlice (cP Try.prog).T 37 (.slice none 0 0) none (some (.int .i64 0)) none = some (.val (.slice none 0 0) []) := by
  simp only [opSlice, cx_und, cx_info, Try.underlying37, info37, Try.t37, Try.underlying31, info31, Try.t31]
  rfl
theorem slice_nil_lo : opSlice (cP Try.prog).T 37 (.slice none 0 0) (some (.int .i64 0)) none none = some (.val (.slice none 0 0) []) := by
  simp only [opSlice, cx_und, cx_info, Try.underlying37, info37, Try.t37, Try.underlying31, info31, Try.t31]
  rfl

end Go.Ab

set_option linter.unusedSimpArgs false
set_option linter.unusedVariables false
namespace Go.Ab
open Go.Proofs

def bt83 : Nat → List Nat
  | 3 => [0, 1, 0, 7, 15, 31, 0, 64, 255, 511]
  | 4 => [0, 1, 3, 7, 15, 31, 63, 127, 63, 511, 1023, 2047, 63, 4159, 16383, 32767, 65535]
  | 6 => [0, 1, 0, 7, 15, 0, 32, 127, 0, 256, 0, 1792, 4095, 8191, 16383]
  | _ => []

set_option maxRecDepth 20000 in
theorem lay_empty (x : Item) (t : Int) (σ : St) : ∃ σ' b, DCall Try.prog 83 [.agg ⟨[.slice none 0 0, .int .i64 t]⟩, .agg ⟨[.int .i64 x.id, .int .i64 x.n, .int .i64 x.d, .int .i64 x.turn]⟩] σ (.ret (.agg ⟨[.slice (some ⟨b, 0, some 6⟩) 1 1, .int .i64 t]⟩)) σ' [] := by
  have hap : opAppend (cP Try.prog).T ((((σ.new (.cells [.slice none 0 0, .int .i64 t] false)).new (.cells [.int .i64 x.id, .int .i64 x.n, .int .i64 x.d, .int .i64 x.turn] false)).new (.cells [.slice none 0 0, .int .i64 0] false)).new (.cells [.int .i64 x.id, .int .i64 x.n, .int .i64 x.d, .int .i64 x.turn] false)) 37 37 (.slice none 0 0) (.slice (some ⟨σ.next + 3, 0, some 0⟩) 1 1) =
      some (.new (.cells [.int .i64 x.id, .int .i64 x.n, .int .i64 x.d, .int .i64 x.turn] false) (.slice (some ⟨σ.next + 4, 0, some 6⟩) 1 1) [σ.next + 3]) :=
    append_nil (x := x) (by rw [St.get_new, if_pos (by rfl)]; rfl)
  refine ⟨_, _, callsL Orc.none_ok Try.func83 rfl 60 bt83 (by kernel_rfl) ⟨_, by simp only [go_sem, Nat.reducePow, Nat.reduceDiv, Nat.reduceMod, Nat.reduceAdd, Nat.reduceSub, Nat.reduceMul, Nat.reduceLeDiff, Nat.reduceLT, Nat.reduceEqDiff, reduceCtorEq, reduceIte, reduceDIte, if_pos rfl, Int.reduceLT, Int.reduceLE, Int.reduceEq, Int.reduceNeg, Int.reduceAdd, Int.reduceSub, Int.reduceMul, Int.reduceToNat, bt83, opLen, append_none, append_no_more, slice_nil_hi, slice_nil_lo, zerosN, hap, Try.f83, Try.underlying2, info2, Try.t2, Try.underlying3, info3, Try.t3, Try.underlying4, info4, Try.t4, Try.underlying23, info23, Try.t23, Try.underlying24, info24, Try.t24, Try.underlying30, info30, Try.t30, Try.underlying31, info31, Try.t31, Try.underlying37, info37, Try.t37, Try.underlying38, info38, Try.t38, Try.underlying39, info39, Try.t39] <;> rfl, by simp only [go_sem, Nat.reducePow, Nat.reduceDiv, Nat.reduceMod, Nat.reduceAdd, Nat.reduceSub, Nat.reduceMul, Nat.reduceLeDiff, Nat.reduceLT, Nat.reduceEqDiff, reduceCtorEq, reduceIte, reduceDIte, if_pos rfl, Int.reduceLT, Int.reduceLE, Int.reduceEq, Int.reduceNeg, Int.reduceAdd, Int.reduceSub, Int.reduceMul, Int.reduceToNat, Try.f83, Try.underlying38, info38, Try.t38, Try.underlying39, info39, Try.t39] <;> rfl, rfl, fun c hc => ?_⟩⟩
  simp only [St.get_set, St.get_new, St.next_new, St.next_set]
  repeat rw [if_neg (by omega)]

end Go.Ab

set_option linter.unusedSimpArgs false
set_option linter.unusedVariables false
namespace Go.Ab
open Go.Proofs

set_option maxRecDepth 20000 in
theorem refPut_empty (id n d : Int) (σ : St) (hn : okI n = true) (hd : okI d = true) :
    ∃ σ' sa sl sc tt e, DCall Try.prog 50 [.agg ⟨[.slice none 0 0, .int .i64 0]⟩, .int .i64 id, .agg ⟨[.int .i64 n, .int .i64 d]⟩] σ (.ret (.tuple ⟨[.agg ⟨[.slice sa sl sc, .int .i64 tt]⟩, .int .i64 e]⟩)) σ' [] := by
  by_cases hm : mayB id n d = true
  · let σ2 := (((σ.new (.cells [.slice none 0 0, .int .i64 0] false)).new (.cells [.int .i64 n, .int .i64 d] false)).new (.cells [.slice none 0 0, .int .i64 0] false)).set σ.next (.cells [.slice none 0 0, .int .i64 1] false)
    obtain ⟨σ3, b, dl⟩ := lay_empty ⟨id, n, d, 1⟩ 1 σ2
    have k3 := same_of dl
    have g3 : σ3.get (σ.next + 2) = some (.cells [.slice none 0 0, .int .i64 0] false) := by
      rw [k3.2 (σ.next + 2) (by show σ.next + 2 < σ.next + 1 + 1 + 1; omega)]
      show ((((σ.new _).new _).new _).set σ.next _).get _ = _
      rw [St.get_set, if_neg (show ¬ σ.next = σ.next + 2 by omega), St.get_new, if_pos (by rfl)]
    have w1 : IntKind.i64.wrap 1 = 1 := by decide
    have c3 : ∀ c, c < σ.next → (σ3.set (σ.next + 2) (.cells [.slice (some ⟨b, 0, some 6⟩) 1 1, .int .i64 1] false)).get c = σ.get c := fun c hc => by
      rw [St.get_set, if_neg (by omega), k3.2 c (by show c < σ.next + 1 + 1 + 1; omega)]
      simp only [σ2, St.get_set, St.get_new, St.next_new]
      repeat rw [if_neg (by omega)]
    refine ⟨_, some ⟨b, 0, some 6⟩, 1, 1, 1, 0, callsL (one_ok' q3_ok dl) Try.func50 rfl 60 nobt (by kernel_rfl) ⟨_, by simp only [go_sem, Nat.reducePow, Nat.reduceDiv, Nat.reduceMod, Nat.reduceAdd, Nat.reduceSub, Nat.reduceMul, Nat.reduceLeDiff, Nat.reduceLT, Nat.reduceEqDiff, reduceCtorEq, reduceIte, reduceDIte, if_pos rfl, Int.reduceLT, Int.reduceLE, Int.reduceEq, Int.reduceNeg, Int.reduceAdd, Int.reduceSub, Int.reduceMul, Int.reduceToNat, σ2, q3, hm, hn, hd, one_other, Orc.one_call, opLen, g3, w1, Try.f50, Try.underlying2, info2, Try.t2, Try.underlying3, info3, Try.t3, Try.underlying4, info4, Try.t4, Try.underlying23, info23, Try.t23, Try.underlying24, info24, Try.t24, Try.underlying30, info30, Try.t30, Try.underlying31, info31, Try.t31, Try.underlying37, info37, Try.t37, Try.underlying38, info38, Try.t38, Try.underlying39, info39, Try.t39, body30, body82, body83] <;> rfl, by simp only [go_sem, Nat.reducePow, Nat.reduceDiv, Nat.reduceMod, Nat.reduceAdd, Nat.reduceSub, Nat.reduceMul, Nat.reduceLeDiff, Nat.reduceLT, Nat.reduceEqDiff, reduceCtorEq, reduceIte, reduceDIte, if_pos rfl, Int.reduceLT, Int.reduceLE, Int.reduceEq, Int.reduceNeg, Int.reduceAdd, Int.reduceSub, Int.reduceMul, Int.reduceToNat, g3, Try.f50, Try.underlying38, info38, Try.t38, Try.underlying39, info39, Try.t39] <;> rfl, rfl, c3⟩⟩
  · have hm' : mayB id n d = false := by simpa using hm
    refine ⟨_, none, 0, 0, 0, 2, callsL q3_ok Try.func50 rfl 60 nobt (by kernel_rfl) ⟨_, by simp only [go_sem, Nat.reducePow, Nat.reduceDiv, Nat.reduceMod, Nat.reduceAdd, Nat.reduceSub, Nat.reduceMul, Nat.reduceLeDiff, Nat.reduceLT, Nat.reduceEqDiff, reduceCtorEq, reduceIte, reduceDIte, if_pos rfl, Int.reduceLT, Int.reduceLE, Int.reduceEq, Int.reduceNeg, Int.reduceAdd, Int.reduceSub, Int.reduceMul, Int.reduceToNat, q3, hm', hn, hd, Try.f50, Try.underlying2, info2, Try.t2, Try.underlying3, info3, Try.t3, Try.underlying4, info4, Try.t4, Try.underlying23, info23, Try.t23, Try.underlying24, info24, Try.t24, Try.underlying30, info30, Try.t30, Try.underlying31, info31, Try.t31, Try.underlying37, info37, Try.t37, Try.underlying38, info38, Try.t38, Try.underlying39, info39, Try.t39, body82] <;> rfl, by simp only [go_sem, Nat.reducePow, Nat.reduceDiv, Nat.reduceMod, Nat.reduceAdd, Nat.reduceSub, Nat.reduceMul, Nat.reduceLeDiff, Nat.reduceLT, Nat.reduceEqDiff, reduceCtorEq, reduceIte, reduceDIte, if_pos rfl, Int.reduceLT, Int.reduceLE, Int.reduceEq, Int.reduceNeg, Int.reduceAdd, Int.reduceSub, Int.reduceMul, Int.reduceToNat, Try.f50, Try.underlying38, info38, Try.t38, Try.underlying39, info39, Try.t39] <;> rfl, rfl, fun c hc => ?_⟩⟩
    simp only [St.get_set, St.get_new, St.next_new]
    repeat rw [if_neg (by omega)]

end Go.Ab

set_option linter.unusedSimpArgs false
set_option linter.unusedVariables false
namespace Go.Ab
open Go.Proofs

/-- A heap behind k calls. -/
structure I4 (L : List Item) (t : Int) (k : Nat) : Prop where
  hp : Hp L
  len : L.length ≤ k
  turn : ∀ x ∈ L, x.turn ≤ t
  one : ∀ x ∈ L, ∀ y ∈ L, x.turn = y.turn → x.id = y.id
  t0 : 0 ≤ t
  tk : t ≤ k

theorem I4.nil : I4 [] 0 0 := ⟨fun i hi u v hu _ => by simp at hu, by simp, fun x hx => by simp at hx, fun x hx => by simp at hx, by omega, by omega⟩

theorem I4.more {L : List Item} {t : Int} {k : Nat} (h : I4 L t k) : I4 L t (k + 1) := ⟨h.hp, by have := h.len; omega, h.turn, h.one, h.t0, by have := h.tk; omega⟩

theorem I4.put {L : List Item} {t : Int} {k : Nat} (h : I4 L t k) (hp : AllPos L) (id kn kd : Int) (hk : 0 < kd) : I4 (riseL (L.length + 1) (L ++ [⟨id, kn, kd, t + 1⟩]) L.length) (t + 1) (k + 1) where
  hp := put_heap h.hp hp hk
  len := by rw [riseL_length, List.length_append]; have := h.len; show L.length + 1 ≤ k + 1; omega
  turn := fun x hx => by
    rw [riseL_mem_iff, List.mem_append, List.mem_singleton] at hx
    rcases hx with hx | rfl
    · have := h.turn x hx; omega
    · exact Int.le_refl _
  one := fun x hx y hy e => by
    rw [riseL_mem_iff, List.mem_append, List.mem_singleton] at hx hy
    rcases hx with hx | rfl <;> rcases hy with hy | rfl
    · exact h.one x hx y hy e
    · have := h.turn x hx; replace e : x.turn = t + 1 := e; omega
    · have := h.turn y hy; replace e : t + 1 = y.turn := e; omega
    · rfl
  t0 := by have := h.t0; omega
  tk := by have := h.tk; omega

theorem I4.set {L : List Item} {t : Int} {k : Nat} (h : I4 L t k) (hp : AllPos L) (hd : Dist L) {n n2 : Nat} {x z : Item} (hx : L[n]? = some x) (kn kd : Int) (hk : 0 < kd) (hz : (riseL (n + 1) (L.set n (x.key kn kd)) n)[n2]? = some z) (hzi : z.id = x.id) :
    I4 (setL L n n2 (x.key kn kd)) t (k + 1) where
  hp := set_heap h.hp hp hd hx rfl hk hz hzi
  len := by rw [setL_length]; have := h.len; omega
  turn := fun y hy => by
    rw [setL_mem hd hx] at hy
    rcases hy with rfl | ⟨hy, _⟩
    · exact h.turn x (List.mem_of_getElem? hx)
    · exact h.turn y hy
  one := fun y hy z hz e => by
    rw [setL_mem hd hx] at hy hz
    have xm := List.mem_of_getElem? hx
    rcases hy with rfl | ⟨hy, _⟩ <;> rcases hz with rfl | ⟨hz, _⟩
    · rfl
    · exact h.one x xm z hz e
    · exact h.one y hy x xm e
    · exact h.one y hy z hz e
  t0 := h.t0
  tk := by have := h.tk; omega

theorem I4.out {L : List Item} {t : Int} {k : Nat} (h : I4 L t k) (hp : AllPos L) (hd : Dist L) {n : Nat} {x : Item} (hx : L[n]? = some x) : I4 (outL L n) t (k + 1) where
  hp := out_heap h.hp hp hx
  len := by rw [outL_length hx]; have := h.len; omega
  turn := fun y hy => h.turn y ((outL_mem hd hx).1 hy).1
  one := fun y hy z hz e => h.one y ((outL_mem hd hx).1 hy).1 z ((outL_mem hd hx).1 hz).1 e
  t0 := h.t0
  tk := by have := h.tk; omega

/-- x comes ahead of y: its key is less, or it is the same and its turn is less. -/
def Ahead (x y : Item) : Prop := cmpR x.n x.d y.n y.d ≤ 0 ∧ (cmpR x.n x.d y.n y.d = 0 → x.turn < y.turn)

/-- A heap of which i of n items are taken out, last the one that is named. -/
structure I6 (L : List Item) (n i : Nat) (last : Item) : Prop where
  hp : Hp L
  len : L.length + i = n
  one : ∀ x ∈ L, ∀ y ∈ L, x.turn = y.turn → x.id = y.id
  lst : 0 < i → ∀ y ∈ L, Ahead last y

theorem I4.drain {L : List Item} {t : Int} {k : Nat} (h : I4 L t k) (last : Item) : I6 L L.length 0 last := ⟨h.hp, rfl, h.one, fun h => absurd h (by omega)⟩

theorem I6.take {L : List Item} {n i : Nat} {last x : Item} (h : I6 L n i last) (hp : AllPos L) (hd : Dist L) (hx : L[0]? = some x) : I6 (outL L 0) n (i + 1) x where
  hp := out_heap h.hp hp hx
  len := by
    have := (List.getElem?_eq_some_iff.1 hx).1
    rw [outL_length hx]; have := h.len; omega
  one := fun y hy z hz e => h.one y ((outL_mem hd hx).1 hy).1 z ((outL_mem hd hx).1 hz).1 e
  lst := fun _ y hy => by
    obtain ⟨hy, hne⟩ := (outL_mem hd hx).1 hy
    have xm := List.mem_of_getElem? hx
    obtain ⟨j, hj⟩ := List.getElem?_of_mem hy
    have hle := h.hp.root hp j x y hx hj
    have htn : x.turn ≠ y.turn := fun e => hne (h.one x xm y hy e).symm
    unfold cmpItem at hle
    split at hle
    · rename_i h0
      rw [cmpI_le] at hle
      exact ⟨by omega, fun _ => by omega⟩
    · rename_i h0
      exact ⟨hle, fun e => absurd e h0⟩

end Go.Ab

set_option linter.unusedSimpArgs false
set_option linter.unusedVariables false
namespace Go.Ab
open Go.Proofs

/-- A heap whose blocks stand between lo and B. -/
def HB (σ : St) (lo B h m : Nat) (L : List Item) (t : Int) : Prop :=
  (lo ≤ h ∧ h < B) ∧ (lo ≤ m ∧ m < B) ∧ (lo ≤ B ∧ B ≤ σ.next) ∧ ((L = [] ∧ HE σ h m t) ∨ ∃ a cap, (lo ≤ a ∧ a < B) ∧ HI σ h a m L cap t)

def Inn (lo B : Nat) (lg : Log) : Prop := ∀ c ∈ lg, lo ≤ c ∧ c < B

theorem Inn.nil {lo B : Nat} : Inn lo B [] := fun c hc => by simp at hc
theorem Inn.from {lo B : Nat} {lg : Log} (h : Inn lo B lg) : From lo lg := fun c hc => (h c hc).1

theorem HV.toB {σ : St} {lo h m : Nat} {L : List Item} {t : Int} (H : HV σ lo h m L t) : HB σ lo σ.next h m L t := by
  obtain ⟨a1, a2, a3, H⟩ := H
  rcases H with ⟨rfl, H⟩ | ⟨a, cap, a4, H⟩
  · exact ⟨⟨a1, H.lt.1⟩, ⟨a2, H.lt.2⟩, ⟨a3, Nat.le_refl _⟩, .inl ⟨rfl, H⟩⟩
  · obtain ⟨f, H1, _⟩ := H.hs
    exact ⟨⟨a1, H1.lt.1⟩, ⟨a2, H1.lt.2.2⟩, ⟨a3, Nat.le_refl _⟩, .inr ⟨a, cap, ⟨a4, H1.lt.2.1⟩, H⟩⟩

theorem HB.toV {σ : St} {lo B h m : Nat} {L : List Item} {t : Int} (H : HB σ lo B h m L t) : HV σ lo h m L t := by
  obtain ⟨a1, a2, a3, H⟩ := H
  refine ⟨a1.1, a2.1, by omega, ?_⟩
  rcases H with H | ⟨a, cap, a4, H⟩
  · exact .inl H
  · exact .inr ⟨a, cap, a4.1, H⟩

theorem HB.grow {σ σ' : St} {lo B h m : Nat} {L : List Item} {t : Int} (H : HB σ lo B h m L t) (hn : σ.next ≤ σ'.next) (hg : ∀ c, c < σ.next → σ'.get c = σ.get c) : HB σ' lo B h m L t := by
  obtain ⟨a1, a2, a3, H⟩ := H
  refine ⟨a1, a2, by omega, ?_⟩
  rcases H with ⟨rfl, H⟩ | ⟨a, cap, a4, H⟩
  · obtain ⟨ck, gm⟩ := H.gm
    exact .inl ⟨rfl, ⟨(hg _ H.lt.1).trans H.gh, ⟨ck, (hg _ H.lt.2).trans gm⟩, H.ne, by have := H.lt; omega⟩⟩
  · exact .inr ⟨a, cap, a4, H.grow hn hg⟩

/-- What stands outside of the bounds is as it was. -/
theorem keep_out {f : FuncId} {args : List Value} {σ σ' : St} {e : AE} {lg : Log} {lo B : Nat} (h : DCall Try.prog f args σ e σ' lg) (hl : Inn lo B lg) : ∀ c, B ≤ c → c < σ.next → σ'.get c = σ.get c := fun c hb hc =>
  h.1.2 c hc fun hm => by have := hl c hm; omega

theorem HI.setp {σ : St} {h a m p : Nat} {c : AObj} {L : List Item} {cap : Nat} {t : Int} (H : HI σ h a m L cap t) (h1 : h ≠ p) (h2 : a ≠ p) (h3 : m ≠ p) : HI (σ.set p c) h a m L cap t := by
  have g : ∀ c', c' ≠ p → (σ.set p c).get c' = σ.get c' := fun c' hc => by rw [St.get_set, if_neg (fun e => hc e.symm)]
  obtain ⟨f, H1, hi⟩ := H.hs
  obtain ⟨G, ga, hG⟩ := H1.ga
  obtain ⟨es, ck, gm, hkv⟩ := H1.gm
  exact ⟨⟨f, ⟨(g _ h1).trans H1.gh, ⟨G, (g _ h2).trans ga, hG⟩, ⟨es, ck, (g _ h3).trans gm, hkv⟩, H1.ne, H1.lt⟩, hi⟩, H.ok, H.small⟩

/-- A heap in a state of which a block between B and N may be turned. -/
def HVS (σ : St) (lo B N h m : Nat) (L : List Item) (t : Int) : Prop := HV σ lo h m L t ∧ ∀ p c, B ≤ p → p < N → HV (σ.set p c) lo h m L t

theorem HVS.of {σ : St} {lo B N h a m : Nat} {L : List Item} {cap : Nat} {t : Int} (a1 : lo ≤ h ∧ h < B) (a2 : lo ≤ m ∧ m < B) (a3 : lo ≤ σ.next) (a4 : lo ≤ a ∧ (a < B ∨ N ≤ a)) (H : HI σ h a m L cap t) : HVS σ lo B N h m L t :=
  ⟨⟨a1.1, a2.1, a3, .inr ⟨a, cap, a4.1, H⟩⟩, fun p c h1 h2 => ⟨a1.1, a2.1, a3, .inr ⟨a, cap, a4.1, H.setp (by omega) (by omega) (by omega)⟩⟩⟩

theorem HB.setp {σ : St} {lo B h m p : Nat} {c : AObj} {L : List Item} {t : Int} (H : HB σ lo B h m L t) (hp : B ≤ p) : HB (σ.set p c) lo B h m L t := by
  obtain ⟨a1, a2, a3, H⟩ := H
  refine ⟨a1, a2, a3, ?_⟩
  have g : ∀ c', c' < B → (σ.set p c).get c' = σ.get c' := fun c' hc => by rw [St.get_set, if_neg (by omega)]
  rcases H with ⟨rfl, H⟩ | ⟨a, cap, a4, H⟩
  · obtain ⟨ck, gm⟩ := H.gm
    exact .inl ⟨rfl, ⟨(g _ a1.2).trans H.gh, ⟨ck, (g _ a2.2).trans gm⟩, H.ne, H.lt⟩⟩
  · exact .inr ⟨a, cap, a4, H.setp (by omega) (by omega) (by omega)⟩

theorem HB.new {σ : St} {lo B h m : Nat} {c : AObj} {L : List Item} {t : Int} (H : HB σ lo B h m L t) : HB (σ.new c) lo B h m L t :=
  H.grow (Nat.le_succ _) fun c hc => by rw [St.get_new, if_neg (by omega)]

theorem HB.hvs {σ : St} {lo B N h m : Nat} {L : List Item} {t : Int} (H : HB σ lo B h m L t) : HVS σ lo B N h m L t :=
  ⟨H.toV, fun p c h1 _ => (H.setp h1).toV⟩

theorem any_put {σ : St} {lo B h m : Nat} {L : List Item} {t : Int} {k : Nat} (H : HB σ lo B h m L t) (I : I4 L t k) (hk : k < 900) (id n d : Int) (hn : okI n = true) (hd : okI d = true) :
    ∃ e σ' lg L' t', DCall Try.prog 14 [.pointer (some ⟨h, 0, none⟩), .int .i64 id, .agg ⟨[.int .i64 n, .int .i64 d]⟩] σ (.ret (.int .i64 e)) σ' lg ∧ Inn lo B lg ∧ HVS σ' lo B σ.next h m L' t' ∧ I4 L' t' (k + 1) := by
  have HH := H
  have HVs := H.toV
  obtain ⟨s, f, hm, hf⟩ := HVs.hm
  by_cases hc : (id < 0 ∨ 4611686018427387904 < id) ∨ ¬ chk n d
  · exact ⟨_, _, _, _, _, put_refused hm id n d hn hd hc, Inn.nil, HH.hvs, I.more⟩
  · have h01 : ¬ (id < 0 ∨ 4611686018427387904 < id) := fun h => hc (.inl h)
    have h0 : 0 ≤ id := by omega
    have h1 : id ≤ 4611686018427387904 := by omega
    have h2 : chk n d := Classical.byContradiction fun h => hc (.inr h)
    have hR : okR n d = true := by simp [okR, hn, hd, h2]
    have hd0 : 0 < d := by have := h2.1; omega
    cases hv : f id with
    | some v => exact ⟨_, _, _, _, _, put_twice hm id n d v h0 h1 hR hv, Inn.nil, HH.hvs, I.more⟩
    | none =>
      have hnew := (hf id).1 hv
      have hI := I.put HVs.pos id n d hd0
      have ht := I.t0
      have htk := I.tk
      have hln := I.len
      obtain ⟨a1, a2, a3, H⟩ := H
      rcases H with ⟨rfl, H⟩ | ⟨a, cap, a4, H⟩
      · obtain ⟨σ', a, d, H', ha⟩ := put_first H id n d h0 h1 hR ht (by omega)
        refine ⟨_, σ', _, _, _, d, fun c hc => ?_, HVS.of (a := a) (cap := 1) a1 a2 (by have := d.1.1; omega) (by omega) ?_, hI⟩
        · simp at hc; omega
        · simpa [riseL] using H'
      · have hcap : L.length ≤ cap := by
          obtain ⟨f, H1, _⟩ := H.hs
          obtain ⟨G, _, hG⟩ := H1.ga
          omega
        by_cases hc : L.length + 1 ≤ cap
        · obtain ⟨σ', d, H', nx, _⟩ := put_in H id n d h0 h1 hR ht (by omega) hnew (by omega) hc
          refine ⟨_, σ', _, _, _, d, fun c hc => ?_, HVS.of a1 a2 (by omega) (by omega) H', hI⟩
          simp at hc; omega
        · obtain ⟨σ', d, H', nx, _⟩ := put_move H id n d h0 h1 hR ht (by omega) hnew (by omega) (by omega)
          refine ⟨_, σ', _, _, _, d, fun c hc => ?_, HVS.of a1 a2 (by omega) (by omega) H', hI⟩
          simp at hc; omega

theorem any_set {σ : St} {lo B h m : Nat} {L : List Item} {t : Int} {k : Nat} (H : HB σ lo B h m L t) (I : I4 L t k) (id n d : Int) (hn : okI n = true) (hd : okI d = true) :
    ∃ e σ' lg L' t', DCall Try.prog 15 [.pointer (some ⟨h, 0, none⟩), .int .i64 id, .agg ⟨[.int .i64 n, .int .i64 d]⟩] σ (.ret (.int .i64 e)) σ' lg ∧ Inn lo B lg ∧ HVS σ' lo B σ.next h m L' t' ∧ I4 L' t' (k + 1) := by
  have HH := H
  have HVs := H.toV
  obtain ⟨s, f, hm, hf⟩ := HVs.hm
  by_cases hc : (id < 0 ∨ 4611686018427387904 < id) ∨ ¬ chk n d
  · exact ⟨_, _, _, _, _, set_refused hm id n d hn hd hc, Inn.nil, HH.hvs, I.more⟩
  · have h01 : ¬ (id < 0 ∨ 4611686018427387904 < id) := fun h => hc (.inl h)
    have h0 : 0 ≤ id := by omega
    have h1 : id ≤ 4611686018427387904 := by omega
    have h2 : chk n d := Classical.byContradiction fun h => hc (.inr h)
    have hR : okR n d = true := by simp [okR, hn, hd, h2]
    have hd0 : 0 < d := by have := h2.1; omega
    by_cases hx : ∃ x ∈ L, x.id = id
    · obtain ⟨x, xm, rfl⟩ := hx
      obtain ⟨j, hj⟩ := List.getElem?_of_mem xm
      obtain ⟨a1, a2, a3, H⟩ := H
      rcases H with ⟨rfl, H⟩ | ⟨a, cap, a4, H⟩
      · simp at xm
      · obtain ⟨σ', n2, z, dd, b1, b2, b3, b4, _⟩ := set_ok H hj n d h0 h1 hR
        refine ⟨_, σ', _, _, _, dd, fun c hc => ?_, HVS.of a1 a2 (by omega) (by omega) b3, I.set HVs.pos HVs.dist hj n d hd0 b1 b2⟩
        simp at hc; omega
    · have hv : f id = none := (hf id).2 fun x xm e => hx ⟨x, xm, e⟩
      exact ⟨_, _, _, _, _, set_missing hm id n d h0 h1 hR hv, Inn.nil, HH.hvs, I.more⟩

theorem any_drop {σ : St} {lo B h m : Nat} {L : List Item} {t : Int} {k : Nat} (H : HB σ lo B h m L t) (I : I4 L t k) (id : Int) :
    ∃ e σ' lg L' t', DCall Try.prog 43 [.pointer (some ⟨h, 0, none⟩), .int .i64 id] σ (.ret (.int .i64 e)) σ' lg ∧ Inn lo B lg ∧ HVS σ' lo B σ.next h m L' t' ∧ I4 L' t' (k + 1) := by
  have HH := H
  have HVs := H.toV
  obtain ⟨s, f, hm, hf⟩ := HVs.hm
  by_cases hx : ∃ x ∈ L, x.id = id
  · obtain ⟨x, xm, rfl⟩ := hx
    obtain ⟨j, hj⟩ := List.getElem?_of_mem xm
    obtain ⟨a1, a2, a3, H⟩ := H
    rcases H with ⟨rfl, H⟩ | ⟨a, cap, a4, H⟩
    · simp at xm
    · obtain ⟨σ', d, b3, b4, _⟩ := out_call H hj
      obtain ⟨f, H1, hi⟩ := H.hs
      obtain ⟨es, ck, gm, hkv, hlk⟩ := H1.gm
      have hno := none_call H1.gh
      have hlo := map_get (ok := true) gm hkv hlk (hi.fwd j x hj)
      refine ⟨0, σ', [h, a, m], _, _, calls (one_ok' (one_ok' Orc.none_ok d) hno) Try.func43 rfl 40 nobt (by kernel_rfl) ?_, fun c hc => ?_, HVS.of a1 a2 (by omega) (by omega) b3, I.out HVs.pos HVs.dist hj⟩
      · exact ⟨_, by simp only [go_sem, Nat.reducePow, Nat.reduceDiv, Nat.reduceMod, Nat.reduceAdd, Nat.reduceSub, Nat.reduceMul, Nat.reduceLeDiff, Nat.reduceLT, Nat.reduceEqDiff, reduceCtorEq, reduceIte, reduceDIte, if_pos rfl, Int.reduceLT, Int.reduceLE, Int.reduceEq, Int.reduceNeg, Int.reduceAdd, Int.reduceSub, Int.reduceMul, Int.reduceToNat, one_other, Orc.one_call, hlo, H1.gh, Try.f43, Try.underlying2, info2, Try.t2, Try.underlying3, info3, Try.t3, Try.underlying4, info4, Try.t4, Try.underlying24, info24, Try.t24, Try.underlying26, info26, Try.t26, Try.underlying28, info28, Try.t28, Try.underlying31, info31, Try.t31, Try.underlying96, info96, Try.t96, Try.underlying97, info97, Try.t97, Try.underlying98, info98, Try.t98, Try.underlying99, info99, Try.t99, Try.underlying100, info100, Try.t100, Try.underlying102, info102, Try.t102, body44, body49] <;> rfl, by simp only [go_sem, Nat.reducePow, Nat.reduceDiv, Nat.reduceMod, Nat.reduceAdd, Nat.reduceSub, Nat.reduceMul, Nat.reduceLeDiff, Nat.reduceLT, Nat.reduceEqDiff, reduceCtorEq, reduceIte, reduceDIte, if_pos rfl, Int.reduceLT, Int.reduceLE, Int.reduceEq, Int.reduceNeg, Int.reduceAdd, Int.reduceSub, Int.reduceMul, Int.reduceToNat, Try.f43], rfl, rfl⟩
      · simp at hc; omega
  · have hv : f id = none := (hf id).2 fun x xm e => hx ⟨x, xm, e⟩
    exact ⟨_, _, _, _, _, drop_missing hm id hv, Inn.nil, HH.hvs, I.more⟩

/-- Take of a heap with an item: the bounds stay. -/
theorem take_hb {σ : St} {lo B h m : Nat} {L : List Item} {t : Int} (H : HB σ lo B h m L t) {x : Item} (hx : L[0]? = some x) :
    ∃ σ' lg, DCall Try.prog 16 [.pointer (some ⟨h, 0, none⟩)] σ (.ret (.tuple ⟨[.agg ⟨[.int .i64 x.id, .int .i64 x.n, .int .i64 x.d, .int .i64 x.turn]⟩, .bool true]⟩)) σ' lg ∧ Inn lo B lg ∧ HB σ' lo B h m (outL L 0) t := by
  obtain ⟨a1, a2, a3, H⟩ := H
  rcases H with ⟨rfl, H⟩ | ⟨a, cap, a4, H⟩
  · simp at hx
  · obtain ⟨σ', d, b3, b4, _⟩ := take_call H hx
    refine ⟨σ', _, d, fun c hc => ?_, a1, a2, by omega, .inr ⟨a, cap, a4, b3⟩⟩
    simp at hc; omega

theorem any_take {σ : St} {lo B h m : Nat} {L : List Item} {t : Int} {k : Nat} (H : HB σ lo B h m L t) (I : I4 L t k) :
    ∃ a b c d is σ' lg L' t', DCall Try.prog 16 [.pointer (some ⟨h, 0, none⟩)] σ (.ret (.tuple ⟨[.agg ⟨[.int .i64 a, .int .i64 b, .int .i64 c, .int .i64 d]⟩, .bool is]⟩)) σ' lg ∧ Inn lo B lg ∧ HB σ' lo B h m L' t' ∧ I4 L' t' (k + 1) := by
  have HVs := H.toV
  cases hL : L with
  | nil =>
    subst hL
    obtain ⟨σ', d⟩ := take_empty HVs
    exact ⟨_, _, _, _, _, σ', _, _, _, d, Inn.nil, H.grow (same_of d).1 (same_of d).2, I.more⟩
  | cons x l =>
    have hx : L[0]? = some x := by rw [hL]; rfl
    obtain ⟨σ', lg, d, i, H'⟩ := take_hb H hx
    exact ⟨_, _, _, _, _, σ', lg, _, _, d, i, H', I.out HVs.pos HVs.dist hx⟩

end Go.Ab

set_option linter.unusedSimpArgs false
set_option linter.unusedVariables false
namespace Go.Ab
open Go.Proofs

noncomputable def doesB : Code := Try.f18.body.getD .skip
theorem doesB_is : Try.f18.body = some doesB := rfl

def bt18 : Nat → List Nat
  | 15 => [0, 0, 0, 6, 14, 30, 30, 126, 254, 31, 1023]
  | _ => []

/-- What stands at the end of 'does'. -/
theorem does_ends {ts : List Value} {σ : St} {lg : Log} {p : Nat} {x : AX} {s t b : Value} (hx : x = .norm ∨ x = .ret) (h6 : lget ts 6 = .pointer (some ⟨p, 0, none⟩)) (h7 : lget ts 7 = b) (hg : σ.get p = some (.cells [s, t] false)) :
    endsA (cP Try.prog).T Try.f18.results.toList ⟨x, ⟨ts, []⟩, σ, lg⟩ = some (.ret (.tuple ⟨[.agg ⟨[s, t]⟩, b]⟩)) := by
  rcases hx with rfl | rfl <;> simp only [endsA, Try.f18, go_sem, Nat.reducePow, Nat.reduceDiv, Nat.reduceMod, Nat.reduceAdd, Nat.reduceSub, Nat.reduceMul, Nat.reduceLeDiff, Nat.reduceLT, Nat.reduceEqDiff, reduceCtorEq, reduceIte, reduceDIte, if_pos rfl, Int.reduceLT, Int.reduceLE, Int.reduceEq, Int.reduceNeg, Int.reduceAdd, Int.reduceSub, Int.reduceMul, Int.reduceToNat, h6, h7, hg, Try.underlying38, info38, Try.t38, Try.underlying39, info39, Try.t39] <;> rfl

/-- The three blocks that 'does' begins with. -/
noncomputable def doesS (σ : St) (kind id n d : Int) : St :=
  ((σ.new (.cells [.slice none 0 0, .int .i64 0] false)).new (.cells [.int .i64 kind, .int .i64 id, .int .i64 n, .int .i64 d] false)).new (.cells [.slice none 0 0, .int .i64 0] false)

theorem doesS_next {σ : St} {kind id n d : Int} : (doesS σ kind id n d).next = σ.next + 3 := rfl
theorem doesS_old {σ : St} {kind id n d : Int} : ∀ c, c < σ.next → (doesS σ kind id n d).get c = σ.get c := fun c hc => by
  simp only [doesS, St.get_new, St.next_new]
  repeat rw [if_neg (by omega)]
theorem doesS_0 {σ : St} {kind id n d : Int} : (doesS σ kind id n d).get σ.next = some (.cells [.slice none 0 0, .int .i64 0] false) := by
  simp only [doesS, St.get_new, St.next_new]
  rw [if_neg (by omega), if_neg (by omega)]
  simp
theorem doesS_1 {σ : St} {kind id n d : Int} : (doesS σ kind id n d).get (σ.next + 1) = some (.cells [.int .i64 kind, .int .i64 id, .int .i64 n, .int .i64 d] false) := by
  simp only [doesS, St.get_new, St.next_new]
  rw [if_neg (by omega)]
  simp
theorem doesS_2 {σ : St} {kind id n d : Int} : (doesS σ kind id n d).get (σ.next + 2) = some (.cells [.slice none 0 0, .int .i64 0] false) := by
  simp [doesS, St.get_new, St.next_new]

/-- A frame of 'does'. -/
structure DoF (ts : List Value) (h p : Nat) : Prop where
  size : ts.length = 90
  t0 : lget ts 0 = .pointer (some ⟨h, 0, none⟩)
  t4 : lget ts 4 = .pointer (some ⟨p, 0, none⟩)
  t5 : lget ts 5 = .pointer (some ⟨p + 1, 0, none⟩)
  t6 : lget ts 6 = .pointer (some ⟨p + 2, 0, none⟩)

/-- The beginning. -/
theorem does_start {σ : St} {h : Nat} (kind id n d : Int) :
    ∃ ts, DC Try.prog false (nthC 0 doesB) (start [.pointer (some ⟨h, 0, none⟩), .agg ⟨[.slice none 0 0, .int .i64 0]⟩, .agg ⟨[.int .i64 kind, .int .i64 id, .int .i64 n, .int .i64 d]⟩] Try.f18.ntmps) σ ⟨.norm, ⟨ts, []⟩, doesS σ kind id n d, []⟩ ∧ DoF ts h σ.next := by
  obtain ⟨ts0, h0, l0, q0, q1, q2⟩ : ∃ ts0, start [.pointer (some ⟨h, 0, none⟩), .agg ⟨[.slice none 0 0, .int .i64 0]⟩, .agg ⟨[.int .i64 kind, .int .i64 id, .int .i64 n, .int .i64 d]⟩] Try.f18.ntmps = ⟨ts0, []⟩ ∧ ts0.length = 90 ∧ lget ts0 0 = .pointer (some ⟨h, 0, none⟩) ∧ lget ts0 1 = .agg ⟨[.slice none 0 0, .int .i64 0]⟩ ∧ lget ts0 2 = .agg ⟨[.int .i64 kind, .int .i64 id, .int .i64 n, .int .i64 d]⟩ :=
    ⟨(start [.pointer (some ⟨h, 0, none⟩), .agg ⟨[.slice none 0 0, .int .i64 0]⟩, .agg ⟨[.int .i64 kind, .int .i64 id, .int .i64 n, .int .i64 d]⟩] 90).ts, rfl, rfl, rfl, rfl, rfl⟩
  rw [h0]
  refine ⟨_, runs Orc.none_ok 30 nobt (by kernel_rfl) (by simp only [go_sem, Nat.reducePow, Nat.reduceDiv, Nat.reduceMod, Nat.reduceAdd, Nat.reduceSub, Nat.reduceMul, Nat.reduceLeDiff, Nat.reduceLT, Nat.reduceEqDiff, reduceCtorEq, reduceIte, reduceDIte, if_pos rfl, Int.reduceLT, Int.reduceLE, Int.reduceEq, Int.reduceNeg, Int.reduceAdd, Int.reduceSub, Int.reduceMul, Int.reduceToNat, doesS, doesB, nthC, Option.getD, lget_put, lgetq_put, List.length_set, q0, q1, q2, l0, Try.f18, Try.underlying2, info2, Try.t2, Try.underlying3, info3, Try.t3, Try.underlying4, info4, Try.t4, Try.underlying24, info24, Try.t24, Try.underlying28, info28, Try.t28, Try.underlying30, info30, Try.t30, Try.underlying31, info31, Try.t31, Try.underlying37, info37, Try.t37, Try.underlying38, info38, Try.t38, Try.underlying39, info39, Try.t39, Try.underlying42, info42, Try.t42, Try.underlying43, info43, Try.t43] <;> rfl), ?_⟩
  constructor <;> simp only [lget_put, List.length_set, q0, q1, q2, l0, Nat.reduceEqDiff, Nat.reduceLT, if_true, if_false, St.next_new, Nat.add_assoc, Nat.reduceAdd]

def sndC : Code → Code
  | .seq _ b => b
  | c => c

theorem does_whole {σ σ' : St} {h : Nat} {kind id n d : Int} {ts ts' : List Value} {lg : Log} {p : Nat} {s t : Value}
    (r0 : DC Try.prog false (nthC 0 doesB) (start [.pointer (some ⟨h, 0, none⟩), .agg ⟨[.slice none 0 0, .int .i64 0]⟩, .agg ⟨[.int .i64 kind, .int .i64 id, .int .i64 n, .int .i64 d]⟩] Try.f18.ntmps) σ ⟨.norm, ⟨ts, []⟩, doesS σ kind id n d, []⟩)
    (r : DC Try.prog false (sndC doesB) ⟨ts, []⟩ (doesS σ kind id n d) ⟨.ret, ⟨ts', []⟩, σ', lg⟩) (h6 : lget ts' 6 = .pointer (some ⟨p, 0, none⟩)) (hg : σ'.get p = some (.cells [s, t] false)) :
    ∃ res, DCall Try.prog 18 [.pointer (some ⟨h, 0, none⟩), .agg ⟨[.slice none 0 0, .int .i64 0]⟩, .agg ⟨[.int .i64 kind, .int .i64 id, .int .i64 n, .int .i64 d]⟩] σ (.ret res) σ' ([] ++ lg) :=
  ⟨_, callsD Try.func18 doesB_is (DC.seq r0 rfl r) (does_ends (.inr rfl) h6 rfl hg) rfl rfl⟩

/-- What a call of 'does' comes to. -/
def DoesTo (σ : St) (lo h m : Nat) (kind id n d : Int) (k : Nat) : Prop :=
  ∃ res σ' lg L' t', DCall Try.prog 18 [.pointer (some ⟨h, 0, none⟩), .agg ⟨[.slice none 0 0, .int .i64 0]⟩, .agg ⟨[.int .i64 kind, .int .i64 id, .int .i64 n, .int .i64 d]⟩] σ (.ret res) σ' lg ∧ From lo lg ∧ HV σ' lo h m L' t' ∧ I4 L' t' (k + 1)

theorem b21 : ((2 : Int) == 1) = false := by decide
theorem b31 : ((3 : Int) == 1) = false := by decide
theorem b32 : ((3 : Int) == 2) = false := by decide
theorem b41 : ((4 : Int) == 1) = false := by decide
theorem b42 : ((4 : Int) == 2) = false := by decide
theorem b43 : ((4 : Int) == 3) = false := by decide

set_option maxRecDepth 20000 in
theorem does_1 {σ : St} {lo h m : Nat} {L : List Item} {t : Int} {k : Nat} (H : HV σ lo h m L t) (I : I4 L t k) (hk : k < 900) (id n d : Int) (hn : okI n = true) (hd : okI d = true) : DoesTo σ lo h m 1 id n d k := by
  obtain ⟨ts, r0, F⟩ := does_start (σ := σ) (h := h) 1 id n d
  obtain ⟨σ1, sa, sl, sc, tt, e, d1⟩ := refPut_empty id n d (doesS σ 1 id n d) hn hd
  obtain ⟨nx, sm⟩ := same_of d1
  rw [doesS_next] at nx sm
  have HB1 : HB (σ1.set σ.next (.cells [.slice sa sl sc, .int .i64 tt] false)) lo σ.next h m L t := (H.toB.grow (by show σ.next ≤ σ1.next; omega) fun c hc => (sm c (by omega)).trans (doesS_old c hc)).setp (Nat.le_refl _)
  obtain ⟨e2, σ2, lg, L', t', d2, hi, H2, I2⟩ := any_put HB1 I hk id n d hn hd
  have lo1 : lo ≤ σ.next := H.2.2.1
  have ko := keep_out d2 hi
  have s0 := doesS_0 (σ := σ) (kind := 1) (id := id) (n := n) (d := d)
  have s1 := doesS_1 (σ := σ) (kind := 1) (id := id) (n := n) (d := d)
  have s2 := doesS_2 (σ := σ) (kind := 1) (id := id) (n := n) (d := d)
  have g0 := (sm _ (by omega)).trans s0
  have g1 := (sm _ (by omega)).trans s1
  have g2 := (sm _ (by omega)).trans s2
  have k0 : σ2.get σ.next = some (.cells [.slice sa sl sc, .int .i64 tt] false) := by
    rw [ko _ (Nat.le_refl _) (by show σ.next < σ1.next; omega), St.get_set, if_pos rfl]
  have k2 : σ2.get (σ.next + 2) = some (.cells [.slice none 0 0, .int .i64 0] false) := by
    rw [ko _ (by omega) (by show σ.next + 2 < σ1.next; omega), St.get_set, if_neg (by omega), g2]
  have q0 := F.t0
  have q4 := F.t4
  have q5 := F.t5
  have q6 := F.t6
  have ql := F.size
  obtain ⟨ts', lg', r, h6, hl⟩ : ∃ ts' lg', DC Try.prog false (sndC doesB) ⟨ts, []⟩ (doesS σ 1 id n d) ⟨.ret, ⟨ts', []⟩, σ2.set (σ.next + 2) (.cells [.slice sa sl sc, .int .i64 tt] false), lg'⟩ ∧ lget ts' 6 = .pointer (some ⟨σ.next + 2, 0, none⟩) ∧ ∀ c ∈ lg', c ∈ lg ∨ σ.next ≤ c := by
    refine ⟨_, _, runs (one_ok' (one_ok' Orc.none_ok d2) d1) 60 bt18 (by kernel_rfl) (by simp only [go_sem, Nat.reducePow, Nat.reduceDiv, Nat.reduceMod, Nat.reduceAdd, Nat.reduceSub, Nat.reduceMul, Nat.reduceLeDiff, Nat.reduceLT, Nat.reduceEqDiff, reduceCtorEq, reduceIte, reduceDIte, if_pos rfl, Int.reduceLT, Int.reduceLE, Int.reduceEq, Int.reduceNeg, Int.reduceAdd, Int.reduceSub, Int.reduceMul, Int.reduceToNat, doesB, sndC, Option.getD, one_other, Orc.one_call, lget_put, lgetq_put, List.length_set, q0, q4, q5, q6, ql, s0, s1, g0, g1, k0, k2, Try.f18, Try.underlying2, info2, Try.t2, Try.underlying3, info3, Try.t3, Try.underlying4, info4, Try.t4, Try.underlying24, info24, Try.t24, Try.underlying28, info28, Try.t28, Try.underlying30, info30, Try.t30, Try.underlying31, info31, Try.t31, Try.underlying37, info37, Try.t37, Try.underlying38, info38, Try.t38, Try.underlying39, info39, Try.t39, Try.underlying42, info42, Try.t42, Try.underlying43, info43, Try.t43, Try.underlying106, info106, Try.t106, body14, body50] <;> rfl), ?_, fun c hc => ?_⟩
    · simp only [lget_put, List.length_set, q0, q4, q5, q6, ql, Nat.reduceEqDiff, Nat.reduceLT, if_true, if_false]
    · by_cases hm : c ∈ lg
      · exact .inl hm
      · right; simp [hm] at hc; omega
  obtain ⟨res, dd⟩ := does_whole (s := .slice sa sl sc) (t := .int .i64 tt) r0 r h6 (by rw [St.get_set, if_pos rfl])
  refine ⟨res, _, _, L', t', dd, fun c hc => ?_, H2.2 _ _ (by omega) (by show σ.next + 2 < σ1.next; omega), I2⟩
  rcases hl c hc with hc | hc
  · exact (hi c hc).1
  · omega

set_option maxRecDepth 20000 in
theorem does_2 {σ : St} {lo h m : Nat} {L : List Item} {t : Int} {k : Nat} (H : HV σ lo h m L t) (I : I4 L t k) (id n d : Int) (hn : okI n = true) (hd : okI d = true) : DoesTo σ lo h m 2 id n d k := by
  obtain ⟨ts, r0, F⟩ := does_start (σ := σ) (h := h) 2 id n d
  obtain ⟨e, d1⟩ := refSet_empty id n d (doesS σ 2 id n d) hn hd
  have HB1 : HB ((doesS σ 2 id n d).set σ.next (.cells [.slice none 0 0, .int .i64 0] false)) lo σ.next h m L t := (H.toB.grow (by rw [doesS_next]; omega) doesS_old).setp (Nat.le_refl _)
  obtain ⟨e2, σ2, lg, L', t', d2, hi, H2, I2⟩ := any_set HB1 I id n d hn hd
  have lo1 : lo ≤ σ.next := H.2.2.1
  have ko := keep_out d2 hi
  have s0 := doesS_0 (σ := σ) (kind := 2) (id := id) (n := n) (d := d)
  have s1 := doesS_1 (σ := σ) (kind := 2) (id := id) (n := n) (d := d)
  have s2 := doesS_2 (σ := σ) (kind := 2) (id := id) (n := n) (d := d)
  have k0 : σ2.get σ.next = some (.cells [.slice none 0 0, .int .i64 0] false) := by
    rw [ko _ (Nat.le_refl _) (by show σ.next < σ.next + 3; omega), St.get_set, if_pos rfl]
  have k2 : σ2.get (σ.next + 2) = some (.cells [.slice none 0 0, .int .i64 0] false) := by
    rw [ko _ (by omega) (by show σ.next + 2 < σ.next + 3; omega), St.get_set, if_neg (by omega), s2]
  have q0 := F.t0
  have q4 := F.t4
  have q5 := F.t5
  have q6 := F.t6
  have ql := F.size
  obtain ⟨ts', lg', r, h6, hl⟩ : ∃ ts' lg', DC Try.prog false (sndC doesB) ⟨ts, []⟩ (doesS σ 2 id n d) ⟨.ret, ⟨ts', []⟩, σ2.set (σ.next + 2) (.cells [.slice none 0 0, .int .i64 0] false), lg'⟩ ∧ lget ts' 6 = .pointer (some ⟨σ.next + 2, 0, none⟩) ∧ ∀ c ∈ lg', c ∈ lg ∨ σ.next ≤ c := by
    refine ⟨_, _, runs (one_ok' (one_ok' Orc.none_ok d2) d1) 60 bt18 (by kernel_rfl) (by simp only [go_sem, Nat.reducePow, Nat.reduceDiv, Nat.reduceMod, Nat.reduceAdd, Nat.reduceSub, Nat.reduceMul, Nat.reduceLeDiff, Nat.reduceLT, Nat.reduceEqDiff, reduceCtorEq, reduceIte, reduceDIte, if_pos rfl, Int.reduceLT, Int.reduceLE, Int.reduceEq, Int.reduceNeg, Int.reduceAdd, Int.reduceSub, Int.reduceMul, Int.reduceToNat, doesB, sndC, Option.getD, one_other, Orc.one_call, lget_put, lgetq_put, List.length_set, b21, b31, b32, q0, q4, q5, q6, ql, s0, s1, k0, k2, Try.f18, Try.underlying2, info2, Try.t2, Try.underlying3, info3, Try.t3, Try.underlying4, info4, Try.t4, Try.underlying24, info24, Try.t24, Try.underlying28, info28, Try.t28, Try.underlying30, info30, Try.t30, Try.underlying31, info31, Try.t31, Try.underlying37, info37, Try.t37, Try.underlying38, info38, Try.t38, Try.underlying39, info39, Try.t39, Try.underlying42, info42, Try.t42, Try.underlying43, info43, Try.t43, Try.underlying106, info106, Try.t106, body15, body51] <;> rfl), ?_, fun c hc => ?_⟩
    · simp only [lget_put, List.length_set, q0, q4, q5, q6, ql, Nat.reduceEqDiff, Nat.reduceLT, if_true, if_false]
    · by_cases hm : c ∈ lg
      · exact .inl hm
      · right; simp [hm] at hc; omega
  obtain ⟨res, dd⟩ := does_whole (s := .slice none 0 0) (t := .int .i64 0) r0 r h6 (by rw [St.get_set, if_pos rfl])
  refine ⟨res, _, _, L', t', dd, fun c hc => ?_, H2.2 _ _ (by omega) (by show σ.next + 2 < σ.next + 3; omega), I2⟩
  rcases hl c hc with hc | hc
  · exact (hi c hc).1
  · omega

set_option maxRecDepth 20000 in
theorem does_3 {σ : St} {lo h m : Nat} {L : List Item} {t : Int} {k : Nat} (H : HV σ lo h m L t) (I : I4 L t k) (id n d : Int) : DoesTo σ lo h m 3 id n d k := by
  obtain ⟨ts, r0, F⟩ := does_start (σ := σ) (h := h) 3 id n d
  have d1 := refDrop_empty id (doesS σ 3 id n d)
  have HB1 : HB ((doesS σ 3 id n d).set σ.next (.cells [.slice none 0 0, .int .i64 0] false)) lo σ.next h m L t := (H.toB.grow (by rw [doesS_next]; omega) doesS_old).setp (Nat.le_refl _)
  obtain ⟨e2, σ2, lg, L', t', d2, hi, H2, I2⟩ := any_drop HB1 I id
  have lo1 : lo ≤ σ.next := H.2.2.1
  have ko := keep_out d2 hi
  have s0 := doesS_0 (σ := σ) (kind := 3) (id := id) (n := n) (d := d)
  have s1 := doesS_1 (σ := σ) (kind := 3) (id := id) (n := n) (d := d)
  have s2 := doesS_2 (σ := σ) (kind := 3) (id := id) (n := n) (d := d)
  have k0 : σ2.get σ.next = some (.cells [.slice none 0 0, .int .i64 0] false) := by
    rw [ko _ (Nat.le_refl _) (by show σ.next < σ.next + 3; omega), St.get_set, if_pos rfl]
  have k2 : σ2.get (σ.next + 2) = some (.cells [.slice none 0 0, .int .i64 0] false) := by
    rw [ko _ (by omega) (by show σ.next + 2 < σ.next + 3; omega), St.get_set, if_neg (by omega), s2]
  have q0 := F.t0
  have q4 := F.t4
  have q5 := F.t5
  have q6 := F.t6
  have ql := F.size
  obtain ⟨ts', lg', r, h6, hl⟩ : ∃ ts' lg', DC Try.prog false (sndC doesB) ⟨ts, []⟩ (doesS σ 3 id n d) ⟨.ret, ⟨ts', []⟩, σ2.set (σ.next + 2) (.cells [.slice none 0 0, .int .i64 0] false), lg'⟩ ∧ lget ts' 6 = .pointer (some ⟨σ.next + 2, 0, none⟩) ∧ ∀ c ∈ lg', c ∈ lg ∨ σ.next ≤ c := by
    refine ⟨_, _, runs (one_ok' (one_ok' Orc.none_ok d2) d1) 60 bt18 (by kernel_rfl) (by simp only [go_sem, Nat.reducePow, Nat.reduceDiv, Nat.reduceMod, Nat.reduceAdd, Nat.reduceSub, Nat.reduceMul, Nat.reduceLeDiff, Nat.reduceLT, Nat.reduceEqDiff, reduceCtorEq, reduceIte, reduceDIte, if_pos rfl, Int.reduceLT, Int.reduceLE, Int.reduceEq, Int.reduceNeg, Int.reduceAdd, Int.reduceSub, Int.reduceMul, Int.reduceToNat, doesB, sndC, Option.getD, one_other, Orc.one_call, lget_put, lgetq_put, List.length_set, b21, b31, b32, q0, q4, q5, q6, ql, s0, s1, k0, k2, Try.f18, Try.underlying2, info2, Try.t2, Try.underlying3, info3, Try.t3, Try.underlying4, info4, Try.t4, Try.underlying24, info24, Try.t24, Try.underlying28, info28, Try.t28, Try.underlying30, info30, Try.t30, Try.underlying31, info31, Try.t31, Try.underlying37, info37, Try.t37, Try.underlying38, info38, Try.t38, Try.underlying39, info39, Try.t39, Try.underlying42, info42, Try.t42, Try.underlying43, info43, Try.t43, Try.underlying106, info106, Try.t106, body43, body52] <;> rfl), ?_, fun c hc => ?_⟩
    · simp only [lget_put, List.length_set, q0, q4, q5, q6, ql, Nat.reduceEqDiff, Nat.reduceLT, if_true, if_false]
    · by_cases hm : c ∈ lg
      · exact .inl hm
      · right; simp [hm] at hc; omega
  obtain ⟨res, dd⟩ := does_whole (s := .slice none 0 0) (t := .int .i64 0) r0 r h6 (by rw [St.get_set, if_pos rfl])
  refine ⟨res, _, _, L', t', dd, fun c hc => ?_, H2.2 _ _ (by omega) (by show σ.next + 2 < σ.next + 3; omega), I2⟩
  rcases hl c hc with hc | hc
  · exact (hi c hc).1
  · omega

end Go.Ab

set_option linter.unusedSimpArgs false
set_option linter.unusedVariables false
namespace Go.Ab
open Go.Proofs

set_option maxRecDepth 20000 in
theorem does_4 {σ : St} {lo h m : Nat} {L : List Item} {t : Int} {k : Nat} (H : HV σ lo h m L t) (I : I4 L t k) (id n d : Int) : DoesTo σ lo h m 4 id n d k := by
  obtain ⟨ts, r0, F⟩ := does_start (σ := σ) (h := h) 4 id n d
  have HB1 : HB (doesS σ 4 id n d) lo σ.next h m L t := H.toB.grow (by rw [doesS_next]; omega) doesS_old
  obtain ⟨ya, yb, yc, yd, is, σ2, lg, L', t', d2, hi, H2, I2⟩ := any_take HB1 I
  have lo1 : lo ≤ σ.next := H.2.2.1
  have ko := keep_out d2 hi
  have nx : σ.next + 3 ≤ σ2.next := d2.1.1
  have s0 := doesS_0 (σ := σ) (kind := 4) (id := id) (n := n) (d := d)
  have s1 := doesS_1 (σ := σ) (kind := 4) (id := id) (n := n) (d := d)
  have s2 := doesS_2 (σ := σ) (kind := 4) (id := id) (n := n) (d := d)
  have k0 : σ2.get σ.next = some (.cells [.slice none 0 0, .int .i64 0] false) := by
    rw [ko _ (Nat.le_refl _) (by rw [doesS_next]; omega), s0]
  have k2 : σ2.get (σ.next + 2) = some (.cells [.slice none 0 0, .int .i64 0] false) := by
    rw [ko _ (by omega) (by rw [doesS_next]; omega), s2]
  have n0 : ¬ σ2.next = σ.next := by omega
  have n1 : ¬ σ2.next + 1 = σ.next := by omega
  have n2 : ¬ σ2.next + 2 = σ.next := by omega
  have m0 : ¬ σ2.next = σ.next + 2 := by omega
  have m1 : ¬ σ2.next + 1 = σ.next + 2 := by omega
  have m2 : ¬ σ2.next + 2 = σ.next + 2 := by omega
  have q0 := F.t0
  have q4 := F.t4
  have q5 := F.t5
  have q6 := F.t6
  have ql := F.size
  let σ3 := (σ2.new (.cells [.int .i64 0, .int .i64 0, .int .i64 0, .int .i64 0] false)).set σ2.next (.cells [.int .i64 ya, .int .i64 yb, .int .i64 yc, .int .i64 yd] false)
  have d1 := refTake_empty σ3
  let σ4 := ((((σ3.new (.cells [.slice none 0 0, .int .i64 0] false)).new (.cells [.int .i64 0, .int .i64 0, .int .i64 0, .int .i64 0] false)).set (σ2.next + 1) (.cells [.slice none 0 0, .int .i64 0] false)).set (σ2.next + 2) (.cells [.int .i64 0, .int .i64 0, .int .i64 0, .int .i64 0] false)).set (σ.next + 2) (.cells [.slice none 0 0, .int .i64 0] false)
  obtain ⟨bb, hb⟩ : ∃ bb, eqCells [.int, .int, .int, .int] [.int .i64 ya, .int .i64 yb, .int .i64 yc, .int .i64 yd] [.int .i64 0, .int .i64 0, .int .i64 0, .int .i64 0] = some bb := by
    simp only [eqCells, if_true]
    split
    · split
      · split
        · split
          · exact ⟨_, rfl⟩
          · exact ⟨_, rfl⟩
        · exact ⟨_, rfl⟩
      · exact ⟨_, rfl⟩
    · exact ⟨_, rfl⟩
  have H4 : HB σ4 lo σ.next h m L' t' := ((((H2.new.setp (by omega)).new.new).setp (by omega)).setp (by omega)).setp (by omega)
  obtain ⟨ts', lg', r, h6, hl⟩ : ∃ ts' lg', DC Try.prog false (sndC doesB) ⟨ts, []⟩ (doesS σ 4 id n d) ⟨.ret, ⟨ts', []⟩, σ4, lg'⟩ ∧ lget ts' 6 = .pointer (some ⟨σ.next + 2, 0, none⟩) ∧ ∀ c ∈ lg', c ∈ lg ∨ σ.next ≤ c := by
    cases bb with
    | true =>
      refine ⟨_, _, runs (one_ok' (one_ok' Orc.none_ok d1) d2) 60 bt18 (by kernel_rfl) (by simp only [go_sem, Nat.reducePow, Nat.reduceDiv, Nat.reduceMod, Nat.reduceAdd, Nat.reduceSub, Nat.reduceMul, Nat.reduceLeDiff, Nat.reduceLT, Nat.reduceEqDiff, reduceCtorEq, reduceIte, reduceDIte, if_pos rfl, Int.reduceLT, Int.reduceLE, Int.reduceEq, Int.reduceNeg, Int.reduceAdd, Int.reduceSub, Int.reduceMul, Int.reduceToNat, σ3, σ4, bt18, b41, b42, b43, doesB, sndC, Option.getD, one_other, Orc.one_call, lget_put, lgetq_put, List.length_set, q0, q4, q5, q6, ql, s0, s1, k0, k2, n0, n1, n2, m0, m1, m2, flat31, hb, Try.f18, Try.underlying2, info2, Try.t2, Try.underlying3, info3, Try.t3, Try.underlying4, info4, Try.t4, Try.underlying24, info24, Try.t24, Try.underlying28, info28, Try.t28, Try.underlying30, info30, Try.t30, Try.underlying31, info31, Try.t31, Try.underlying32, info32, Try.t32, Try.underlying37, info37, Try.t37, Try.underlying38, info38, Try.t38, Try.underlying39, info39, Try.t39, Try.underlying42, info42, Try.t42, Try.underlying43, info43, Try.t43, Try.underlying106, info106, Try.t106, Try.underlying109, info109, Try.t109, body16, body53] <;> rfl), ?_, fun c hc => ?_⟩
      · simp only [lget_put, List.length_set, q0, q4, q5, q6, ql, Nat.reduceEqDiff, Nat.reduceLT, if_true, if_false]
      · by_cases hm : c ∈ lg
        · exact .inl hm
        · right; simp [hm] at hc; omega
    | false =>
      refine ⟨_, _, runs (one_ok' (one_ok' Orc.none_ok d1) d2) 60 bt18 (by kernel_rfl) (by simp only [go_sem, Nat.reducePow, Nat.reduceDiv, Nat.reduceMod, Nat.reduceAdd, Nat.reduceSub, Nat.reduceMul, Nat.reduceLeDiff, Nat.reduceLT, Nat.reduceEqDiff, reduceCtorEq, reduceIte, reduceDIte, if_pos rfl, Int.reduceLT, Int.reduceLE, Int.reduceEq, Int.reduceNeg, Int.reduceAdd, Int.reduceSub, Int.reduceMul, Int.reduceToNat, σ3, σ4, bt18, b41, b42, b43, doesB, sndC, Option.getD, one_other, Orc.one_call, lget_put, lgetq_put, List.length_set, q0, q4, q5, q6, ql, s0, s1, k0, k2, n0, n1, n2, m0, m1, m2, flat31, hb, Try.f18, Try.underlying2, info2, Try.t2, Try.underlying3, info3, Try.t3, Try.underlying4, info4, Try.t4, Try.underlying24, info24, Try.t24, Try.underlying28, info28, Try.t28, Try.underlying30, info30, Try.t30, Try.underlying31, info31, Try.t31, Try.underlying32, info32, Try.t32, Try.underlying37, info37, Try.t37, Try.underlying38, info38, Try.t38, Try.underlying39, info39, Try.t39, Try.underlying42, info42, Try.t42, Try.underlying43, info43, Try.t43, Try.underlying106, info106, Try.t106, Try.underlying109, info109, Try.t109, body16, body53] <;> rfl), ?_, fun c hc => ?_⟩
      · simp only [lget_put, List.length_set, q0, q4, q5, q6, ql, Nat.reduceEqDiff, Nat.reduceLT, if_true, if_false]
      · by_cases hm : c ∈ lg
        · exact .inl hm
        · right; simp [hm] at hc; omega
  obtain ⟨res, dd⟩ := does_whole (s := .slice none 0 0) (t := .int .i64 0) r0 r h6 (by rw [St.get_set, if_pos rfl])
  refine ⟨res, _, _, L', t', dd, fun c hc => ?_, H4.toV, I2⟩
  rcases hl c hc with hc | hc
  · exact (hi c hc).1
  · omega

set_option maxRecDepth 20000 in
theorem does_5 {σ : St} {lo h m : Nat} {L : List Item} {t : Int} {k : Nat} (H : HV σ lo h m L t) (I : I4 L t k) (kind id n d : Int) (c1 : ¬ kind = 1) (c2 : ¬ kind = 2) (c3 : ¬ kind = 3) (c4 : ¬ kind = 4) : DoesTo σ lo h m kind id n d k := by
  obtain ⟨ts, r0, F⟩ := does_start (σ := σ) (h := h) kind id n d
  have HB1 : HB (doesS σ kind id n d) lo σ.next h m L t := H.toB.grow (by rw [doesS_next]; omega) doesS_old
  have lo1 : lo ≤ σ.next := H.2.2.1
  have s0 := doesS_0 (σ := σ) (kind := kind) (id := id) (n := n) (d := d)
  have s1 := doesS_1 (σ := σ) (kind := kind) (id := id) (n := n) (d := d)
  have s2 := doesS_2 (σ := σ) (kind := kind) (id := id) (n := n) (d := d)
  have e1 : (kind == 1) = false := by rw [beq_eq_false_iff_ne]; exact c1
  have e2 : (kind == 2) = false := by rw [beq_eq_false_iff_ne]; exact c2
  have e3 : (kind == 3) = false := by rw [beq_eq_false_iff_ne]; exact c3
  have e4 : (kind == 4) = false := by rw [beq_eq_false_iff_ne]; exact c4
  have q0 := F.t0
  have q4 := F.t4
  have q5 := F.t5
  have q6 := F.t6
  have ql := F.size
  obtain ⟨ts', lg', r, h6, hl⟩ : ∃ ts' lg', DC Try.prog false (sndC doesB) ⟨ts, []⟩ (doesS σ kind id n d) ⟨.ret, ⟨ts', []⟩, (doesS σ kind id n d).set (σ.next + 2) (.cells [.slice none 0 0, .int .i64 0] false), lg'⟩ ∧ lget ts' 6 = .pointer (some ⟨σ.next + 2, 0, none⟩) ∧ ∀ c ∈ lg', σ.next ≤ c := by
    refine ⟨_, _, runs Orc.none_ok 60 bt18 (by kernel_rfl) (by simp only [go_sem, Nat.reducePow, Nat.reduceDiv, Nat.reduceMod, Nat.reduceAdd, Nat.reduceSub, Nat.reduceMul, Nat.reduceLeDiff, Nat.reduceLT, Nat.reduceEqDiff, reduceCtorEq, reduceIte, reduceDIte, if_pos rfl, Int.reduceLT, Int.reduceLE, Int.reduceEq, Int.reduceNeg, Int.reduceAdd, Int.reduceSub, Int.reduceMul, Int.reduceToNat, doesB, sndC, Option.getD, lget_put, lgetq_put, List.length_set, q0, q4, q5, q6, ql, s0, s1, s2, e1, e2, e3, e4, Try.f18, Try.underlying2, info2, Try.t2, Try.underlying3, info3, Try.t3, Try.underlying4, info4, Try.t4, Try.underlying24, info24, Try.t24, Try.underlying28, info28, Try.t28, Try.underlying30, info30, Try.t30, Try.underlying31, info31, Try.t31, Try.underlying37, info37, Try.t37, Try.underlying38, info38, Try.t38, Try.underlying39, info39, Try.t39, Try.underlying42, info42, Try.t42, Try.underlying43, info43, Try.t43, Try.underlying106, info106, Try.t106] <;> rfl), ?_, fun c hc => ?_⟩
    · simp only [lget_put, List.length_set, q0, q4, q5, q6, ql, Nat.reduceEqDiff, Nat.reduceLT, if_true, if_false]
    · simp at hc; omega
  obtain ⟨res, dd⟩ := does_whole (s := .slice none 0 0) (t := .int .i64 0) r0 r h6 (by rw [St.get_set, if_pos rfl])
  refine ⟨res, _, _, L, t, dd, fun c hc => ?_, (HB1.setp (by omega)).toV, I.more⟩
  have := hl c hc
  omega

/-- Any act. -/
theorem does_call {σ : St} {lo h m : Nat} {L : List Item} {t : Int} {k : Nat} (H : HV σ lo h m L t) (I : I4 L t k) (hk : k < 900) (kind id n d : Int) (hn : okI n = true) (hd : okI d = true) : DoesTo σ lo h m kind id n d k := by
  by_cases c1 : kind = 1
  · subst c1; exact does_1 H I hk id n d hn hd
  by_cases c2 : kind = 2
  · subst c2; exact does_2 H I id n d hn hd
  by_cases c3 : kind = 3
  · subst c3; exact does_3 H I id n d
  by_cases c4 : kind = 4
  · subst c4; exact does_4 H I id n d
  exact does_5 H I kind id n d c1 c2 c3 c4

end Go.Ab

set_option linter.unusedSimpArgs false
set_option linter.unusedVariables false
namespace Go.Ab
open Go.Proofs

/-- A frame of HeapDrains: the acts, the heap. -/
structure EF (ts : List Value) (sa : Option Addr) (len cap h : Nat) : Prop where
  size : ts.length = 114
  t0 : lget ts 0 = .slice sa len cap
  t3 : lget ts 3 = .pointer (some ⟨h, 0, none⟩)

/-- The acts that came in. -/
def ActsIn (σ : St) (sa : Option Addr) (len : Nat) (vs : List Value) : Prop :=
  (0 < len → sa = some ⟨0, 0, some 0⟩ ∧ σ.get 0 = some (.cells vs true)) ∧
  ∀ i, i < len → ∃ kind id n d, okI n = true ∧ okI d = true ∧ (vs.drop (i * 4)).take 4 = [.int .i64 kind, .int .i64 id, .int .i64 n, .int .i64 d] ∧ i * 4 + 4 ≤ vs.length

theorem ActsIn.keep {σ σ' : St} {sa : Option Addr} {len : Nat} {vs : List Value} (h : ActsIn σ sa len vs) (hk : 0 < len → σ'.get 0 = σ.get 0) : ActsIn σ' sa len vs :=
  ⟨fun hl => ⟨(h.1 hl).1, (hk hl).trans (h.1 hl).2⟩, h.2⟩

noncomputable def drainsB : Code := Try.f4.body.getD .skip
theorem drainsB_is : Try.f4.body = some drainsB := rfl
noncomputable def drains0 : Code := loopOf (nthC 3 drainsB)
noncomputable def drains1 : Code := loopOf (nthC 6 drainsB)

theorem drains_loop0 {sa : Option Addr} {len cap h m lo : Nat} {vs : List Value} (hlen : len ≤ 60) (hlo : 0 < len → 0 < lo) (hol : ∀ σ, opLen (cP Try.prog).T σ 36 (.slice sa len cap) = some (.val (.int .i64 (len : Int)) [])) : ∀ (k i : Nat) (L : List Item) (t : Int) (σ : St) (ts : List Value), len - i < k → i ≤ len → EF ts sa len cap h → lget ts 4 = .int .i64 i → ActsIn σ sa len vs → HV σ lo h m L t → I4 L t i →
    ∃ σ' lg ts' L' t', DL Try.prog false drains0 ⟨ts, []⟩ σ ⟨.exit 0, ⟨ts', []⟩, σ', lg⟩ ∧ EF ts' sa len cap h ∧ HV σ' lo h m L' t' ∧ I4 L' t' len ∧ From lo lg := by
  intro k
  induction k with
  | zero => intro i L t σ ts hk; omega
  | succ k ih =>
    intro i L t σ ts hk hi F t4 K HVs h1
    have q0 := F.t0
    have q3 := F.t3
    have ql := F.size
    by_cases hb : i < len
    · obtain ⟨kind, id, n, d, hn, hd, he, hl⟩ := K.2 i hb
      obtain ⟨rfl, g0⟩ := K.1 (by omega)
      have b1 : (i : Int) < (len : Int) := by omega
      have b0 : (0 : Int) ≤ (i : Int) ∧ (i : Int) < (len : Int) := by omega
      have w1 : IntKind.i64.wrap ((i : Int) + 1) = ((i + 1 : Nat) : Int) := by rw [IntKind.wrap_i64]; omega
      obtain ⟨res, σ1, lg1, L1, t1, dd, hf, H1, hI⟩ := does_call HVs h1 (by omega) kind id n d hn hd
      obtain ⟨ts1, hr, F1, t41⟩ : ∃ ts1, DC Try.prog false drains0 ⟨ts, []⟩ σ ⟨.norm, ⟨ts1, []⟩, σ1, lg1⟩ ∧ EF ts1 (some ⟨0, 0, some 0⟩) len cap h ∧ lget ts1 4 = .int .i64 (i + 1 : Nat) := by
        refine ⟨_, runs (one_ok' Orc.none_ok dd) 30 nobt (by kernel_rfl) (by simp only [go_sem, Nat.reducePow, Nat.reduceDiv, Nat.reduceMod, Nat.reduceAdd, Nat.reduceSub, Nat.reduceMul, Nat.reduceLeDiff, Nat.reduceLT, Nat.reduceEqDiff, reduceCtorEq, reduceIte, reduceDIte, if_pos rfl, Int.reduceLT, Int.reduceLE, Int.reduceEq, Int.reduceNeg, Int.reduceAdd, Int.reduceSub, Int.reduceMul, Int.reduceToNat, drains0, drainsB, loopOf, nthC, Option.getD, Orc.one_call, lget_put, List.length_set, hol, q0, q3, ql, t4, b0, b1, w1, he, hl, g0, Int.toNat_natCast, Try.f4, Try.underlying2, info2, Try.t2, Try.underlying3, info3, Try.t3, Try.underlying4, info4, Try.t4, Try.underlying24, info24, Try.t24, Try.underlying28, info28, Try.t28, Try.underlying36, info36, Try.t36, Try.underlying37, info37, Try.t37, Try.underlying38, info38, Try.t38, Try.underlying39, info39, Try.t39, Try.underlying43, info43, Try.t43, body18] <;> rfl), ?_, ?_⟩
        · constructor <;> simp only [lget_put, List.length_set, q0, q3, ql, Nat.reduceEqDiff, Nat.reduceLT, if_true, if_false]
        · simp only [lget_put, List.length_set, q0, q3, ql, Nat.reduceEqDiff, Nat.reduceLT, if_true, if_false]
      have kp := keep_below dd hf HVs.2.2.1
      obtain ⟨σ', lg, ts', L', t', a1, a2, a3, a4, a5⟩ := ih (i + 1) _ _ σ1 ts1 (by omega) (by omega) F1 t41 (K.keep fun hl => kp 0 (hlo hl)) H1 hI
      exact ⟨σ', lg1 ++ lg, ts', L', t', DL.next hr rfl a1, a2, a3, a4, hf.append a5⟩
    · have b1 : ¬ (i : Int) < (len : Int) := by omega
      obtain ⟨ts1, hr, F1⟩ : ∃ ts1, DC Try.prog false drains0 ⟨ts, []⟩ σ ⟨.exit 0, ⟨ts1, []⟩, σ, []⟩ ∧ EF ts1 sa len cap h := by
        refine ⟨_, runs Orc.none_ok 30 nobt (by kernel_rfl) (by simp only [go_sem, Nat.reducePow, Nat.reduceDiv, Nat.reduceMod, Nat.reduceAdd, Nat.reduceSub, Nat.reduceMul, Nat.reduceLeDiff, Nat.reduceLT, Nat.reduceEqDiff, reduceCtorEq, reduceIte, reduceDIte, if_pos rfl, Int.reduceLT, Int.reduceLE, Int.reduceEq, Int.reduceNeg, Int.reduceAdd, Int.reduceSub, Int.reduceMul, Int.reduceToNat, drains0, drainsB, loopOf, nthC, Option.getD, lget_put, List.length_set, hol, q0, q3, ql, t4, b1, Try.f4, Try.underlying2, info2, Try.t2, Try.underlying3, info3, Try.t3, Try.underlying4, info4, Try.t4, Try.underlying24, info24, Try.t24, Try.underlying28, info28, Try.t28, Try.underlying36, info36, Try.t36, Try.underlying43, info43, Try.t43] <;> rfl), ?_⟩
        constructor <;> simp only [lget_put, List.length_set, q0, q3, ql, Nat.reduceEqDiff, Nat.reduceLT, if_true, if_false]
      obtain rfl : i = len := by omega
      exact ⟨σ, [], ts1, L, t, DL.out hr rfl, F1, HVs, h1, From.nil⟩

/-- The frame of the second loop: how many, the last one's place, how many are taken. -/
structure GF (ts : List Value) (h n p i : Nat) : Prop where
  size : ts.length = 114
  t3 : lget ts 3 = .pointer (some ⟨h, 0, none⟩)
  t5 : lget ts 5 = .int .i64 n
  t6 : lget ts 6 = .pointer (some ⟨p, 0, none⟩)
  t7 : lget ts 7 = .int .i64 i

theorem HB.keyOk {σ : St} {lo B h m : Nat} {L : List Item} {t : Int} (H : HB σ lo B h m L t) {x : Item} (hx : x ∈ L) : okR x.n x.d = true := by
  rcases H.2.2.2 with ⟨rfl, _⟩ | ⟨a, cap, _, H⟩
  · simp at hx
  · have := H.ok x hx
    simp only [Item.ok, Bool.and_eq_true] at this
    exact this.1.2

set_option maxHeartbeats 1000000 in
set_option maxRecDepth 20000 in
/-- Behind round i of n: n rounds are there in all. -/
theorem drains_loop1 {h m lo n p : Nat} {t : Int} (hn : n ≤ 1000) : ∀ (k i : Nat) (L : List Item) (last : Item) (σ : St) (ts : List Value), n - i < k → i ≤ n → GF ts h n p i → p < σ.next → σ.get p = some (.cells [.int .i64 last.id, .int .i64 last.n, .int .i64 last.d, .int .i64 last.turn] false) → HB σ lo p h m L t → I6 L n i last → (0 < i → okR last.n last.d = true) →
    ∃ σ' lg ts', DL Try.prog false drains1 ⟨ts, []⟩ σ ⟨.exit 2, ⟨ts', []⟩, σ', lg⟩ ∧ ts'.length = 114 ∧ lget ts' 3 = .pointer (some ⟨h, 0, none⟩) ∧ HV σ' lo h m [] t ∧ From lo lg := by
  intro k
  induction k with
  | zero => intro i L last σ ts hk; omega
  | succ k ih =>
    intro i L last σ ts hk hi F hp gp H h6 hR
    have q3 := F.t3
    have q5 := F.t5
    have q6 := F.t6
    have q7 := F.t7
    have ql := F.size
    by_cases hb : i < n
    · have b1 : (i : Int) < (n : Int) := by omega
      have w1 : IntKind.i64.wrap ((i : Int) + 1) = ((i + 1 : Nat) : Int) := by rw [IntKind.wrap_i64]; omega
      obtain ⟨x, hx⟩ : ∃ x, L[0]? = some x := ⟨_, List.getElem?_eq_getElem (by have := h6.len; omega)⟩
      have xm := List.mem_of_getElem? hx
      have d1 := least_hv H.toV hx
      simp only [Item.cells] at d1
      let σa := (σ.new (.cells [.int .i64 0, .int .i64 0, .int .i64 0, .int .i64 0] false)).set σ.next (.cells [.int .i64 x.id, .int .i64 x.n, .int .i64 x.d, .int .i64 x.turn] false)
      have Ha : HB σa lo p h m L t := H.new.setp (by omega)
      obtain ⟨σ2, lg2, d2, hi2, H2⟩ := take_hb Ha hx
      have ko := keep_out d2 hi2
      have lop : lo ≤ p := H.2.2.1.1
      have nx2 : σ.next + 1 ≤ σ2.next := d2.1.1
      have gp2 : σ2.get p = some (.cells [.int .i64 last.id, .int .i64 last.n, .int .i64 last.d, .int .i64 last.turn] false) := by
        rw [ko p (Nat.le_refl _) (by show p < σ.next + 1; omega)]
        show ((σ.new _).set _ _).get p = _
        rw [St.get_set, if_neg (by omega), St.get_new, if_neg (by omega), gp]
      have g8 : σ2.get σ.next = some (.cells [.int .i64 x.id, .int .i64 x.n, .int .i64 x.d, .int .i64 x.turn] false) := by
        rw [ko σ.next (by omega) (Nat.lt_succ_self _)]
        show ((σ.new _).set _ _).get _ = _
        rw [St.get_set, if_pos rfl]
      let σb := (σ2.new (.cells [.int .i64 0, .int .i64 0, .int .i64 0, .int .i64 0] false)).set σ2.next (.cells [.int .i64 x.id, .int .i64 x.n, .int .i64 x.d, .int .i64 x.turn] false)
      have Hb : HB σb lo p h m (outL L 0) t := H2.new.setp (by omega)
      obtain ⟨s, f, hm, hf⟩ := Hb.toV.hm
      have hfx : f x.id = none := (hf x.id).2 fun y hy e => ((outL_mem H.toV.dist hx).1 hy).2 e
      have d3 := get_missing hm x.id hfx
      let σc := ((σb.new (.cells [.int .i64 0, .int .i64 0, .int .i64 0, .int .i64 0] false)).set (σ2.next + 1) (.cells [.int .i64 0, .int .i64 0, .int .i64 0, .int .i64 0] false)).set p (.cells [.int .i64 x.id, .int .i64 x.n, .int .i64 x.d, .int .i64 x.turn] false)
      have Hc : HB σc lo p h m (outL L 0) t := (Hb.new.setp (by omega)).setp (Nat.le_refl _)
      have n1 : ¬ σ2.next = p := by omega
      have n2 : ¬ σ2.next = σ.next := by omega
      have n3 : ¬ σ2.next + 1 = p := by omega
      have n4 : ¬ σ2.next + 1 = σ2.next := by omega
      have n5 : ¬ σ2.next + 1 = σ.next := by omega
      have n6 : ¬ p = σ2.next := by omega
      have n7 : ¬ σ.next = σ2.next := by omega
      have kx := H.keyOk xm
      have fin : ∀ (ts1 : List Value) (lg' : Log), (∀ c ∈ lg', c ∈ lg2 ∨ p ≤ c) → From lo lg' := fun ts1 lg' hl c hc => by
        rcases hl c hc with hc | hc
        · exact (hi2 c hc).1
        · omega
      obtain ⟨ts1, lg', hr, F1, hl⟩ : ∃ ts1 lg', DC Try.prog false drains1 ⟨ts, []⟩ σ ⟨.norm, ⟨ts1, []⟩, σc, lg'⟩ ∧ GF ts1 h n p (i + 1) ∧ ∀ c ∈ lg', c ∈ lg2 ∨ p ≤ c := by
        by_cases h0 : 0 < i
        · have kl := hR h0
          obtain ⟨c1, c2⟩ := h6.lst h0 x xm
          have b2 : (0 : Int) < (i : Int) := by omega
          have c3 : ¬ 0 < cmpR last.n last.d x.n x.d := by omega
          by_cases c4 : cmpR last.n last.d x.n x.d = 0
          · have c5 : ¬ x.turn ≤ last.turn := by have := c2 c4; omega
            have c6 : ¬ (0 : Int) < 0 := by omega
            refine ⟨_, _, runs (one_ok' (one_ok' (one_ok' q2_ok d3) d2) d1) 60 nobt (by kernel_rfl) (by simp only [go_sem, Nat.reducePow, Nat.reduceDiv, Nat.reduceMod, Nat.reduceAdd, Nat.reduceSub, Nat.reduceMul, Nat.reduceLeDiff, Nat.reduceLT, Nat.reduceEqDiff, reduceCtorEq, reduceIte, reduceDIte, if_pos rfl, Int.reduceLT, Int.reduceLE, Int.reduceEq, Int.reduceNeg, Int.reduceAdd, Int.reduceSub, Int.reduceMul, Int.reduceToNat, σa, σb, σc, drains1, drainsB, loopOf, nthC, Option.getD, one_other, Orc.one_call, q2, kl, kx, c4, c5, c6, lget_put, lgetq_put, List.length_set, q3, q5, q6, q7, ql, b1, b2, w1, gp, gp2, g8, n1, n2, n3, n4, n5, n6, n7, flat31, eqCells, Try.f4, Try.underlying2, info2, Try.t2, Try.underlying3, info3, Try.t3, Try.underlying4, info4, Try.t4, Try.underlying24, info24, Try.t24, Try.underlying26, info26, Try.t26, Try.underlying28, info28, Try.t28, Try.underlying30, info30, Try.t30, Try.underlying31, info31, Try.t31, Try.underlying32, info32, Try.t32, body16, body19, body20, body21] <;> rfl), ?_, fun c hc => ?_⟩
            · constructor <;> simp only [lget_put, List.length_set, q3, q5, q6, q7, ql, Nat.reduceEqDiff, Nat.reduceLT, if_true, if_false]
            · by_cases hm : c ∈ lg2
              · exact .inl hm
              · right; simp [hm] at hc; omega
          · have c5 : (cmpR last.n last.d x.n x.d == 0) = false := by rw [beq_eq_false_iff_ne]; exact c4
            refine ⟨_, _, runs (one_ok' (one_ok' (one_ok' q2_ok d3) d2) d1) 60 nobt (by kernel_rfl) (by simp only [go_sem, Nat.reducePow, Nat.reduceDiv, Nat.reduceMod, Nat.reduceAdd, Nat.reduceSub, Nat.reduceMul, Nat.reduceLeDiff, Nat.reduceLT, Nat.reduceEqDiff, reduceCtorEq, reduceIte, reduceDIte, if_pos rfl, Int.reduceLT, Int.reduceLE, Int.reduceEq, Int.reduceNeg, Int.reduceAdd, Int.reduceSub, Int.reduceMul, Int.reduceToNat, σa, σb, σc, drains1, drainsB, loopOf, nthC, Option.getD, one_other, Orc.one_call, q2, kl, kx, c3, c5, lget_put, lgetq_put, List.length_set, q3, q5, q6, q7, ql, b1, b2, w1, gp, gp2, g8, n1, n2, n3, n4, n5, n6, n7, flat31, eqCells, Try.f4, Try.underlying2, info2, Try.t2, Try.underlying3, info3, Try.t3, Try.underlying4, info4, Try.t4, Try.underlying24, info24, Try.t24, Try.underlying26, info26, Try.t26, Try.underlying28, info28, Try.t28, Try.underlying30, info30, Try.t30, Try.underlying31, info31, Try.t31, Try.underlying32, info32, Try.t32, body16, body19, body20, body21] <;> rfl), ?_, fun c hc => ?_⟩
            · constructor <;> simp only [lget_put, List.length_set, q3, q5, q6, q7, ql, Nat.reduceEqDiff, Nat.reduceLT, if_true, if_false]
            · by_cases hm : c ∈ lg2
              · exact .inl hm
              · right; simp [hm] at hc; omega
        · obtain rfl : i = 0 := by omega
          have b2 : ¬ (0 : Int) < (0 : Int) := by omega
          have b3 : (0 : Int) < (n : Int) := by omega
          have w3 : IntKind.i64.wrap 1 = 1 := by decide
          refine ⟨_, _, runs (one_ok' (one_ok' (one_ok' q2_ok d3) d2) d1) 60 nobt (by kernel_rfl) (by simp only [go_sem, Nat.reducePow, Nat.reduceDiv, Nat.reduceMod, Nat.reduceAdd, Nat.reduceSub, Nat.reduceMul, Nat.reduceLeDiff, Nat.reduceLT, Nat.reduceEqDiff, reduceCtorEq, reduceIte, reduceDIte, if_pos rfl, Int.reduceLT, Int.reduceLE, Int.reduceEq, Int.reduceNeg, Int.reduceAdd, Int.reduceSub, Int.reduceMul, Int.reduceToNat, undef, σa, σb, σc, drains1, drainsB, loopOf, nthC, Option.getD, one_other, Orc.one_call, q2, kx, lget_put, lgetq_put, List.length_set, q3, q5, q6, q7, ql, b2, b3, w3, gp, gp2, g8, n1, n2, n3, n4, n5, n6, n7, flat31, eqCells, Try.f4, Try.underlying2, info2, Try.t2, Try.underlying3, info3, Try.t3, Try.underlying4, info4, Try.t4, Try.underlying24, info24, Try.t24, Try.underlying26, info26, Try.t26, Try.underlying28, info28, Try.t28, Try.underlying30, info30, Try.t30, Try.underlying31, info31, Try.t31, Try.underlying32, info32, Try.t32, body16, body19, body20, body21] <;> rfl), ?_, fun c hc => ?_⟩
          · constructor <;> simp only [lget_put, List.length_set, q3, q5, q6, q7, ql, Nat.reduceEqDiff, Nat.reduceLT, if_true, if_false] <;> rfl
          · by_cases hm : c ∈ lg2
            · exact .inl hm
            · right; simp [hm] at hc; omega
      have gpc : σc.get p = some (.cells [.int .i64 x.id, .int .i64 x.n, .int .i64 x.d, .int .i64 x.turn] false) := by
        show (St.set _ p _).get p = _
        rw [St.get_set, if_pos rfl]
      obtain ⟨σ', lg, ts', a1, a2, a3, a4, a5⟩ := ih (i + 1) _ x σc ts1 (by omega) (by omega) F1 (by show p < σ2.next + 1 + 1; omega) gpc Hc (h6.take H.toV.pos H.toV.dist hx) (fun _ => kx)
      exact ⟨σ', lg' ++ lg, ts', DL.next hr rfl a1, a2, a3, a4, (fin ts1 lg' hl).append a5⟩
    · have b1 : ¬ (i : Int) < (n : Int) := by omega
      obtain ⟨ts1, hr, l1, a3⟩ : ∃ ts1, DC Try.prog false drains1 ⟨ts, []⟩ σ ⟨.exit 2, ⟨ts1, []⟩, σ, []⟩ ∧ ts1.length = 114 ∧ lget ts1 3 = .pointer (some ⟨h, 0, none⟩) := by
        refine ⟨_, runs Orc.none_ok 30 nobt (by kernel_rfl) (by simp only [go_sem, Nat.reducePow, Nat.reduceDiv, Nat.reduceMod, Nat.reduceAdd, Nat.reduceSub, Nat.reduceMul, Nat.reduceLeDiff, Nat.reduceLT, Nat.reduceEqDiff, reduceCtorEq, reduceIte, reduceDIte, if_pos rfl, Int.reduceLT, Int.reduceLE, Int.reduceEq, Int.reduceNeg, Int.reduceAdd, Int.reduceSub, Int.reduceMul, Int.reduceToNat, drains1, drainsB, loopOf, nthC, Option.getD, lget_put, List.length_set, q3, q5, q6, q7, ql, b1, Try.f4, Try.underlying2, info2, Try.t2, Try.underlying3, info3, Try.t3, Try.underlying4, info4, Try.t4, Try.underlying24, info24, Try.t24, Try.underlying28, info28, Try.t28] <;> rfl), ?_, ?_⟩
        · simp only [List.length_set, ql]
        · simp only [lget_put, List.length_set, q3, ql, Nat.reduceEqDiff, Nat.reduceLT, if_true, if_false]
      have hL : L = [] := List.eq_nil_of_length_eq_zero (by have := h6.len; omega)
      subst hL
      exact ⟨σ, [], ts1, DL.out hr rfl, l1, a3, H.toV, From.nil⟩

end Go.Ab

set_option linter.unusedSimpArgs false
set_option linter.unusedVariables false
namespace Go.Ab
open Go.Proofs

def btTab : List (Nat × List (Nat × List Nat)) := [
  (5, [(17, [0, 0, 0, 0, 12, 28, 60, 127, 255, 511, 511, 0, 3071, 8191]), (19, [0, 0, 0, 0, 12, 28, 60, 127, 255, 511, 511, 0, 3071, 8191])]),
  (6, [(9, [0, 0, 3, 7, 15, 31, 63, 127, 127, 511, 1023, 2047, 4095, 8191, 16383, 32767, 32767, 131071, 262143, 524287, 1048575, 2097151, 4194303, 8388607, 8388607, 33554431, 67108863, 134217727, 268435455, 536870911, 1073741823, 2147483647, 4294967295, 8589934591, 17179869183, 17179869183, 51539607551, 137438953471, 274877906943, 549755813887, 17179869183, 17179869183, 3315714752511, 7713761263615, 16509854285823, 35184372088831, 70368744177663, 140737488355327]), (16, [0, 0, 0, 0, 0, 24, 56, 120, 0, 0, 768, 1792, 3840, 8184, 16380, 32766, 65535]), (18, [0, 0, 0, 0, 12, 28, 60, 126, 0, 0, 768, 1792, 3840, 8191, 16383, 32767, 32767, 0, 196607, 524287])]),
  (8, [(8, [0, 0, 0, 0, 12, 28, 63, 127, 255, 255, 0, 1535, 4095]), (14, [0, 0, 2, 7, 15, 31, 63, 127, 127, 383, 127, 1919, 3967, 8191, 16383, 32767, 65535, 131071, 262143, 524287, 1048575, 1048575, 4194303, 8388607, 16777215])]),
  (9, [(31, [0, 1, 3, 7, 15, 31, 63, 15, 143, 511, 1023, 2047, 4095, 8191, 16383, 32767, 65535, 131071, 262143, 524287, 1048575])]),
  (10, [(8, [0, 0, 0, 0, 12, 28, 63, 127, 255, 255, 511]), (16, [0, 0, 2, 6, 15, 31, 63, 63, 191, 63, 959, 1983, 4095, 8191]), (24, [0, 0, 0, 0, 12, 28, 63, 127, 255, 255, 511]), (25, [0, 0, 0, 4, 12, 30, 63, 127, 255, 255, 1023, 2047, 4095, 8191, 8191, 32767, 65535, 131071, 262143, 262143, 1048575, 262143, 2359295, 262143, 8650751, 33554431, 67108863, 134217727, 268435455, 536870911, 536870911, 2147483647, 4294967295, 8589934591, 17179869183, 34359738367, 68719476735])]),
  (14, [(11, [0, 0, 2, 6, 14, 0, 0, 0, 128, 384, 896, 2016, 4064, 8190, 16383, 32767, 65535])]),
  (15, [(8, [0, 1, 3, 7, 0, 0, 63, 127, 255])]),
  (18, [(15, [0, 0, 0, 6, 14, 30, 30, 126, 254, 31, 1023])]),
  (20, [(1, [0, 1, 3, 7, 0, 16, 48, 127, 255, 0, 512, 2047, 4095, 0, 8192, 24576, 65535, 131071, 262143, 524287])]),
  (24, [(9, [0, 1, 3, 7, 0, 0, 0, 0, 0, 256, 992, 2016, 4095])]),
  (25, [(3, [0, 1, 3, 7, 0, 16, 63, 127]), (4, [0, 1, 3, 7, 0, 16, 63, 127, 255, 255, 0, 1535, 4095]), (11, [0, 1, 0, 4, 12, 28, 0, 64, 192, 448, 1020, 2047, 4095]), (15, [0, 1, 0, 4, 12, 28, 63, 127, 255, 511, 511, 0, 3071, 8191]), (16, [0, 1, 0, 4, 12, 28, 63, 127, 255, 255, 0, 1535, 4095]), (20, [0, 0, 0, 0, 8, 24, 56, 0, 128, 504, 125, 1149, 3197, 8191, 16383, 32767]), (21, [0, 1, 3, 7, 0, 16, 0, 127]), (22, [0, 1, 3, 7, 0, 16, 0, 127])]),
  (26, [(4, [0, 1, 3, 7, 0, 16, 63, 0, 255]), (5, [0, 1, 3, 7, 0, 16, 63]), (6, [0, 1, 3, 7, 0, 16, 63, 127, 255, 511, 0, 1024, 4095, 8191, 16383, 32767]), (7, [0, 0, 2, 1, 15, 31])]),
  (29, [(7, [0, 0, 2, 6, 15, 31, 63, 63, 191, 63, 959, 1983, 4095, 8191]), (11, [0, 0, 2, 6, 15, 31, 63, 127, 63, 511, 1023, 2047, 4095, 4095, 12287, 32767, 65535, 131071, 262143, 524287, 1048575, 2097151, 2097151, 6291455, 14680063, 31457279, 67108863, 134217727, 268435455, 536870911])]),
  (34, [(3, [0, 1, 3, 7, 0, 0, 0, 0, 128, 384, 896, 2047, 4095])]),
  (35, [(3, [0, 1, 0, 4, 12, 28, 63, 127]), (5, [0, 1, 3, 7, 0, 31, 63])]),
  (36, [(14, [0, 1, 3, 7, 0, 0, 48, 0, 128, 384, 896, 1920, 3968, 8064, 0, 32640, 112, 131071, 262143, 524287]), (16, [0, 1, 3, 7, 0, 16, 48, 112, 255, 511, 1023, 2047])]),
  (37, [(3, [0, 1, 3, 7, 15, 31, 63, 127, 0, 256, 768, 1792, 3840, 7936, 16128, 255, 65535, 131071])]),
  (38, [(3, [0, 1, 0, 4, 12, 28, 63, 127]), (5, [0, 1, 3, 7, 0, 0, 32, 96, 224, 511, 1023, 1023, 4095, 8191])]),
  (39, [(3, [0, 1, 3, 7, 15, 31, 63, 0, 128, 384, 896, 1983, 0, 4096, 12288, 28672, 65535, 131071, 262143])]),
  (42, [(6, [0, 0, 3, 7, 0, 0, 48, 112, 255])]),
  (45, [(1, [0, 1, 3, 7, 15, 31, 63, 127, 255, 511, 1023, 2047, 511, 4607, 12799, 32767, 65535, 131071])]),
  (46, [(0, [0, 1, 3, 7, 15, 0, 32, 96, 224, 0, 992, 2016, 4064, 0, 16383])]),
  (47, [(2, [0, 1, 3, 7, 0, 31, 63, 0, 128, 384, 896, 0, 3968, 8064, 16383, 32767])]),
  (49, [(1, [0, 1, 3, 7, 0, 31, 63, 0, 128, 384, 896, 1920, 3968, 0, 8319, 32767]), (4, [0, 1, 3, 7, 15, 0, 32, 127])]),
  (51, [(8, [0, 0, 3, 0, 15, 31, 63])]),
  (53, [(3, [0, 1, 0, 4, 12, 28, 3, 127, 255])]),
  (54, [(11, [0, 0, 0, 6, 14, 30, 0, 0, 192, 448, 960, 2046, 4095, 8191])]),
  (57, [(6, [0, 0, 3, 7, 0, 0, 48, 112, 255]), (7, [0, 0, 3, 7, 0, 0, 48, 112, 255, 511])]),
  (70, [(5, [0, 1, 0, 4, 12, 28, 0, 64, 252, 511, 1023]), (7, [0, 1, 3, 7, 15, 0, 32, 127, 255, 511, 1023, 2047]), (9, [0, 1, 3, 7, 0, 16, 48, 112, 240, 511]), (10, [0, 0, 2, 6, 0, 16, 48, 112, 240, 511]), (11, [0, 1, 3, 7, 0, 0, 32, 96, 224, 496, 0, 2047, 4095])]),
  (76, [(6, [0, 0, 3, 7, 0, 0, 48, 112, 255])]),
  (77, [(2, [0, 0, 0, 6, 3, 31])]),
  (81, [(4, [0, 0, 2, 6, 14, 30, 63, 127, 255, 511, 1023, 2047, 255, 8191, 16383, 255, 33023, 98559, 229631, 255, 1016063, 2064639, 4194303, 8388607, 16777215])]),
  (83, [(3, [0, 1, 0, 7, 15, 31, 0, 64, 255, 511]), (4, [0, 1, 3, 7, 15, 31, 63, 127, 63, 511, 1023, 2047, 63, 4159, 16383, 32767, 65535]), (6, [0, 1, 0, 7, 15, 0, 32, 127, 0, 256, 0, 1792, 4095, 8191, 16383])]),
  (84, [(1, [0, 1, 0, 7, 15, 0, 32, 0, 128, 480, 1023, 2047, 4095])]),
  (88, [(5, [0, 1, 3, 0, 8, 24, 63, 0, 128, 511, 0, 1024, 3072, 8191, 0, 0, 65535, 131071]), (8, [0, 0, 3, 0, 8, 24, 63, 127])]),
  (90, [(2, [0, 1, 0, 4, 0, 16, 60, 127, 255, 511, 1023, 0, 2303, 8191, 16383])]),
  (92, [(2, [0, 0, 3, 0, 0, 0, 48, 127, 255])]),
  (94, [(2, [0, 1, 3, 0, 8, 24, 0, 120, 255, 0, 512, 2047, 0, 4096, 12288, 0, 61440, 131071, 0, 0, 1048575, 2097151]), (3, [0, 0, 3, 0, 8, 24, 0, 71, 255]), (7, [0, 0, 3, 0, 8, 24, 7, 127]), (10, [0, 1, 3, 0, 15, 0, 32, 96, 0, 480, 1023, 0, 4095])]),
  (96, [(10, [0, 0, 2, 0, 0, 16, 56, 120, 0, 256, 768, 2040, 4095, 8191])]),
  (103, [(5, [0, 0, 2, 6, 14, 0, 0, 96, 254, 510, 1022, 2047, 4095])]),
  (104, [(1, [0, 1, 3, 7, 0, 31, 0, 64, 192, 448, 960, 2047, 4095])]),
  (108, [(3, [0, 0, 0, 4, 0, 16, 48, 112, 240, 253, 765, 1789, 4095, 8191, 16383])]),
  (115, [(0, [0, 0, 0, 0, 0, 0, 48, 112, 0, 0, 768, 1792, 4083, 8179, 16383, 32767])]),
  (116, [(3, [0, 1, 3, 7, 0, 16, 48, 127, 255, 511])]),
  (121, [(8, [0, 0, 2, 1, 15])]),
  (130, [(4, [0, 0, 0, 6, 15, 31])]),
  (134, [(3, [0, 1, 3, 7, 0, 16, 48, 112, 255, 511, 1023, 2047])]),
  (145, [(6, [0, 0, 3, 0, 0, 24, 7, 127])]),
  (147, [(17, [0, 1, 3, 7, 7, 7, 39, 119, 247, 7, 7, 1543, 3591, 8191, 16383, 32767, 65535])]),
  (149, [(8, [0, 0, 2, 1, 15])]),
  (151, [(4, [0, 0, 3, 7, 15, 15, 15, 111, 239, 15, 15, 1039, 3599, 7695, 16383, 32767, 65535]), (6, [0, 0, 0, 0, 8, 0, 0, 64, 224, 480, 0, 0, 3072, 7168, 16355, 32739, 65535, 131071])]),
  (152, [(10, [0, 0, 0, 0, 0, 24, 0, 0, 0, 384, 960, 1984, 0, 0, 12288, 28672, 65475, 131011, 262143, 524287])]),
  (153, [(10, [0, 0, 0, 0, 0, 24, 0, 0, 0, 384, 960, 1984, 0, 0, 12288, 28672, 65475, 131011, 262143, 524287])]),
  (155, [(3, [0, 0, 0, 0, 0, 0, 48, 112, 0, 0, 768, 1792, 4083, 8179, 16383, 32767])]),
  (156, [(5, [0, 0, 3, 7, 15, 15, 15, 111, 239, 15, 15, 1039, 3599, 7695, 16383, 32767, 65535, 131071]), (11, [0, 0, 0, 0, 8, 0, 0, 64, 224, 480, 0, 0, 3072, 7168, 16355, 32739, 65535, 131071]), (16, [0, 0, 0, 6, 14, 0, 0, 64, 224, 480, 1023, 2047, 4095]), (17, [0, 0, 0, 0, 8, 0, 0, 64, 224, 480, 0, 0, 3072, 7168, 16355, 32739, 65535, 131071]), (22, [0, 0, 0, 6, 14, 0, 0, 64, 224, 480, 1023, 2047, 4095]), (23, [0, 0, 0, 0, 8, 0, 0, 64, 224, 480, 0, 0, 3072, 7168, 16355, 32739, 65535, 131071])]),
  (157, [(1, [0, 0, 0, 0, 0, 0, 48, 112, 0, 0, 768, 1792, 4083, 8179, 16383, 32767]), (3, [0, 0, 3, 7, 15, 15, 15, 111, 239, 15, 15, 1551, 3599, 8191, 16383, 32767, 65535]), (5, [0, 0, 3, 7, 15, 15, 15, 111, 239, 15, 15, 1551, 3599, 8191, 16383, 32767]), (8, [0, 0, 0, 0, 0, 0, 48, 112, 0, 0, 768, 1792, 4083, 8179, 16383, 32767])]),
  (158, [(1, [0, 0, 0, 0, 0, 0, 48, 112, 0, 0, 768, 1792, 4083, 8179, 16383, 32767]), (3, [0, 0, 3, 7, 15, 15, 15, 111, 239, 15, 15, 1551, 3599, 8191, 16383, 32767]), (5, [0, 0, 3, 7, 15, 15, 15, 111, 239, 15, 15, 1551, 3599, 8191, 16383, 32767, 65535]), (8, [0, 0, 0, 0, 0, 0, 48, 112, 0, 0, 768, 1792, 4083, 8179, 16383, 32767]), (10, [0, 0, 0, 0, 0, 0, 48, 112, 0, 0, 768, 1792, 4083, 8179, 16383, 32767]), (13, [0, 0, 3, 7, 15, 15, 15, 111, 239, 15, 15, 1551, 3599, 8191, 16383, 32767]), (15, [0, 0, 3, 7, 15, 15, 15, 111, 239, 15, 15, 1551, 3599, 8191, 16383, 32767, 65535]), (18, [0, 0, 0, 0, 0, 0, 48, 112, 0, 0, 768, 1792, 4083, 8179, 16383, 32767]), (21, [0, 0, 0, 0, 0, 0, 48, 112, 0, 0, 768, 1792, 4083, 8179, 16383, 32767])]),
  (161, [(3, [0, 1, 0, 7, 15, 31, 31, 31, 31, 415, 991, 2015, 31, 31, 31, 24607, 57375, 127007, 258079, 524287, 1048575, 2097151]), (5, [0, 0, 0, 0, 12, 30, 62, 0, 0, 0, 768, 1920, 3968, 8191, 16383, 32767]), (6, [0, 0, 0, 6, 0, 0, 0, 96, 0, 0, 0, 1536, 3840, 7936, 0, 0, 0, 98304, 245760, 507904, 1048335, 2096911, 4194303, 8388607])]),
  (163, [(1, [0, 1, 3, 0, 8, 24, 56, 127, 255, 511]), (2, [0, 1, 3, 0, 8, 24, 56, 127, 255, 511]), (3, [0, 1, 3, 0, 8, 24, 56, 127, 255, 511])]),
  (166, [(1, [0, 0, 0, 6, 14, 0, 0, 96, 224, 511, 1023])])]

def lookN {α : Type} (d : α) : List (Nat × α) → Nat → α
  | [], _ => d
  | (k, v) :: r, n => match Nat.beq k n with
    | true => v
    | false => lookN d r n

def btAll (f : FuncId) (r : Nat) : List Nat :=
  match Nat.beq r 1000000 with
  | true => [f]
  | false => lookN [] (lookN [] btTab f) r

inductive BT (α : Type) where
  | leaf
  | node (l : BT α) (o : Option α) (r : BT α)
def BT.get {α : Type} : BT α → List Bool → Option α
  | .leaf, _ => none
  | .node _ o _, [] => o
  | .node l _ r, b :: bs => match b with | true => r.get bs | false => l.get bs

structure TyRow where
  num : TypeId
  info : TypeInfo
  at' : Try.prog.info? num = some info

noncomputable def ty0 : TyRow := ⟨0, Try.t0, by kernel_rfl⟩
noncomputable def ty1 : TyRow := ⟨1, Try.t1, by kernel_rfl⟩
noncomputable def ty2 : TyRow := ⟨2, Try.t2, by kernel_rfl⟩
noncomputable def ty3 : TyRow := ⟨3, Try.t3, by kernel_rfl⟩
noncomputable def ty4 : TyRow := ⟨4, Try.t4, by kernel_rfl⟩
noncomputable def ty5 : TyRow := ⟨5, Try.t5, by kernel_rfl⟩
noncomputable def ty6 : TyRow := ⟨6, Try.t6, by kernel_rfl⟩
noncomputable def ty7 : TyRow := ⟨7, Try.t7, by kernel_rfl⟩
noncomputable def ty8 : TyRow := ⟨8, Try.t8, by kernel_rfl⟩
noncomputable def ty9 : TyRow := ⟨9, Try.t9, by kernel_rfl⟩
noncomputable def ty10 : TyRow := ⟨10, Try.t10, by kernel_rfl⟩
noncomputable def ty11 : TyRow := ⟨11, Try.t11, by kernel_rfl⟩
noncomputable def ty12 : TyRow := ⟨12, Try.t12, by kernel_rfl⟩
noncomputable def ty13 : TyRow := ⟨13, Try.t13, by kernel_rfl⟩
noncomputable def ty14 : TyRow := ⟨14, Try.t14, by kernel_rfl⟩
noncomputable def ty15 : TyRow := ⟨15, Try.t15, by kernel_rfl⟩
noncomputable def ty16 : TyRow := ⟨16, Try.t16, by kernel_rfl⟩
noncomputable def ty17 : TyRow := ⟨17, Try.t17, by kernel_rfl⟩
noncomputable def ty18 : TyRow := ⟨18, Try.t18, by kernel_rfl⟩
noncomputable def ty19 : TyRow := ⟨19, Try.t19, by kernel_rfl⟩
noncomputable def ty20 : TyRow := ⟨20, Try.t20, by kernel_rfl⟩
noncomputable def ty21 : TyRow := ⟨21, Try.t21, by kernel_rfl⟩
noncomputable def ty22 : TyRow := ⟨22, Try.t22, by kernel_rfl⟩
noncomputable def ty23 : TyRow := ⟨23, Try.t23, by kernel_rfl⟩
noncomputable def ty24 : TyRow := ⟨24, Try.t24, by kernel_rfl⟩
noncomputable def ty25 : TyRow := ⟨25, Try.t25, by kernel_rfl⟩
noncomputable def ty26 : TyRow := ⟨26, Try.t26, by kernel_rfl⟩
noncomputable def ty27 : TyRow := ⟨27, Try.t27, by kernel_rfl⟩
noncomputable def ty28 : TyRow := ⟨28, Try.t28, by kernel_rfl⟩
noncomputable def ty29 : TyRow := ⟨29, Try.t29, by kernel_rfl⟩
noncomputable def ty30 : TyRow := ⟨30, Try.t30, by kernel_rfl⟩
noncomputable def ty31 : TyRow := ⟨31, Try.t31, by kernel_rfl⟩
noncomputable def ty32 : TyRow := ⟨32, Try.t32, by kernel_rfl⟩
noncomputable def ty33 : TyRow := ⟨33, Try.t33, by kernel_rfl⟩
noncomputable def ty34 : TyRow := ⟨34, Try.t34, by kernel_rfl⟩
noncomputable def ty35 : TyRow := ⟨35, Try.t35, by kernel_rfl⟩
noncomputable def ty36 : TyRow := ⟨36, Try.t36, by kernel_rfl⟩
noncomputable def ty37 : TyRow := ⟨37, Try.t37, by kernel_rfl⟩
noncomputable def ty38 : TyRow := ⟨38, Try.t38, by kernel_rfl⟩
noncomputable def ty39 : TyRow := ⟨39, Try.t39, by kernel_rfl⟩
noncomputable def ty40 : TyRow := ⟨40, Try.t40, by kernel_rfl⟩
noncomputable def ty41 : TyRow := ⟨41, Try.t41, by kernel_rfl⟩
noncomputable def ty42 : TyRow := ⟨42, Try.t42, by kernel_rfl⟩
noncomputable def ty43 : TyRow := ⟨43, Try.t43, by kernel_rfl⟩
noncomputable def ty44 : TyRow := ⟨44, Try.t44, by kernel_rfl⟩
noncomputable def ty45 : TyRow := ⟨45, Try.t45, by kernel_rfl⟩
noncomputable def ty46 : TyRow := ⟨46, Try.t46, by kernel_rfl⟩
noncomputable def ty47 : TyRow := ⟨47, Try.t47, by kernel_rfl⟩
noncomputable def ty48 : TyRow := ⟨48, Try.t48, by kernel_rfl⟩
noncomputable def ty49 : TyRow := ⟨49, Try.t49, by kernel_rfl⟩
noncomputable def ty50 : TyRow := ⟨50, Try.t50, by kernel_rfl⟩
noncomputable def ty51 : TyRow := ⟨51, Try.t51, by kernel_rfl⟩
noncomputable def ty52 : TyRow := ⟨52, Try.t52, by kernel_rfl⟩
noncomputable def ty53 : TyRow := ⟨53, Try.t53, by kernel_rfl⟩
noncomputable def ty54 : TyRow := ⟨54, Try.t54, by kernel_rfl⟩
noncomputable def ty55 : TyRow := ⟨55, Try.t55, by kernel_rfl⟩
noncomputable def ty56 : TyRow := ⟨56, Try.t56, by kernel_rfl⟩
noncomputable def ty57 : TyRow := ⟨57, Try.t57, by kernel_rfl⟩
noncomputable def ty58 : TyRow := ⟨58, Try.t58, by kernel_rfl⟩
noncomputable def ty59 : TyRow := ⟨59, Try.t59, by kernel_rfl⟩
noncomputable def ty60 : TyRow := ⟨60, Try.t60, by kernel_rfl⟩
noncomputable def ty61 : TyRow := ⟨61, Try.t61, by kernel_rfl⟩
noncomputable def ty62 : TyRow := ⟨62, Try.t62, by kernel_rfl⟩
noncomputable def ty63 : TyRow := ⟨63, Try.t63, by kernel_rfl⟩
noncomputable def ty64 : TyRow := ⟨64, Try.t64, by kernel_rfl⟩
noncomputable def ty65 : TyRow := ⟨65, Try.t65, by kernel_rfl⟩
noncomputable def ty66 : TyRow := ⟨66, Try.t66, by kernel_rfl⟩
noncomputable def ty67 : TyRow := ⟨67, Try.t67, by kernel_rfl⟩
noncomputable def ty68 : TyRow := ⟨68, Try.t68, by kernel_rfl⟩
noncomputable def ty69 : TyRow := ⟨69, Try.t69, by kernel_rfl⟩
noncomputable def ty70 : TyRow := ⟨70, Try.t70, by kernel_rfl⟩
noncomputable def ty71 : TyRow := ⟨71, Try.t71, by kernel_rfl⟩
noncomputable def ty72 : TyRow := ⟨72, Try.t72, by kernel_rfl⟩
noncomputable def ty73 : TyRow := ⟨73, Try.t73, by kernel_rfl⟩
noncomputable def ty74 : TyRow := ⟨74, Try.t74, by kernel_rfl⟩
noncomputable def ty75 : TyRow := ⟨75, Try.t75, by kernel_rfl⟩
noncomputable def ty76 : TyRow := ⟨76, Try.t76, by kernel_rfl⟩
noncomputable def ty77 : TyRow := ⟨77, Try.t77, by kernel_rfl⟩
noncomputable def ty78 : TyRow := ⟨78, Try.t78, by kernel_rfl⟩
noncomputable def ty79 : TyRow := ⟨79, Try.t79, by kernel_rfl⟩
noncomputable def ty80 : TyRow := ⟨80, Try.t80, by kernel_rfl⟩
noncomputable def ty81 : TyRow := ⟨81, Try.t81, by kernel_rfl⟩
noncomputable def ty82 : TyRow := ⟨82, Try.t82, by kernel_rfl⟩
noncomputable def ty83 : TyRow := ⟨83, Try.t83, by kernel_rfl⟩
noncomputable def ty84 : TyRow := ⟨84, Try.t84, by kernel_rfl⟩
noncomputable def ty85 : TyRow := ⟨85, Try.t85, by kernel_rfl⟩
noncomputable def ty86 : TyRow := ⟨86, Try.t86, by kernel_rfl⟩
noncomputable def ty87 : TyRow := ⟨87, Try.t87, by kernel_rfl⟩
noncomputable def ty88 : TyRow := ⟨88, Try.t88, by kernel_rfl⟩
noncomputable def ty89 : TyRow := ⟨89, Try.t89, by kernel_rfl⟩
noncomputable def ty90 : TyRow := ⟨90, Try.t90, by kernel_rfl⟩
noncomputable def ty91 : TyRow := ⟨91, Try.t91, by kernel_rfl⟩
noncomputable def ty92 : TyRow := ⟨92, Try.t92, by kernel_rfl⟩
noncomputable def ty93 : TyRow := ⟨93, Try.t93, by kernel_rfl⟩
noncomputable def ty94 : TyRow := ⟨94, Try.t94, by kernel_rfl⟩
noncomputable def ty95 : TyRow := ⟨95, Try.t95, by kernel_rfl⟩
noncomputable def ty96 : TyRow := ⟨96, Try.t96, by kernel_rfl⟩
noncomputable def ty97 : TyRow := ⟨97, Try.t97, by kernel_rfl⟩
noncomputable def ty98 : TyRow := ⟨98, Try.t98, by kernel_rfl⟩
noncomputable def ty99 : TyRow := ⟨99, Try.t99, by kernel_rfl⟩
noncomputable def ty100 : TyRow := ⟨100, Try.t100, by kernel_rfl⟩
noncomputable def ty101 : TyRow := ⟨101, Try.t101, by kernel_rfl⟩
noncomputable def ty102 : TyRow := ⟨102, Try.t102, by kernel_rfl⟩
noncomputable def ty103 : TyRow := ⟨103, Try.t103, by kernel_rfl⟩
noncomputable def ty104 : TyRow := ⟨104, Try.t104, by kernel_rfl⟩
noncomputable def ty105 : TyRow := ⟨105, Try.t105, by kernel_rfl⟩
noncomputable def ty106 : TyRow := ⟨106, Try.t106, by kernel_rfl⟩
noncomputable def ty107 : TyRow := ⟨107, Try.t107, by kernel_rfl⟩
noncomputable def ty108 : TyRow := ⟨108, Try.t108, by kernel_rfl⟩
noncomputable def ty109 : TyRow := ⟨109, Try.t109, by kernel_rfl⟩
noncomputable def ty110 : TyRow := ⟨110, Try.t110, by kernel_rfl⟩
noncomputable def ty111 : TyRow := ⟨111, Try.t111, by kernel_rfl⟩
noncomputable def ty112 : TyRow := ⟨112, Try.t112, by kernel_rfl⟩
noncomputable def ty113 : TyRow := ⟨113, Try.t113, by kernel_rfl⟩
noncomputable def ty114 : TyRow := ⟨114, Try.t114, by kernel_rfl⟩
noncomputable def ty115 : TyRow := ⟨115, Try.t115, by kernel_rfl⟩
noncomputable def ty116 : TyRow := ⟨116, Try.t116, by kernel_rfl⟩
noncomputable def ty117 : TyRow := ⟨117, Try.t117, by kernel_rfl⟩
noncomputable def ty118 : TyRow := ⟨118, Try.t118, by kernel_rfl⟩
noncomputable def ty119 : TyRow := ⟨119, Try.t119, by kernel_rfl⟩
noncomputable def ty120 : TyRow := ⟨120, Try.t120, by kernel_rfl⟩
noncomputable def ty121 : TyRow := ⟨121, Try.t121, by kernel_rfl⟩
noncomputable def ty122 : TyRow := ⟨122, Try.t122, by kernel_rfl⟩
noncomputable def ty123 : TyRow := ⟨123, Try.t123, by kernel_rfl⟩
noncomputable def ty124 : TyRow := ⟨124, Try.t124, by kernel_rfl⟩
noncomputable def ty125 : TyRow := ⟨125, Try.t125, by kernel_rfl⟩
noncomputable def ty126 : TyRow := ⟨126, Try.t126, by kernel_rfl⟩
noncomputable def ty127 : TyRow := ⟨127, Try.t127, by kernel_rfl⟩
noncomputable def ty128 : TyRow := ⟨128, Try.t128, by kernel_rfl⟩
noncomputable def ty129 : TyRow := ⟨129, Try.t129, by kernel_rfl⟩
noncomputable def ty130 : TyRow := ⟨130, Try.t130, by kernel_rfl⟩
noncomputable def ty131 : TyRow := ⟨131, Try.t131, by kernel_rfl⟩
noncomputable def ty132 : TyRow := ⟨132, Try.t132, by kernel_rfl⟩
noncomputable def ty133 : TyRow := ⟨133, Try.t133, by kernel_rfl⟩
noncomputable def ty134 : TyRow := ⟨134, Try.t134, by kernel_rfl⟩
noncomputable def ty135 : TyRow := ⟨135, Try.t135, by kernel_rfl⟩
noncomputable def ty136 : TyRow := ⟨136, Try.t136, by kernel_rfl⟩
noncomputable def ty137 : TyRow := ⟨137, Try.t137, by kernel_rfl⟩
noncomputable def ty138 : TyRow := ⟨138, Try.t138, by kernel_rfl⟩
noncomputable def ty139 : TyRow := ⟨139, Try.t139, by kernel_rfl⟩
noncomputable def ty140 : TyRow := ⟨140, Try.t140, by kernel_rfl⟩
noncomputable def ty141 : TyRow := ⟨141, Try.t141, by kernel_rfl⟩
noncomputable def ty142 : TyRow := ⟨142, Try.t142, by kernel_rfl⟩
noncomputable def ty143 : TyRow := ⟨143, Try.t143, by kernel_rfl⟩
noncomputable def ty144 : TyRow := ⟨144, Try.t144, by kernel_rfl⟩
noncomputable def ty145 : TyRow := ⟨145, Try.t145, by kernel_rfl⟩
noncomputable def ty146 : TyRow := ⟨146, Try.t146, by kernel_rfl⟩
noncomputable def ty147 : TyRow := ⟨147, Try.t147, by kernel_rfl⟩
noncomputable def ty148 : TyRow := ⟨148, Try.t148, by kernel_rfl⟩
noncomputable def ty149 : TyRow := ⟨149, Try.t149, by kernel_rfl⟩
noncomputable def ty150 : TyRow := ⟨150, Try.t150, by kernel_rfl⟩
noncomputable def ty151 : TyRow := ⟨151, Try.t151, by kernel_rfl⟩
noncomputable def ty152 : TyRow := ⟨152, Try.t152, by kernel_rfl⟩
noncomputable def ty153 : TyRow := ⟨153, Try.t153, by kernel_rfl⟩
noncomputable def ty154 : TyRow := ⟨154, Try.t154, by kernel_rfl⟩
noncomputable def ty155 : TyRow := ⟨155, Try.t155, by kernel_rfl⟩
noncomputable def ty156 : TyRow := ⟨156, Try.t156, by kernel_rfl⟩
noncomputable def ty157 : TyRow := ⟨157, Try.t157, by kernel_rfl⟩
noncomputable def ty158 : TyRow := ⟨158, Try.t158, by kernel_rfl⟩
noncomputable def ty159 : TyRow := ⟨159, Try.t159, by kernel_rfl⟩
noncomputable def ty160 : TyRow := ⟨160, Try.t160, by kernel_rfl⟩
noncomputable def ty161 : TyRow := ⟨161, Try.t161, by kernel_rfl⟩
noncomputable def ty162 : TyRow := ⟨162, Try.t162, by kernel_rfl⟩
noncomputable def ty163 : TyRow := ⟨163, Try.t163, by kernel_rfl⟩
noncomputable def ty164 : TyRow := ⟨164, Try.t164, by kernel_rfl⟩
noncomputable def ty165 : TyRow := ⟨165, Try.t165, by kernel_rfl⟩
noncomputable def ty166 : TyRow := ⟨166, Try.t166, by kernel_rfl⟩
noncomputable def ty167 : TyRow := ⟨167, Try.t167, by kernel_rfl⟩
noncomputable def ty168 : TyRow := ⟨168, Try.t168, by kernel_rfl⟩
noncomputable def ty169 : TyRow := ⟨169, Try.t169, by kernel_rfl⟩
noncomputable def ty170 : TyRow := ⟨170, Try.t170, by kernel_rfl⟩
noncomputable def ty171 : TyRow := ⟨171, Try.t171, by kernel_rfl⟩
noncomputable def ty172 : TyRow := ⟨172, Try.t172, by kernel_rfl⟩
noncomputable def ty173 : TyRow := ⟨173, Try.t173, by kernel_rfl⟩
noncomputable def ty174 : TyRow := ⟨174, Try.t174, by kernel_rfl⟩
noncomputable def ty175 : TyRow := ⟨175, Try.t175, by kernel_rfl⟩
noncomputable def ty176 : TyRow := ⟨176, Try.t176, by kernel_rfl⟩
noncomputable def ty177 : TyRow := ⟨177, Try.t177, by kernel_rfl⟩
noncomputable def ty178 : TyRow := ⟨178, Try.t178, by kernel_rfl⟩
noncomputable def ty179 : TyRow := ⟨179, Try.t179, by kernel_rfl⟩
noncomputable def ty180 : TyRow := ⟨180, Try.t180, by kernel_rfl⟩
noncomputable def ty181 : TyRow := ⟨181, Try.t181, by kernel_rfl⟩
noncomputable def ty182 : TyRow := ⟨182, Try.t182, by kernel_rfl⟩
noncomputable def ty183 : TyRow := ⟨183, Try.t183, by kernel_rfl⟩
noncomputable def ty184 : TyRow := ⟨184, Try.t184, by kernel_rfl⟩
noncomputable def ty185 : TyRow := ⟨185, Try.t185, by kernel_rfl⟩
noncomputable def ty186 : TyRow := ⟨186, Try.t186, by kernel_rfl⟩
noncomputable def ty187 : TyRow := ⟨187, Try.t187, by kernel_rfl⟩
noncomputable def ty188 : TyRow := ⟨188, Try.t188, by kernel_rfl⟩
noncomputable def ty189 : TyRow := ⟨189, Try.t189, by kernel_rfl⟩
noncomputable def ty190 : TyRow := ⟨190, Try.t190, by kernel_rfl⟩
noncomputable def ty191 : TyRow := ⟨191, Try.t191, by kernel_rfl⟩
noncomputable def ty192 : TyRow := ⟨192, Try.t192, by kernel_rfl⟩
noncomputable def ty193 : TyRow := ⟨193, Try.t193, by kernel_rfl⟩
noncomputable def ty194 : TyRow := ⟨194, Try.t194, by kernel_rfl⟩
noncomputable def ty195 : TyRow := ⟨195, Try.t195, by kernel_rfl⟩
noncomputable def ty196 : TyRow := ⟨196, Try.t196, by kernel_rfl⟩
noncomputable def ty197 : TyRow := ⟨197, Try.t197, by kernel_rfl⟩
noncomputable def ty198 : TyRow := ⟨198, Try.t198, by kernel_rfl⟩
noncomputable def ty199 : TyRow := ⟨199, Try.t199, by kernel_rfl⟩
noncomputable def ty200 : TyRow := ⟨200, Try.t200, by kernel_rfl⟩
noncomputable def ty201 : TyRow := ⟨201, Try.t201, by kernel_rfl⟩
noncomputable def ty202 : TyRow := ⟨202, Try.t202, by kernel_rfl⟩
noncomputable def ty203 : TyRow := ⟨203, Try.t203, by kernel_rfl⟩
noncomputable def ty204 : TyRow := ⟨204, Try.t204, by kernel_rfl⟩
noncomputable def ty205 : TyRow := ⟨205, Try.t205, by kernel_rfl⟩
noncomputable def ty206 : TyRow := ⟨206, Try.t206, by kernel_rfl⟩
noncomputable def ty207 : TyRow := ⟨207, Try.t207, by kernel_rfl⟩
noncomputable def ty208 : TyRow := ⟨208, Try.t208, by kernel_rfl⟩
noncomputable def ty209 : TyRow := ⟨209, Try.t209, by kernel_rfl⟩
noncomputable def ty210 : TyRow := ⟨210, Try.t210, by kernel_rfl⟩
noncomputable def ty211 : TyRow := ⟨211, Try.t211, by kernel_rfl⟩
noncomputable def ty212 : TyRow := ⟨212, Try.t212, by kernel_rfl⟩
noncomputable def ty213 : TyRow := ⟨213, Try.t213, by kernel_rfl⟩
noncomputable def ty214 : TyRow := ⟨214, Try.t214, by kernel_rfl⟩
noncomputable def ty215 : TyRow := ⟨215, Try.t215, by kernel_rfl⟩
noncomputable def ty216 : TyRow := ⟨216, Try.t216, by kernel_rfl⟩
noncomputable def ty217 : TyRow := ⟨217, Try.t217, by kernel_rfl⟩
noncomputable def ty218 : TyRow := ⟨218, Try.t218, by kernel_rfl⟩
noncomputable def ty219 : TyRow := ⟨219, Try.t219, by kernel_rfl⟩
noncomputable def ty220 : TyRow := ⟨220, Try.t220, by kernel_rfl⟩
noncomputable def ty221 : TyRow := ⟨221, Try.t221, by kernel_rfl⟩
noncomputable def ty222 : TyRow := ⟨222, Try.t222, by kernel_rfl⟩
noncomputable def ty223 : TyRow := ⟨223, Try.t223, by kernel_rfl⟩
noncomputable def ty224 : TyRow := ⟨224, Try.t224, by kernel_rfl⟩
noncomputable def ty225 : TyRow := ⟨225, Try.t225, by kernel_rfl⟩
noncomputable def ty226 : TyRow := ⟨226, Try.t226, by kernel_rfl⟩
noncomputable def ty227 : TyRow := ⟨227, Try.t227, by kernel_rfl⟩
noncomputable def ty228 : TyRow := ⟨228, Try.t228, by kernel_rfl⟩
noncomputable def ty229 : TyRow := ⟨229, Try.t229, by kernel_rfl⟩
noncomputable def ty230 : TyRow := ⟨230, Try.t230, by kernel_rfl⟩
noncomputable def ty231 : TyRow := ⟨231, Try.t231, by kernel_rfl⟩
noncomputable def ty232 : TyRow := ⟨232, Try.t232, by kernel_rfl⟩
noncomputable def ty233 : TyRow := ⟨233, Try.t233, by kernel_rfl⟩
noncomputable def ty234 : TyRow := ⟨234, Try.t234, by kernel_rfl⟩
noncomputable def ty235 : TyRow := ⟨235, Try.t235, by kernel_rfl⟩
noncomputable def ty236 : TyRow := ⟨236, Try.t236, by kernel_rfl⟩
noncomputable def ty237 : TyRow := ⟨237, Try.t237, by kernel_rfl⟩
noncomputable def ty238 : TyRow := ⟨238, Try.t238, by kernel_rfl⟩
noncomputable def ty239 : TyRow := ⟨239, Try.t239, by kernel_rfl⟩
noncomputable def ty240 : TyRow := ⟨240, Try.t240, by kernel_rfl⟩
noncomputable def ty241 : TyRow := ⟨241, Try.t241, by kernel_rfl⟩
noncomputable def ty242 : TyRow := ⟨242, Try.t242, by kernel_rfl⟩
noncomputable def ty243 : TyRow := ⟨243, Try.t243, by kernel_rfl⟩
noncomputable def ty244 : TyRow := ⟨244, Try.t244, by kernel_rfl⟩
noncomputable def ty245 : TyRow := ⟨245, Try.t245, by kernel_rfl⟩
noncomputable def ty246 : TyRow := ⟨246, Try.t246, by kernel_rfl⟩
noncomputable def ty247 : TyRow := ⟨247, Try.t247, by kernel_rfl⟩
noncomputable def ty248 : TyRow := ⟨248, Try.t248, by kernel_rfl⟩
noncomputable def ty249 : TyRow := ⟨249, Try.t249, by kernel_rfl⟩
noncomputable def ty250 : TyRow := ⟨250, Try.t250, by kernel_rfl⟩
noncomputable def ty251 : TyRow := ⟨251, Try.t251, by kernel_rfl⟩
noncomputable def ty252 : TyRow := ⟨252, Try.t252, by kernel_rfl⟩
noncomputable def ty253 : TyRow := ⟨253, Try.t253, by kernel_rfl⟩
noncomputable def ty254 : TyRow := ⟨254, Try.t254, by kernel_rfl⟩

noncomputable def tyTree : BT TyRow := (.node (.node (.node (.node (.node (.node (.node (.node .leaf none (.node .leaf (some ty128) .leaf)) none (.node .leaf (some ty64) (.node .leaf (some ty192) .leaf))) none (.node (.node .leaf none (.node .leaf (some ty160) .leaf)) (some ty32) (.node .leaf (some ty96) (.node .leaf (some ty224) .leaf)))) none (.node (.node (.node .leaf none (.node .leaf (some ty144) .leaf)) none (.node .leaf (some ty80) (.node .leaf (some ty208) .leaf))) (some ty16) (.node (.node .leaf none (.node .leaf (some ty176) .leaf)) (some ty48) (.node .leaf (some ty112) (.node .leaf (some ty240) .leaf))))) none (.node (.node (.node (.node .leaf none (.node .leaf (some ty136) .leaf)) none (.node .leaf (some ty72) (.node .leaf (some ty200) .leaf))) none (.node (.node .leaf none (.node .leaf (some ty168) .leaf)) (some ty40) (.node .leaf (some ty104) (.node .leaf (some ty232) .leaf)))) (some ty8) (.node (.node (.node .leaf none (.node .leaf (some ty152) .leaf)) none (.node .leaf (some ty88) (.node .leaf (some ty216) .leaf))) (some ty24) (.node (.node .leaf none (.node .leaf (some ty184) .leaf)) (some ty56) (.node .leaf (some ty120) (.node .leaf (some ty248) .leaf)))))) none (.node (.node (.node (.node (.node .leaf none (.node .leaf (some ty132) .leaf)) none (.node .leaf (some ty68) (.node .leaf (some ty196) .leaf))) none (.node (.node .leaf none (.node .leaf (some ty164) .leaf)) (some ty36) (.node .leaf (some ty100) (.node .leaf (some ty228) .leaf)))) none (.node (.node (.node .leaf none (.node .leaf (some ty148) .leaf)) none (.node .leaf (some ty84) (.node .leaf (some ty212) .leaf))) (some ty20) (.node (.node .leaf none (.node .leaf (some ty180) .leaf)) (some ty52) (.node .leaf (some ty116) (.node .leaf (some ty244) .leaf))))) (some ty4) (.node (.node (.node (.node .leaf none (.node .leaf (some ty140) .leaf)) none (.node .leaf (some ty76) (.node .leaf (some ty204) .leaf))) none (.node (.node .leaf none (.node .leaf (some ty172) .leaf)) (some ty44) (.node .leaf (some ty108) (.node .leaf (some ty236) .leaf)))) (some ty12) (.node (.node (.node .leaf none (.node .leaf (some ty156) .leaf)) none (.node .leaf (some ty92) (.node .leaf (some ty220) .leaf))) (some ty28) (.node (.node .leaf none (.node .leaf (some ty188) .leaf)) (some ty60) (.node .leaf (some ty124) (.node .leaf (some ty252) .leaf))))))) none (.node (.node (.node (.node (.node (.node .leaf none (.node .leaf (some ty130) .leaf)) none (.node .leaf (some ty66) (.node .leaf (some ty194) .leaf))) none (.node (.node .leaf none (.node .leaf (some ty162) .leaf)) (some ty34) (.node .leaf (some ty98) (.node .leaf (some ty226) .leaf)))) none (.node (.node (.node .leaf none (.node .leaf (some ty146) .leaf)) none (.node .leaf (some ty82) (.node .leaf (some ty210) .leaf))) (some ty18) (.node (.node .leaf none (.node .leaf (some ty178) .leaf)) (some ty50) (.node .leaf (some ty114) (.node .leaf (some ty242) .leaf))))) none (.node (.node (.node (.node .leaf none (.node .leaf (some ty138) .leaf)) none (.node .leaf (some ty74) (.node .leaf (some ty202) .leaf))) none (.node (.node .leaf none (.node .leaf (some ty170) .leaf)) (some ty42) (.node .leaf (some ty106) (.node .leaf (some ty234) .leaf)))) (some ty10) (.node (.node (.node .leaf none (.node .leaf (some ty154) .leaf)) none (.node .leaf (some ty90) (.node .leaf (some ty218) .leaf))) (some ty26) (.node (.node .leaf none (.node .leaf (some ty186) .leaf)) (some ty58) (.node .leaf (some ty122) (.node .leaf (some ty250) .leaf)))))) (some ty2) (.node (.node (.node (.node (.node .leaf none (.node .leaf (some ty134) .leaf)) none (.node .leaf (some ty70) (.node .leaf (some ty198) .leaf))) none (.node (.node .leaf none (.node .leaf (some ty166) .leaf)) (some ty38) (.node .leaf (some ty102) (.node .leaf (some ty230) .leaf)))) none (.node (.node (.node .leaf none (.node .leaf (some ty150) .leaf)) none (.node .leaf (some ty86) (.node .leaf (some ty214) .leaf))) (some ty22) (.node (.node .leaf none (.node .leaf (some ty182) .leaf)) (some ty54) (.node .leaf (some ty118) (.node .leaf (some ty246) .leaf))))) (some ty6) (.node (.node (.node (.node .leaf none (.node .leaf (some ty142) .leaf)) none (.node .leaf (some ty78) (.node .leaf (some ty206) .leaf))) none (.node (.node .leaf none (.node .leaf (some ty174) .leaf)) (some ty46) (.node .leaf (some ty110) (.node .leaf (some ty238) .leaf)))) (some ty14) (.node (.node (.node .leaf none (.node .leaf (some ty158) .leaf)) none (.node .leaf (some ty94) (.node .leaf (some ty222) .leaf))) (some ty30) (.node (.node .leaf none (.node .leaf (some ty190) .leaf)) (some ty62) (.node .leaf (some ty126) (.node .leaf (some ty254) .leaf)))))))) (some ty0) (.node (.node (.node (.node (.node (.node (.node .leaf none (.node .leaf (some ty129) .leaf)) none (.node .leaf (some ty65) (.node .leaf (some ty193) .leaf))) none (.node (.node .leaf none (.node .leaf (some ty161) .leaf)) (some ty33) (.node .leaf (some ty97) (.node .leaf (some ty225) .leaf)))) none (.node (.node (.node .leaf none (.node .leaf (some ty145) .leaf)) none (.node .leaf (some ty81) (.node .leaf (some ty209) .leaf))) (some ty17) (.node (.node .leaf none (.node .leaf (some ty177) .leaf)) (some ty49) (.node .leaf (some ty113) (.node .leaf (some ty241) .leaf))))) none (.node (.node (.node (.node .leaf none (.node .leaf (some ty137) .leaf)) none (.node .leaf (some ty73) (.node .leaf (some ty201) .leaf))) none (.node (.node .leaf none (.node .leaf (some ty169) .leaf)) (some ty41) (.node .leaf (some ty105) (.node .leaf (some ty233) .leaf)))) (some ty9) (.node (.node (.node .leaf none (.node .leaf (some ty153) .leaf)) none (.node .leaf (some ty89) (.node .leaf (some ty217) .leaf))) (some ty25) (.node (.node .leaf none (.node .leaf (some ty185) .leaf)) (some ty57) (.node .leaf (some ty121) (.node .leaf (some ty249) .leaf)))))) none (.node (.node (.node (.node (.node .leaf none (.node .leaf (some ty133) .leaf)) none (.node .leaf (some ty69) (.node .leaf (some ty197) .leaf))) none (.node (.node .leaf none (.node .leaf (some ty165) .leaf)) (some ty37) (.node .leaf (some ty101) (.node .leaf (some ty229) .leaf)))) none (.node (.node (.node .leaf none (.node .leaf (some ty149) .leaf)) none (.node .leaf (some ty85) (.node .leaf (some ty213) .leaf))) (some ty21) (.node (.node .leaf none (.node .leaf (some ty181) .leaf)) (some ty53) (.node .leaf (some ty117) (.node .leaf (some ty245) .leaf))))) (some ty5) (.node (.node (.node (.node .leaf none (.node .leaf (some ty141) .leaf)) none (.node .leaf (some ty77) (.node .leaf (some ty205) .leaf))) none (.node (.node .leaf none (.node .leaf (some ty173) .leaf)) (some ty45) (.node .leaf (some ty109) (.node .leaf (some ty237) .leaf)))) (some ty13) (.node (.node (.node .leaf none (.node .leaf (some ty157) .leaf)) none (.node .leaf (some ty93) (.node .leaf (some ty221) .leaf))) (some ty29) (.node (.node .leaf none (.node .leaf (some ty189) .leaf)) (some ty61) (.node .leaf (some ty125) (.node .leaf (some ty253) .leaf))))))) (some ty1) (.node (.node (.node (.node (.node (.node .leaf none (.node .leaf (some ty131) .leaf)) none (.node .leaf (some ty67) (.node .leaf (some ty195) .leaf))) none (.node (.node .leaf none (.node .leaf (some ty163) .leaf)) (some ty35) (.node .leaf (some ty99) (.node .leaf (some ty227) .leaf)))) none (.node (.node (.node .leaf none (.node .leaf (some ty147) .leaf)) none (.node .leaf (some ty83) (.node .leaf (some ty211) .leaf))) (some ty19) (.node (.node .leaf none (.node .leaf (some ty179) .leaf)) (some ty51) (.node .leaf (some ty115) (.node .leaf (some ty243) .leaf))))) none (.node (.node (.node (.node .leaf none (.node .leaf (some ty139) .leaf)) none (.node .leaf (some ty75) (.node .leaf (some ty203) .leaf))) none (.node (.node .leaf none (.node .leaf (some ty171) .leaf)) (some ty43) (.node .leaf (some ty107) (.node .leaf (some ty235) .leaf)))) (some ty11) (.node (.node (.node .leaf none (.node .leaf (some ty155) .leaf)) none (.node .leaf (some ty91) (.node .leaf (some ty219) .leaf))) (some ty27) (.node (.node .leaf none (.node .leaf (some ty187) .leaf)) (some ty59) (.node .leaf (some ty123) (.node .leaf (some ty251) .leaf)))))) (some ty3) (.node (.node (.node (.node (.node .leaf none (.node .leaf (some ty135) .leaf)) none (.node .leaf (some ty71) (.node .leaf (some ty199) .leaf))) none (.node (.node .leaf none (.node .leaf (some ty167) .leaf)) (some ty39) (.node .leaf (some ty103) (.node .leaf (some ty231) .leaf)))) none (.node (.node (.node .leaf none (.node .leaf (some ty151) .leaf)) none (.node .leaf (some ty87) (.node .leaf (some ty215) .leaf))) (some ty23) (.node (.node .leaf none (.node .leaf (some ty183) .leaf)) (some ty55) (.node .leaf (some ty119) (.node .leaf (some ty247) .leaf))))) (some ty7) (.node (.node (.node (.node .leaf none (.node .leaf (some ty143) .leaf)) none (.node .leaf (some ty79) (.node .leaf (some ty207) .leaf))) none (.node (.node .leaf none (.node .leaf (some ty175) .leaf)) (some ty47) (.node .leaf (some ty111) (.node .leaf (some ty239) .leaf)))) (some ty15) (.node (.node (.node .leaf none (.node .leaf (some ty159) .leaf)) none (.node .leaf (some ty95) (.node .leaf (some ty223) .leaf))) (some ty31) (.node (.node .leaf none (.node .leaf (some ty191) .leaf)) (some ty63) (.node .leaf (some ty127) .leaf))))))))

noncomputable def tyAt (t : TypeId) : Option TypeInfo :=
  match tyTree.get (bits t t) with
  | some r => match Nat.beq r.num t with
    | true => some r.info
    | false => none
  | none => none
theorem tyAt_ok (t : TypeId) (i : TypeInfo) (h : tyAt t = some i) : Try.prog.info? t = some i := by
  unfold tyAt at h
  split at h
  · rename_i r _
    split at h
    · rename_i hb
      cases h
      rw [← Nat.eq_of_beq_eq_true hb]
      exact r.at'
    · cases h
  · cases h

structure ExtRow where
  num : FuncId
  ext : Ext
  is : ExtIs Try.prog num ext

noncomputable def ext109 : ExtRow := ⟨109, .clone, ⟨Try.f109, Try.func109, by kernel_rfl, by kernel_rfl, by kernel_rfl, by kernel_rfl⟩⟩
noncomputable def ext142 : ExtRow := ⟨142, .add64, ⟨Try.f142, Try.func142, by kernel_rfl, by kernel_rfl, by kernel_rfl, by kernel_rfl⟩⟩
noncomputable def ext143 : ExtRow := ⟨143, .sub64, ⟨Try.f143, Try.func143, by kernel_rfl, by kernel_rfl, by kernel_rfl, by kernel_rfl⟩⟩

noncomputable def extTree : BT ExtRow := (.node (.node .leaf none (.node .leaf none (.node .leaf none (.node (.node (.node (.node .leaf none (.node .leaf (some ext142) .leaf)) none .leaf) none .leaf) none .leaf)))) none (.node (.node .leaf none (.node .leaf none (.node (.node .leaf none (.node .leaf none (.node .leaf (some ext109) .leaf))) none .leaf))) none (.node .leaf none (.node .leaf none (.node (.node (.node (.node .leaf none (.node .leaf (some ext143) .leaf)) none .leaf) none .leaf) none .leaf)))))

noncomputable def extAt (f : FuncId) : Option Ext :=
  match extTree.get (bits f f) with
  | some r => match Nat.beq r.num f with
    | true => some r.ext
    | false => none
  | none => none
theorem extAt_ok (f : FuncId) (x : Ext) (h : extAt f = some x) : ExtIs Try.prog f x := by
  unfold extAt at h
  split at h
  · rename_i r _
    split at h
    · rename_i hb
      cases h
      rw [← Nat.eq_of_beq_eq_true hb]
      exact r.is
    · cases h
  · cases h

theorem stat2 : statAll (btAll 2) (Try.f2.body.getD .skip) = true := by kernel_rfl
theorem stat3 : statAll (btAll 3) (Try.f3.body.getD .skip) = true := by kernel_rfl
theorem stat4 : statAll (btAll 4) (Try.f4.body.getD .skip) = true := by kernel_rfl
theorem stat5 : statAll (btAll 5) (Try.f5.body.getD .skip) = true := by kernel_rfl
theorem stat6 : statAll (btAll 6) (Try.f6.body.getD .skip) = true := by kernel_rfl
theorem stat7 : statAll (btAll 7) (Try.f7.body.getD .skip) = true := by kernel_rfl
theorem stat8 : statAll (btAll 8) (Try.f8.body.getD .skip) = true := by kernel_rfl
theorem stat9 : statAll (btAll 9) (Try.f9.body.getD .skip) = true := by kernel_rfl
theorem stat10 : statAll (btAll 10) (Try.f10.body.getD .skip) = true := by kernel_rfl
theorem stat11 : statAll (btAll 11) (Try.f11.body.getD .skip) = true := by kernel_rfl
theorem stat12 : statAll (btAll 12) (Try.f12.body.getD .skip) = true := by kernel_rfl
theorem stat13 : statAll (btAll 13) (Try.f13.body.getD .skip) = true := by kernel_rfl
theorem stat14 : statAll (btAll 14) (Try.f14.body.getD .skip) = true := by kernel_rfl
theorem stat15 : statAll (btAll 15) (Try.f15.body.getD .skip) = true := by kernel_rfl
theorem stat16 : statAll (btAll 16) (Try.f16.body.getD .skip) = true := by kernel_rfl
theorem stat17 : statAll (btAll 17) (Try.f17.body.getD .skip) = true := by kernel_rfl
theorem stat18 : statAll (btAll 18) (Try.f18.body.getD .skip) = true := by kernel_rfl
theorem stat19 : statAll (btAll 19) (Try.f19.body.getD .skip) = true := by kernel_rfl
theorem stat20 : statAll (btAll 20) (Try.f20.body.getD .skip) = true := by kernel_rfl
theorem stat21 : statAll (btAll 21) (Try.f21.body.getD .skip) = true := by kernel_rfl
theorem stat22 : statAll (btAll 22) (Try.f22.body.getD .skip) = true := by kernel_rfl
theorem stat23 : statAll (btAll 23) (Try.f23.body.getD .skip) = true := by kernel_rfl
theorem stat24 : statAll (btAll 24) (Try.f24.body.getD .skip) = true := by kernel_rfl
theorem stat25 : statAll (btAll 25) (Try.f25.body.getD .skip) = true := by kernel_rfl
theorem stat26 : statAll (btAll 26) (Try.f26.body.getD .skip) = true := by kernel_rfl
theorem stat27 : statAll (btAll 27) (Try.f27.body.getD .skip) = true := by kernel_rfl
theorem stat28 : statAll (btAll 28) (Try.f28.body.getD .skip) = true := by kernel_rfl
theorem stat29 : statAll (btAll 29) (Try.f29.body.getD .skip) = true := by kernel_rfl
theorem stat30 : statAll (btAll 30) (Try.f30.body.getD .skip) = true := by kernel_rfl
theorem stat31 : statAll (btAll 31) (Try.f31.body.getD .skip) = true := by kernel_rfl
theorem stat32 : statAll (btAll 32) (Try.f32.body.getD .skip) = true := by kernel_rfl
theorem stat33 : statAll (btAll 33) (Try.f33.body.getD .skip) = true := by kernel_rfl
theorem stat34 : statAll (btAll 34) (Try.f34.body.getD .skip) = true := by kernel_rfl
theorem stat35 : statAll (btAll 35) (Try.f35.body.getD .skip) = true := by kernel_rfl
theorem stat36 : statAll (btAll 36) (Try.f36.body.getD .skip) = true := by kernel_rfl
theorem stat37 : statAll (btAll 37) (Try.f37.body.getD .skip) = true := by kernel_rfl
theorem stat38 : statAll (btAll 38) (Try.f38.body.getD .skip) = true := by kernel_rfl
theorem stat39 : statAll (btAll 39) (Try.f39.body.getD .skip) = true := by kernel_rfl
theorem stat40 : statAll (btAll 40) (Try.f40.body.getD .skip) = true := by kernel_rfl
theorem stat41 : statAll (btAll 41) (Try.f41.body.getD .skip) = true := by kernel_rfl
theorem stat42 : statAll (btAll 42) (Try.f42.body.getD .skip) = true := by kernel_rfl
theorem stat43 : statAll (btAll 43) (Try.f43.body.getD .skip) = true := by kernel_rfl
theorem stat44 : statAll (btAll 44) (Try.f44.body.getD .skip) = true := by kernel_rfl
theorem stat45 : statAll (btAll 45) (Try.f45.body.getD .skip) = true := by kernel_rfl
theorem stat46 : statAll (btAll 46) (Try.f46.body.getD .skip) = true := by kernel_rfl
theorem stat47 : statAll (btAll 47) (Try.f47.body.getD .skip) = true := by kernel_rfl
theorem stat48 : statAll (btAll 48) (Try.f48.body.getD .skip) = true := by kernel_rfl
theorem stat49 : statAll (btAll 49) (Try.f49.body.getD .skip) = true := by kernel_rfl
theorem stat50 : statAll (btAll 50) (Try.f50.body.getD .skip) = true := by kernel_rfl
theorem stat51 : statAll (btAll 51) (Try.f51.body.getD .skip) = true := by kernel_rfl
theorem stat52 : statAll (btAll 52) (Try.f52.body.getD .skip) = true := by kernel_rfl
theorem stat53 : statAll (btAll 53) (Try.f53.body.getD .skip) = true := by kernel_rfl
theorem stat54 : statAll (btAll 54) (Try.f54.body.getD .skip) = true := by kernel_rfl
theorem stat55 : statAll (btAll 55) (Try.f55.body.getD .skip) = true := by kernel_rfl
theorem stat56 : statAll (btAll 56) (Try.f56.body.getD .skip) = true := by kernel_rfl
theorem stat57 : statAll (btAll 57) (Try.f57.body.getD .skip) = true := by kernel_rfl
theorem stat58 : statAll (btAll 58) (Try.f58.body.getD .skip) = true := by kernel_rfl
theorem stat59 : statAll (btAll 59) (Try.f59.body.getD .skip) = true := by kernel_rfl
theorem stat60 : statAll (btAll 60) (Try.f60.body.getD .skip) = true := by kernel_rfl
theorem stat61 : statAll (btAll 61) (Try.f61.body.getD .skip) = true := by kernel_rfl
theorem stat62 : statAll (btAll 62) (Try.f62.body.getD .skip) = true := by kernel_rfl
theorem stat63 : statAll (btAll 63) (Try.f63.body.getD .skip) = true := by kernel_rfl
theorem stat64 : statAll (btAll 64) (Try.f64.body.getD .skip) = true := by kernel_rfl
theorem stat65 : statAll (btAll 65) (Try.f65.body.getD .skip) = true := by kernel_rfl
theorem stat66 : statAll (btAll 66) (Try.f66.body.getD .skip) = true := by kernel_rfl
theorem stat67 : statAll (btAll 67) (Try.f67.body.getD .skip) = true := by kernel_rfl
theorem stat68 : statAll (btAll 68) (Try.f68.body.getD .skip) = true := by kernel_rfl
theorem stat69 : statAll (btAll 69) (Try.f69.body.getD .skip) = true := by kernel_rfl
theorem stat70 : statAll (btAll 70) (Try.f70.body.getD .skip) = true := by kernel_rfl
theorem stat71 : statAll (btAll 71) (Try.f71.body.getD .skip) = true := by kernel_rfl
theorem stat72 : statAll (btAll 72) (Try.f72.body.getD .skip) = true := by kernel_rfl
theorem stat73 : statAll (btAll 73) (Try.f73.body.getD .skip) = true := by kernel_rfl
theorem stat74 : statAll (btAll 74) (Try.f74.body.getD .skip) = true := by kernel_rfl
theorem stat75 : statAll (btAll 75) (Try.f75.body.getD .skip) = true := by kernel_rfl
theorem stat76 : statAll (btAll 76) (Try.f76.body.getD .skip) = true := by kernel_rfl
theorem stat77 : statAll (btAll 77) (Try.f77.body.getD .skip) = true := by kernel_rfl
theorem stat78 : statAll (btAll 78) (Try.f78.body.getD .skip) = true := by kernel_rfl
theorem stat79 : statAll (btAll 79) (Try.f79.body.getD .skip) = true := by kernel_rfl
theorem stat80 : statAll (btAll 80) (Try.f80.body.getD .skip) = true := by kernel_rfl
theorem stat81 : statAll (btAll 81) (Try.f81.body.getD .skip) = true := by kernel_rfl
theorem stat82 : statAll (btAll 82) (Try.f82.body.getD .skip) = true := by kernel_rfl
theorem stat83 : statAll (btAll 83) (Try.f83.body.getD .skip) = true := by kernel_rfl
theorem stat84 : statAll (btAll 84) (Try.f84.body.getD .skip) = true := by kernel_rfl
theorem stat85 : statAll (btAll 85) (Try.f85.body.getD .skip) = true := by kernel_rfl
theorem stat86 : statAll (btAll 86) (Try.f86.body.getD .skip) = true := by kernel_rfl
theorem stat87 : statAll (btAll 87) (Try.f87.body.getD .skip) = true := by kernel_rfl
theorem stat88 : statAll (btAll 88) (Try.f88.body.getD .skip) = true := by kernel_rfl
theorem stat89 : statAll (btAll 89) (Try.f89.body.getD .skip) = true := by kernel_rfl
theorem stat90 : statAll (btAll 90) (Try.f90.body.getD .skip) = true := by kernel_rfl
theorem stat91 : statAll (btAll 91) (Try.f91.body.getD .skip) = true := by kernel_rfl
theorem stat92 : statAll (btAll 92) (Try.f92.body.getD .skip) = true := by kernel_rfl
theorem stat93 : statAll (btAll 93) (Try.f93.body.getD .skip) = true := by kernel_rfl
theorem stat94 : statAll (btAll 94) (Try.f94.body.getD .skip) = true := by kernel_rfl
theorem stat95 : statAll (btAll 95) (Try.f95.body.getD .skip) = true := by kernel_rfl
theorem stat96 : statAll (btAll 96) (Try.f96.body.getD .skip) = true := by kernel_rfl
theorem stat97 : statAll (btAll 97) (Try.f97.body.getD .skip) = true := by kernel_rfl
theorem stat98 : statAll (btAll 98) (Try.f98.body.getD .skip) = true := by kernel_rfl
theorem stat99 : statAll (btAll 99) (Try.f99.body.getD .skip) = true := by kernel_rfl
theorem stat100 : statAll (btAll 100) (Try.f100.body.getD .skip) = true := by kernel_rfl
theorem stat101 : statAll (btAll 101) (Try.f101.body.getD .skip) = true := by kernel_rfl
theorem stat102 : statAll (btAll 102) (Try.f102.body.getD .skip) = true := by kernel_rfl
theorem stat103 : statAll (btAll 103) (Try.f103.body.getD .skip) = true := by kernel_rfl
theorem stat104 : statAll (btAll 104) (Try.f104.body.getD .skip) = true := by kernel_rfl
theorem stat105 : statAll (btAll 105) (Try.f105.body.getD .skip) = true := by kernel_rfl
theorem stat106 : statAll (btAll 106) (Try.f106.body.getD .skip) = true := by kernel_rfl
theorem stat107 : statAll (btAll 107) (Try.f107.body.getD .skip) = true := by kernel_rfl
theorem stat108 : statAll (btAll 108) (Try.f108.body.getD .skip) = true := by kernel_rfl
theorem stat110 : statAll (btAll 110) (Try.f110.body.getD .skip) = true := by kernel_rfl
theorem stat111 : statAll (btAll 111) (Try.f111.body.getD .skip) = true := by kernel_rfl
theorem stat112 : statAll (btAll 112) (Try.f112.body.getD .skip) = true := by kernel_rfl
theorem stat113 : statAll (btAll 113) (Try.f113.body.getD .skip) = true := by kernel_rfl
theorem stat114 : statAll (btAll 114) (Try.f114.body.getD .skip) = true := by kernel_rfl
theorem stat115 : statAll (btAll 115) (Try.f115.body.getD .skip) = true := by kernel_rfl
theorem stat116 : statAll (btAll 116) (Try.f116.body.getD .skip) = true := by kernel_rfl
theorem stat117 : statAll (btAll 117) (Try.f117.body.getD .skip) = true := by kernel_rfl
theorem stat118 : statAll (btAll 118) (Try.f118.body.getD .skip) = true := by kernel_rfl
theorem stat119 : statAll (btAll 119) (Try.f119.body.getD .skip) = true := by kernel_rfl
theorem stat120 : statAll (btAll 120) (Try.f120.body.getD .skip) = true := by kernel_rfl
theorem stat121 : statAll (btAll 121) (Try.f121.body.getD .skip) = true := by kernel_rfl
theorem stat122 : statAll (btAll 122) (Try.f122.body.getD .skip) = true := by kernel_rfl
theorem stat123 : statAll (btAll 123) (Try.f123.body.getD .skip) = true := by kernel_rfl
theorem stat124 : statAll (btAll 124) (Try.f124.body.getD .skip) = true := by kernel_rfl
theorem stat125 : statAll (btAll 125) (Try.f125.body.getD .skip) = true := by kernel_rfl
theorem stat126 : statAll (btAll 126) (Try.f126.body.getD .skip) = true := by kernel_rfl
theorem stat127 : statAll (btAll 127) (Try.f127.body.getD .skip) = true := by kernel_rfl
theorem stat128 : statAll (btAll 128) (Try.f128.body.getD .skip) = true := by kernel_rfl
theorem stat129 : statAll (btAll 129) (Try.f129.body.getD .skip) = true := by kernel_rfl
theorem stat130 : statAll (btAll 130) (Try.f130.body.getD .skip) = true := by kernel_rfl
theorem stat131 : statAll (btAll 131) (Try.f131.body.getD .skip) = true := by kernel_rfl
theorem stat132 : statAll (btAll 132) (Try.f132.body.getD .skip) = true := by kernel_rfl
theorem stat133 : statAll (btAll 133) (Try.f133.body.getD .skip) = true := by kernel_rfl
theorem stat134 : statAll (btAll 134) (Try.f134.body.getD .skip) = true := by kernel_rfl
theorem stat135 : statAll (btAll 135) (Try.f135.body.getD .skip) = true := by kernel_rfl
theorem stat136 : statAll (btAll 136) (Try.f136.body.getD .skip) = true := by kernel_rfl
theorem stat137 : statAll (btAll 137) (Try.f137.body.getD .skip) = true := by kernel_rfl
theorem stat138 : statAll (btAll 138) (Try.f138.body.getD .skip) = true := by kernel_rfl
theorem stat139 : statAll (btAll 139) (Try.f139.body.getD .skip) = true := by kernel_rfl
theorem stat140 : statAll (btAll 140) (Try.f140.body.getD .skip) = true := by kernel_rfl
theorem stat141 : statAll (btAll 141) (Try.f141.body.getD .skip) = true := by kernel_rfl
theorem stat144 : statAll (btAll 144) (Try.f144.body.getD .skip) = true := by kernel_rfl
theorem stat145 : statAll (btAll 145) (Try.f145.body.getD .skip) = true := by kernel_rfl
theorem stat146 : statAll (btAll 146) (Try.f146.body.getD .skip) = true := by kernel_rfl
theorem stat147 : statAll (btAll 147) (Try.f147.body.getD .skip) = true := by kernel_rfl
theorem stat148 : statAll (btAll 148) (Try.f148.body.getD .skip) = true := by kernel_rfl
theorem stat149 : statAll (btAll 149) (Try.f149.body.getD .skip) = true := by kernel_rfl
theorem stat150 : statAll (btAll 150) (Try.f150.body.getD .skip) = true := by kernel_rfl
theorem stat151 : statAll (btAll 151) (Try.f151.body.getD .skip) = true := by kernel_rfl
theorem stat152 : statAll (btAll 152) (Try.f152.body.getD .skip) = true := by kernel_rfl
theorem stat153 : statAll (btAll 153) (Try.f153.body.getD .skip) = true := by kernel_rfl
theorem stat154 : statAll (btAll 154) (Try.f154.body.getD .skip) = true := by kernel_rfl
theorem stat155 : statAll (btAll 155) (Try.f155.body.getD .skip) = true := by kernel_rfl
theorem stat156 : statAll (btAll 156) (Try.f156.body.getD .skip) = true := by kernel_rfl
theorem stat157 : statAll (btAll 157) (Try.f157.body.getD .skip) = true := by kernel_rfl
theorem stat158 : statAll (btAll 158) (Try.f158.body.getD .skip) = true := by kernel_rfl
theorem stat159 : statAll (btAll 159) (Try.f159.body.getD .skip) = true := by kernel_rfl
theorem stat160 : statAll (btAll 160) (Try.f160.body.getD .skip) = true := by kernel_rfl
theorem stat161 : statAll (btAll 161) (Try.f161.body.getD .skip) = true := by kernel_rfl
theorem stat162 : statAll (btAll 162) (Try.f162.body.getD .skip) = true := by kernel_rfl
theorem stat163 : statAll (btAll 163) (Try.f163.body.getD .skip) = true := by kernel_rfl
theorem stat164 : statAll (btAll 164) (Try.f164.body.getD .skip) = true := by kernel_rfl
theorem stat165 : statAll (btAll 165) (Try.f165.body.getD .skip) = true := by kernel_rfl
theorem stat166 : statAll (btAll 166) (Try.f166.body.getD .skip) = true := by kernel_rfl
theorem has2 : HasBody Try.prog 2 := cP_ok.bodies 2 (cx_bodies Try.func2 (by kernel_rfl))
theorem has3 : HasBody Try.prog 3 := cP_ok.bodies 3 (cx_bodies Try.func3 (by kernel_rfl))
theorem has4 : HasBody Try.prog 4 := cP_ok.bodies 4 (cx_bodies Try.func4 (by kernel_rfl))
theorem has5 : HasBody Try.prog 5 := cP_ok.bodies 5 (cx_bodies Try.func5 (by kernel_rfl))
theorem has6 : HasBody Try.prog 6 := cP_ok.bodies 6 (cx_bodies Try.func6 (by kernel_rfl))
theorem has7 : HasBody Try.prog 7 := cP_ok.bodies 7 (cx_bodies Try.func7 (by kernel_rfl))
theorem has8 : HasBody Try.prog 8 := cP_ok.bodies 8 (cx_bodies Try.func8 (by kernel_rfl))
theorem has9 : HasBody Try.prog 9 := cP_ok.bodies 9 (cx_bodies Try.func9 (by kernel_rfl))
theorem has10 : HasBody Try.prog 10 := cP_ok.bodies 10 (cx_bodies Try.func10 (by kernel_rfl))
theorem has11 : HasBody Try.prog 11 := cP_ok.bodies 11 (cx_bodies Try.func11 (by kernel_rfl))
theorem has12 : HasBody Try.prog 12 := cP_ok.bodies 12 (cx_bodies Try.func12 (by kernel_rfl))
theorem has13 : HasBody Try.prog 13 := cP_ok.bodies 13 (cx_bodies Try.func13 (by kernel_rfl))
theorem has14 : HasBody Try.prog 14 := cP_ok.bodies 14 (cx_bodies Try.func14 (by kernel_rfl))
theorem has15 : HasBody Try.prog 15 := cP_ok.bodies 15 (cx_bodies Try.func15 (by kernel_rfl))
theorem has16 : HasBody Try.prog 16 := cP_ok.bodies 16 (cx_bodies Try.func16 (by kernel_rfl))
theorem has17 : HasBody Try.prog 17 := cP_ok.bodies 17 (cx_bodies Try.func17 (by kernel_rfl))
theorem has18 : HasBody Try.prog 18 := cP_ok.bodies 18 (cx_bodies Try.func18 (by kernel_rfl))
theorem has19 : HasBody Try.prog 19 := cP_ok.bodies 19 (cx_bodies Try.func19 (by kernel_rfl))
theorem has20 : HasBody Try.prog 20 := cP_ok.bodies 20 (cx_bodies Try.func20 (by kernel_rfl))
theorem has21 : HasBody Try.prog 21 := cP_ok.bodies 21 (cx_bodies Try.func21 (by kernel_rfl))
theorem has22 : HasBody Try.prog 22 := cP_ok.bodies 22 (cx_bodies Try.func22 (by kernel_rfl))
theorem has23 : HasBody Try.prog 23 := cP_ok.bodies 23 (cx_bodies Try.func23 (by kernel_rfl))
theorem has24 : HasBody Try.prog 24 := cP_ok.bodies 24 (cx_bodies Try.func24 (by kernel_rfl))
theorem has25 : HasBody Try.prog 25 := cP_ok.bodies 25 (cx_bodies Try.func25 (by kernel_rfl))
theorem has26 : HasBody Try.prog 26 := cP_ok.bodies 26 (cx_bodies Try.func26 (by kernel_rfl))
theorem has27 : HasBody Try.prog 27 := cP_ok.bodies 27 (cx_bodies Try.func27 (by kernel_rfl))
theorem has28 : HasBody Try.prog 28 := cP_ok.bodies 28 (cx_bodies Try.func28 (by kernel_rfl))
theorem has29 : HasBody Try.prog 29 := cP_ok.bodies 29 (cx_bodies Try.func29 (by kernel_rfl))
theorem has30 : HasBody Try.prog 30 := cP_ok.bodies 30 (cx_bodies Try.func30 (by kernel_rfl))
theorem has31 : HasBody Try.prog 31 := cP_ok.bodies 31 (cx_bodies Try.func31 (by kernel_rfl))
theorem has32 : HasBody Try.prog 32 := cP_ok.bodies 32 (cx_bodies Try.func32 (by kernel_rfl))
theorem has33 : HasBody Try.prog 33 := cP_ok.bodies 33 (cx_bodies Try.func33 (by kernel_rfl))
theorem has34 : HasBody Try.prog 34 := cP_ok.bodies 34 (cx_bodies Try.func34 (by kernel_rfl))
theorem has35 : HasBody Try.prog 35 := cP_ok.bodies 35 (cx_bodies Try.func35 (by kernel_rfl))
theorem has36 : HasBody Try.prog 36 := cP_ok.bodies 36 (cx_bodies Try.func36 (by kernel_rfl))
theorem has37 : HasBody Try.prog 37 := cP_ok.bodies 37 (cx_bodies Try.func37 (by kernel_rfl))
theorem has38 : HasBody Try.prog 38 := cP_ok.bodies 38 (cx_bodies Try.func38 (by kernel_rfl))
theorem has39 : HasBody Try.prog 39 := cP_ok.bodies 39 (cx_bodies Try.func39 (by kernel_rfl))
theorem has40 : HasBody Try.prog 40 := cP_ok.bodies 40 (cx_bodies Try.func40 (by kernel_rfl))
theorem has41 : HasBody Try.prog 41 := cP_ok.bodies 41 (cx_bodies Try.func41 (by kernel_rfl))
theorem has42 : HasBody Try.prog 42 := cP_ok.bodies 42 (cx_bodies Try.func42 (by kernel_rfl))
theorem has43 : HasBody Try.prog 43 := cP_ok.bodies 43 (cx_bodies Try.func43 (by kernel_rfl))
theorem has44 : HasBody Try.prog 44 := cP_ok.bodies 44 (cx_bodies Try.func44 (by kernel_rfl))
theorem has45 : HasBody Try.prog 45 := cP_ok.bodies 45 (cx_bodies Try.func45 (by kernel_rfl))
theorem has46 : HasBody Try.prog 46 := cP_ok.bodies 46 (cx_bodies Try.func46 (by kernel_rfl))
theorem has47 : HasBody Try.prog 47 := cP_ok.bodies 47 (cx_bodies Try.func47 (by kernel_rfl))
theorem has48 : HasBody Try.prog 48 := cP_ok.bodies 48 (cx_bodies Try.func48 (by kernel_rfl))
theorem has49 : HasBody Try.prog 49 := cP_ok.bodies 49 (cx_bodies Try.func49 (by kernel_rfl))
theorem has50 : HasBody Try.prog 50 := cP_ok.bodies 50 (cx_bodies Try.func50 (by kernel_rfl))
theorem has51 : HasBody Try.prog 51 := cP_ok.bodies 51 (cx_bodies Try.func51 (by kernel_rfl))
theorem has52 : HasBody Try.prog 52 := cP_ok.bodies 52 (cx_bodies Try.func52 (by kernel_rfl))
theorem has53 : HasBody Try.prog 53 := cP_ok.bodies 53 (cx_bodies Try.func53 (by kernel_rfl))
theorem has54 : HasBody Try.prog 54 := cP_ok.bodies 54 (cx_bodies Try.func54 (by kernel_rfl))
theorem has55 : HasBody Try.prog 55 := cP_ok.bodies 55 (cx_bodies Try.func55 (by kernel_rfl))
theorem has56 : HasBody Try.prog 56 := cP_ok.bodies 56 (cx_bodies Try.func56 (by kernel_rfl))
theorem has57 : HasBody Try.prog 57 := cP_ok.bodies 57 (cx_bodies Try.func57 (by kernel_rfl))
theorem has58 : HasBody Try.prog 58 := cP_ok.bodies 58 (cx_bodies Try.func58 (by kernel_rfl))
theorem has59 : HasBody Try.prog 59 := cP_ok.bodies 59 (cx_bodies Try.func59 (by kernel_rfl))
theorem has60 : HasBody Try.prog 60 := cP_ok.bodies 60 (cx_bodies Try.func60 (by kernel_rfl))
theorem has61 : HasBody Try.prog 61 := cP_ok.bodies 61 (cx_bodies Try.func61 (by kernel_rfl))
theorem has62 : HasBody Try.prog 62 := cP_ok.bodies 62 (cx_bodies Try.func62 (by kernel_rfl))
theorem has63 : HasBody Try.prog 63 := cP_ok.bodies 63 (cx_bodies Try.func63 (by kernel_rfl))
theorem has64 : HasBody Try.prog 64 := cP_ok.bodies 64 (cx_bodies Try.func64 (by kernel_rfl))
theorem has65 : HasBody Try.prog 65 := cP_ok.bodies 65 (cx_bodies Try.func65 (by kernel_rfl))
theorem has66 : HasBody Try.prog 66 := cP_ok.bodies 66 (cx_bodies Try.func66 (by kernel_rfl))
theorem has67 : HasBody Try.prog 67 := cP_ok.bodies 67 (cx_bodies Try.func67 (by kernel_rfl))
theorem has68 : HasBody Try.prog 68 := cP_ok.bodies 68 (cx_bodies Try.func68 (by kernel_rfl))
theorem has69 : HasBody Try.prog 69 := cP_ok.bodies 69 (cx_bodies Try.func69 (by kernel_rfl))
theorem has70 : HasBody Try.prog 70 := cP_ok.bodies 70 (cx_bodies Try.func70 (by kernel_rfl))
theorem has71 : HasBody Try.prog 71 := cP_ok.bodies 71 (cx_bodies Try.func71 (by kernel_rfl))
theorem has72 : HasBody Try.prog 72 := cP_ok.bodies 72 (cx_bodies Try.func72 (by kernel_rfl))
theorem has73 : HasBody Try.prog 73 := cP_ok.bodies 73 (cx_bodies Try.func73 (by kernel_rfl))
theorem has74 : HasBody Try.prog 74 := cP_ok.bodies 74 (cx_bodies Try.func74 (by kernel_rfl))
theorem has75 : HasBody Try.prog 75 := cP_ok.bodies 75 (cx_bodies Try.func75 (by kernel_rfl))
theorem has76 : HasBody Try.prog 76 := cP_ok.bodies 76 (cx_bodies Try.func76 (by kernel_rfl))
theorem has77 : HasBody Try.prog 77 := cP_ok.bodies 77 (cx_bodies Try.func77 (by kernel_rfl))
theorem has78 : HasBody Try.prog 78 := cP_ok.bodies 78 (cx_bodies Try.func78 (by kernel_rfl))
theorem has79 : HasBody Try.prog 79 := cP_ok.bodies 79 (cx_bodies Try.func79 (by kernel_rfl))
theorem has80 : HasBody Try.prog 80 := cP_ok.bodies 80 (cx_bodies Try.func80 (by kernel_rfl))
theorem has81 : HasBody Try.prog 81 := cP_ok.bodies 81 (cx_bodies Try.func81 (by kernel_rfl))
theorem has82 : HasBody Try.prog 82 := cP_ok.bodies 82 (cx_bodies Try.func82 (by kernel_rfl))
theorem has83 : HasBody Try.prog 83 := cP_ok.bodies 83 (cx_bodies Try.func83 (by kernel_rfl))
theorem has84 : HasBody Try.prog 84 := cP_ok.bodies 84 (cx_bodies Try.func84 (by kernel_rfl))
theorem has85 : HasBody Try.prog 85 := cP_ok.bodies 85 (cx_bodies Try.func85 (by kernel_rfl))
theorem has86 : HasBody Try.prog 86 := cP_ok.bodies 86 (cx_bodies Try.func86 (by kernel_rfl))
theorem has87 : HasBody Try.prog 87 := cP_ok.bodies 87 (cx_bodies Try.func87 (by kernel_rfl))
theorem has88 : HasBody Try.prog 88 := cP_ok.bodies 88 (cx_bodies Try.func88 (by kernel_rfl))
theorem has89 : HasBody Try.prog 89 := cP_ok.bodies 89 (cx_bodies Try.func89 (by kernel_rfl))
theorem has90 : HasBody Try.prog 90 := cP_ok.bodies 90 (cx_bodies Try.func90 (by kernel_rfl))
theorem has91 : HasBody Try.prog 91 := cP_ok.bodies 91 (cx_bodies Try.func91 (by kernel_rfl))
theorem has92 : HasBody Try.prog 92 := cP_ok.bodies 92 (cx_bodies Try.func92 (by kernel_rfl))
theorem has93 : HasBody Try.prog 93 := cP_ok.bodies 93 (cx_bodies Try.func93 (by kernel_rfl))
theorem has94 : HasBody Try.prog 94 := cP_ok.bodies 94 (cx_bodies Try.func94 (by kernel_rfl))
theorem has95 : HasBody Try.prog 95 := cP_ok.bodies 95 (cx_bodies Try.func95 (by kernel_rfl))
theorem has96 : HasBody Try.prog 96 := cP_ok.bodies 96 (cx_bodies Try.func96 (by kernel_rfl))
theorem has97 : HasBody Try.prog 97 := cP_ok.bodies 97 (cx_bodies Try.func97 (by kernel_rfl))
theorem has98 : HasBody Try.prog 98 := cP_ok.bodies 98 (cx_bodies Try.func98 (by kernel_rfl))
theorem has99 : HasBody Try.prog 99 := cP_ok.bodies 99 (cx_bodies Try.func99 (by kernel_rfl))
theorem has100 : HasBody Try.prog 100 := cP_ok.bodies 100 (cx_bodies Try.func100 (by kernel_rfl))
theorem has101 : HasBody Try.prog 101 := cP_ok.bodies 101 (cx_bodies Try.func101 (by kernel_rfl))
theorem has102 : HasBody Try.prog 102 := cP_ok.bodies 102 (cx_bodies Try.func102 (by kernel_rfl))
theorem has103 : HasBody Try.prog 103 := cP_ok.bodies 103 (cx_bodies Try.func103 (by kernel_rfl))
theorem has104 : HasBody Try.prog 104 := cP_ok.bodies 104 (cx_bodies Try.func104 (by kernel_rfl))
theorem has105 : HasBody Try.prog 105 := cP_ok.bodies 105 (cx_bodies Try.func105 (by kernel_rfl))
theorem has106 : HasBody Try.prog 106 := cP_ok.bodies 106 (cx_bodies Try.func106 (by kernel_rfl))
theorem has107 : HasBody Try.prog 107 := cP_ok.bodies 107 (cx_bodies Try.func107 (by kernel_rfl))
theorem has108 : HasBody Try.prog 108 := cP_ok.bodies 108 (cx_bodies Try.func108 (by kernel_rfl))
theorem has110 : HasBody Try.prog 110 := cP_ok.bodies 110 (cx_bodies Try.func110 (by kernel_rfl))
theorem has111 : HasBody Try.prog 111 := cP_ok.bodies 111 (cx_bodies Try.func111 (by kernel_rfl))
theorem has112 : HasBody Try.prog 112 := cP_ok.bodies 112 (cx_bodies Try.func112 (by kernel_rfl))
theorem has113 : HasBody Try.prog 113 := cP_ok.bodies 113 (cx_bodies Try.func113 (by kernel_rfl))
theorem has114 : HasBody Try.prog 114 := cP_ok.bodies 114 (cx_bodies Try.func114 (by kernel_rfl))
theorem has115 : HasBody Try.prog 115 := cP_ok.bodies 115 (cx_bodies Try.func115 (by kernel_rfl))
theorem has116 : HasBody Try.prog 116 := cP_ok.bodies 116 (cx_bodies Try.func116 (by kernel_rfl))
theorem has117 : HasBody Try.prog 117 := cP_ok.bodies 117 (cx_bodies Try.func117 (by kernel_rfl))
theorem has118 : HasBody Try.prog 118 := cP_ok.bodies 118 (cx_bodies Try.func118 (by kernel_rfl))
theorem has119 : HasBody Try.prog 119 := cP_ok.bodies 119 (cx_bodies Try.func119 (by kernel_rfl))
theorem has120 : HasBody Try.prog 120 := cP_ok.bodies 120 (cx_bodies Try.func120 (by kernel_rfl))
theorem has121 : HasBody Try.prog 121 := cP_ok.bodies 121 (cx_bodies Try.func121 (by kernel_rfl))
theorem has122 : HasBody Try.prog 122 := cP_ok.bodies 122 (cx_bodies Try.func122 (by kernel_rfl))
theorem has123 : HasBody Try.prog 123 := cP_ok.bodies 123 (cx_bodies Try.func123 (by kernel_rfl))
theorem has124 : HasBody Try.prog 124 := cP_ok.bodies 124 (cx_bodies Try.func124 (by kernel_rfl))
theorem has125 : HasBody Try.prog 125 := cP_ok.bodies 125 (cx_bodies Try.func125 (by kernel_rfl))
theorem has126 : HasBody Try.prog 126 := cP_ok.bodies 126 (cx_bodies Try.func126 (by kernel_rfl))
theorem has127 : HasBody Try.prog 127 := cP_ok.bodies 127 (cx_bodies Try.func127 (by kernel_rfl))
theorem has128 : HasBody Try.prog 128 := cP_ok.bodies 128 (cx_bodies Try.func128 (by kernel_rfl))
theorem has129 : HasBody Try.prog 129 := cP_ok.bodies 129 (cx_bodies Try.func129 (by kernel_rfl))
theorem has130 : HasBody Try.prog 130 := cP_ok.bodies 130 (cx_bodies Try.func130 (by kernel_rfl))
theorem has131 : HasBody Try.prog 131 := cP_ok.bodies 131 (cx_bodies Try.func131 (by kernel_rfl))
theorem has132 : HasBody Try.prog 132 := cP_ok.bodies 132 (cx_bodies Try.func132 (by kernel_rfl))
theorem has133 : HasBody Try.prog 133 := cP_ok.bodies 133 (cx_bodies Try.func133 (by kernel_rfl))
theorem has134 : HasBody Try.prog 134 := cP_ok.bodies 134 (cx_bodies Try.func134 (by kernel_rfl))
theorem has135 : HasBody Try.prog 135 := cP_ok.bodies 135 (cx_bodies Try.func135 (by kernel_rfl))
theorem has136 : HasBody Try.prog 136 := cP_ok.bodies 136 (cx_bodies Try.func136 (by kernel_rfl))
theorem has137 : HasBody Try.prog 137 := cP_ok.bodies 137 (cx_bodies Try.func137 (by kernel_rfl))
theorem has138 : HasBody Try.prog 138 := cP_ok.bodies 138 (cx_bodies Try.func138 (by kernel_rfl))
theorem has139 : HasBody Try.prog 139 := cP_ok.bodies 139 (cx_bodies Try.func139 (by kernel_rfl))
theorem has140 : HasBody Try.prog 140 := cP_ok.bodies 140 (cx_bodies Try.func140 (by kernel_rfl))
theorem has141 : HasBody Try.prog 141 := cP_ok.bodies 141 (cx_bodies Try.func141 (by kernel_rfl))
theorem has144 : HasBody Try.prog 144 := cP_ok.bodies 144 (cx_bodies Try.func144 (by kernel_rfl))
theorem has145 : HasBody Try.prog 145 := cP_ok.bodies 145 (cx_bodies Try.func145 (by kernel_rfl))
theorem has146 : HasBody Try.prog 146 := cP_ok.bodies 146 (cx_bodies Try.func146 (by kernel_rfl))
theorem has147 : HasBody Try.prog 147 := cP_ok.bodies 147 (cx_bodies Try.func147 (by kernel_rfl))
theorem has148 : HasBody Try.prog 148 := cP_ok.bodies 148 (cx_bodies Try.func148 (by kernel_rfl))
theorem has149 : HasBody Try.prog 149 := cP_ok.bodies 149 (cx_bodies Try.func149 (by kernel_rfl))
theorem has150 : HasBody Try.prog 150 := cP_ok.bodies 150 (cx_bodies Try.func150 (by kernel_rfl))
theorem has151 : HasBody Try.prog 151 := cP_ok.bodies 151 (cx_bodies Try.func151 (by kernel_rfl))
theorem has152 : HasBody Try.prog 152 := cP_ok.bodies 152 (cx_bodies Try.func152 (by kernel_rfl))
theorem has153 : HasBody Try.prog 153 := cP_ok.bodies 153 (cx_bodies Try.func153 (by kernel_rfl))
theorem has154 : HasBody Try.prog 154 := cP_ok.bodies 154 (cx_bodies Try.func154 (by kernel_rfl))
theorem has155 : HasBody Try.prog 155 := cP_ok.bodies 155 (cx_bodies Try.func155 (by kernel_rfl))
theorem has156 : HasBody Try.prog 156 := cP_ok.bodies 156 (cx_bodies Try.func156 (by kernel_rfl))
theorem has157 : HasBody Try.prog 157 := cP_ok.bodies 157 (cx_bodies Try.func157 (by kernel_rfl))
theorem has158 : HasBody Try.prog 158 := cP_ok.bodies 158 (cx_bodies Try.func158 (by kernel_rfl))
theorem has159 : HasBody Try.prog 159 := cP_ok.bodies 159 (cx_bodies Try.func159 (by kernel_rfl))
theorem has160 : HasBody Try.prog 160 := cP_ok.bodies 160 (cx_bodies Try.func160 (by kernel_rfl))
theorem has161 : HasBody Try.prog 161 := cP_ok.bodies 161 (cx_bodies Try.func161 (by kernel_rfl))
theorem has162 : HasBody Try.prog 162 := cP_ok.bodies 162 (cx_bodies Try.func162 (by kernel_rfl))
theorem has163 : HasBody Try.prog 163 := cP_ok.bodies 163 (cx_bodies Try.func163 (by kernel_rfl))
theorem has164 : HasBody Try.prog 164 := cP_ok.bodies 164 (cx_bodies Try.func164 (by kernel_rfl))
theorem has165 : HasBody Try.prog 165 := cP_ok.bodies 165 (cx_bodies Try.func165 (by kernel_rfl))
theorem has166 : HasBody Try.prog 166 := cP_ok.bodies 166 (cx_bodies Try.func166 (by kernel_rfl))
noncomputable def row2 : FnRow Try.prog btAll := ⟨2, Try.f2, Try.f2.body.getD .skip, Try.func2, by kernel_rfl, stat2, has2⟩
noncomputable def row3 : FnRow Try.prog btAll := ⟨3, Try.f3, Try.f3.body.getD .skip, Try.func3, by kernel_rfl, stat3, has3⟩
noncomputable def row4 : FnRow Try.prog btAll := ⟨4, Try.f4, Try.f4.body.getD .skip, Try.func4, by kernel_rfl, stat4, has4⟩
noncomputable def row5 : FnRow Try.prog btAll := ⟨5, Try.f5, Try.f5.body.getD .skip, Try.func5, by kernel_rfl, stat5, has5⟩
noncomputable def row6 : FnRow Try.prog btAll := ⟨6, Try.f6, Try.f6.body.getD .skip, Try.func6, by kernel_rfl, stat6, has6⟩
noncomputable def row7 : FnRow Try.prog btAll := ⟨7, Try.f7, Try.f7.body.getD .skip, Try.func7, by kernel_rfl, stat7, has7⟩
noncomputable def row8 : FnRow Try.prog btAll := ⟨8, Try.f8, Try.f8.body.getD .skip, Try.func8, by kernel_rfl, stat8, has8⟩
noncomputable def row9 : FnRow Try.prog btAll := ⟨9, Try.f9, Try.f9.body.getD .skip, Try.func9, by kernel_rfl, stat9, has9⟩
noncomputable def row10 : FnRow Try.prog btAll := ⟨10, Try.f10, Try.f10.body.getD .skip, Try.func10, by kernel_rfl, stat10, has10⟩
noncomputable def row11 : FnRow Try.prog btAll := ⟨11, Try.f11, Try.f11.body.getD .skip, Try.func11, by kernel_rfl, stat11, has11⟩
noncomputable def row12 : FnRow Try.prog btAll := ⟨12, Try.f12, Try.f12.body.getD .skip, Try.func12, by kernel_rfl, stat12, has12⟩
noncomputable def row13 : FnRow Try.prog btAll := ⟨13, Try.f13, Try.f13.body.getD .skip, Try.func13, by kernel_rfl, stat13, has13⟩
noncomputable def row14 : FnRow Try.prog btAll := ⟨14, Try.f14, Try.f14.body.getD .skip, Try.func14, by kernel_rfl, stat14, has14⟩
noncomputable def row15 : FnRow Try.prog btAll := ⟨15, Try.f15, Try.f15.body.getD .skip, Try.func15, by kernel_rfl, stat15, has15⟩
noncomputable def row16 : FnRow Try.prog btAll := ⟨16, Try.f16, Try.f16.body.getD .skip, Try.func16, by kernel_rfl, stat16, has16⟩
noncomputable def row17 : FnRow Try.prog btAll := ⟨17, Try.f17, Try.f17.body.getD .skip, Try.func17, by kernel_rfl, stat17, has17⟩
noncomputable def row18 : FnRow Try.prog btAll := ⟨18, Try.f18, Try.f18.body.getD .skip, Try.func18, by kernel_rfl, stat18, has18⟩
noncomputable def row19 : FnRow Try.prog btAll := ⟨19, Try.f19, Try.f19.body.getD .skip, Try.func19, by kernel_rfl, stat19, has19⟩
noncomputable def row20 : FnRow Try.prog btAll := ⟨20, Try.f20, Try.f20.body.getD .skip, Try.func20, by kernel_rfl, stat20, has20⟩
noncomputable def row21 : FnRow Try.prog btAll := ⟨21, Try.f21, Try.f21.body.getD .skip, Try.func21, by kernel_rfl, stat21, has21⟩
noncomputable def row22 : FnRow Try.prog btAll := ⟨22, Try.f22, Try.f22.body.getD .skip, Try.func22, by kernel_rfl, stat22, has22⟩
noncomputable def row23 : FnRow Try.prog btAll := ⟨23, Try.f23, Try.f23.body.getD .skip, Try.func23, by kernel_rfl, stat23, has23⟩
noncomputable def row24 : FnRow Try.prog btAll := ⟨24, Try.f24, Try.f24.body.getD .skip, Try.func24, by kernel_rfl, stat24, has24⟩
noncomputable def row25 : FnRow Try.prog btAll := ⟨25, Try.f25, Try.f25.body.getD .skip, Try.func25, by kernel_rfl, stat25, has25⟩
noncomputable def row26 : FnRow Try.prog btAll := ⟨26, Try.f26, Try.f26.body.getD .skip, Try.func26, by kernel_rfl, stat26, has26⟩
noncomputable def row27 : FnRow Try.prog btAll := ⟨27, Try.f27, Try.f27.body.getD .skip, Try.func27, by kernel_rfl, stat27, has27⟩
noncomputable def row28 : FnRow Try.prog btAll := ⟨28, Try.f28, Try.f28.body.getD .skip, Try.func28, by kernel_rfl, stat28, has28⟩
noncomputable def row29 : FnRow Try.prog btAll := ⟨29, Try.f29, Try.f29.body.getD .skip, Try.func29, by kernel_rfl, stat29, has29⟩
noncomputable def row30 : FnRow Try.prog btAll := ⟨30, Try.f30, Try.f30.body.getD .skip, Try.func30, by kernel_rfl, stat30, has30⟩
noncomputable def row31 : FnRow Try.prog btAll := ⟨31, Try.f31, Try.f31.body.getD .skip, Try.func31, by kernel_rfl, stat31, has31⟩
noncomputable def row32 : FnRow Try.prog btAll := ⟨32, Try.f32, Try.f32.body.getD .skip, Try.func32, by kernel_rfl, stat32, has32⟩
noncomputable def row33 : FnRow Try.prog btAll := ⟨33, Try.f33, Try.f33.body.getD .skip, Try.func33, by kernel_rfl, stat33, has33⟩
noncomputable def row34 : FnRow Try.prog btAll := ⟨34, Try.f34, Try.f34.body.getD .skip, Try.func34, by kernel_rfl, stat34, has34⟩
noncomputable def row35 : FnRow Try.prog btAll := ⟨35, Try.f35, Try.f35.body.getD .skip, Try.func35, by kernel_rfl, stat35, has35⟩
noncomputable def row36 : FnRow Try.prog btAll := ⟨36, Try.f36, Try.f36.body.getD .skip, Try.func36, by kernel_rfl, stat36, has36⟩
noncomputable def row37 : FnRow Try.prog btAll := ⟨37, Try.f37, Try.f37.body.getD .skip, Try.func37, by kernel_rfl, stat37, has37⟩
noncomputable def row38 : FnRow Try.prog btAll := ⟨38, Try.f38, Try.f38.body.getD .skip, Try.func38, by kernel_rfl, stat38, has38⟩
noncomputable def row39 : FnRow Try.prog btAll := ⟨39, Try.f39, Try.f39.body.getD .skip, Try.func39, by kernel_rfl, stat39, has39⟩
noncomputable def row40 : FnRow Try.prog btAll := ⟨40, Try.f40, Try.f40.body.getD .skip, Try.func40, by kernel_rfl, stat40, has40⟩
noncomputable def row41 : FnRow Try.prog btAll := ⟨41, Try.f41, Try.f41.body.getD .skip, Try.func41, by kernel_rfl, stat41, has41⟩
noncomputable def row42 : FnRow Try.prog btAll := ⟨42, Try.f42, Try.f42.body.getD .skip, Try.func42, by kernel_rfl, stat42, has42⟩
noncomputable def row43 : FnRow Try.prog btAll := ⟨43, Try.f43, Try.f43.body.getD .skip, Try.func43, by kernel_rfl, stat43, has43⟩
noncomputable def row44 : FnRow Try.prog btAll := ⟨44, Try.f44, Try.f44.body.getD .skip, Try.func44, by kernel_rfl, stat44, has44⟩
noncomputable def row45 : FnRow Try.prog btAll := ⟨45, Try.f45, Try.f45.body.getD .skip, Try.func45, by kernel_rfl, stat45, has45⟩
noncomputable def row46 : FnRow Try.prog btAll := ⟨46, Try.f46, Try.f46.body.getD .skip, Try.func46, by kernel_rfl, stat46, has46⟩
noncomputable def row47 : FnRow Try.prog btAll := ⟨47, Try.f47, Try.f47.body.getD .skip, Try.func47, by kernel_rfl, stat47, has47⟩
noncomputable def row48 : FnRow Try.prog btAll := ⟨48, Try.f48, Try.f48.body.getD .skip, Try.func48, by kernel_rfl, stat48, has48⟩
noncomputable def row49 : FnRow Try.prog btAll := ⟨49, Try.f49, Try.f49.body.getD .skip, Try.func49, by kernel_rfl, stat49, has49⟩
noncomputable def row50 : FnRow Try.prog btAll := ⟨50, Try.f50, Try.f50.body.getD .skip, Try.func50, by kernel_rfl, stat50, has50⟩
noncomputable def row51 : FnRow Try.prog btAll := ⟨51, Try.f51, Try.f51.body.getD .skip, Try.func51, by kernel_rfl, stat51, has51⟩
noncomputable def row52 : FnRow Try.prog btAll := ⟨52, Try.f52, Try.f52.body.getD .skip, Try.func52, by kernel_rfl, stat52, has52⟩
noncomputable def row53 : FnRow Try.prog btAll := ⟨53, Try.f53, Try.f53.body.getD .skip, Try.func53, by kernel_rfl, stat53, has53⟩
noncomputable def row54 : FnRow Try.prog btAll := ⟨54, Try.f54, Try.f54.body.getD .skip, Try.func54, by kernel_rfl, stat54, has54⟩
noncomputable def row55 : FnRow Try.prog btAll := ⟨55, Try.f55, Try.f55.body.getD .skip, Try.func55, by kernel_rfl, stat55, has55⟩
noncomputable def row56 : FnRow Try.prog btAll := ⟨56, Try.f56, Try.f56.body.getD .skip, Try.func56, by kernel_rfl, stat56, has56⟩
noncomputable def row57 : FnRow Try.prog btAll := ⟨57, Try.f57, Try.f57.body.getD .skip, Try.func57, by kernel_rfl, stat57, has57⟩
noncomputable def row58 : FnRow Try.prog btAll := ⟨58, Try.f58, Try.f58.body.getD .skip, Try.func58, by kernel_rfl, stat58, has58⟩
noncomputable def row59 : FnRow Try.prog btAll := ⟨59, Try.f59, Try.f59.body.getD .skip, Try.func59, by kernel_rfl, stat59, has59⟩
noncomputable def row60 : FnRow Try.prog btAll := ⟨60, Try.f60, Try.f60.body.getD .skip, Try.func60, by kernel_rfl, stat60, has60⟩
noncomputable def row61 : FnRow Try.prog btAll := ⟨61, Try.f61, Try.f61.body.getD .skip, Try.func61, by kernel_rfl, stat61, has61⟩
noncomputable def row62 : FnRow Try.prog btAll := ⟨62, Try.f62, Try.f62.body.getD .skip, Try.func62, by kernel_rfl, stat62, has62⟩
noncomputable def row63 : FnRow Try.prog btAll := ⟨63, Try.f63, Try.f63.body.getD .skip, Try.func63, by kernel_rfl, stat63, has63⟩
noncomputable def row64 : FnRow Try.prog btAll := ⟨64, Try.f64, Try.f64.body.getD .skip, Try.func64, by kernel_rfl, stat64, has64⟩
noncomputable def row65 : FnRow Try.prog btAll := ⟨65, Try.f65, Try.f65.body.getD .skip, Try.func65, by kernel_rfl, stat65, has65⟩
noncomputable def row66 : FnRow Try.prog btAll := ⟨66, Try.f66, Try.f66.body.getD .skip, Try.func66, by kernel_rfl, stat66, has66⟩
noncomputable def row67 : FnRow Try.prog btAll := ⟨67, Try.f67, Try.f67.body.getD .skip, Try.func67, by kernel_rfl, stat67, has67⟩
noncomputable def row68 : FnRow Try.prog btAll := ⟨68, Try.f68, Try.f68.body.getD .skip, Try.func68, by kernel_rfl, stat68, has68⟩
noncomputable def row69 : FnRow Try.prog btAll := ⟨69, Try.f69, Try.f69.body.getD .skip, Try.func69, by kernel_rfl, stat69, has69⟩
noncomputable def row70 : FnRow Try.prog btAll := ⟨70, Try.f70, Try.f70.body.getD .skip, Try.func70, by kernel_rfl, stat70, has70⟩
noncomputable def row71 : FnRow Try.prog btAll := ⟨71, Try.f71, Try.f71.body.getD .skip, Try.func71, by kernel_rfl, stat71, has71⟩
noncomputable def row72 : FnRow Try.prog btAll := ⟨72, Try.f72, Try.f72.body.getD .skip, Try.func72, by kernel_rfl, stat72, has72⟩
noncomputable def row73 : FnRow Try.prog btAll := ⟨73, Try.f73, Try.f73.body.getD .skip, Try.func73, by kernel_rfl, stat73, has73⟩
noncomputable def row74 : FnRow Try.prog btAll := ⟨74, Try.f74, Try.f74.body.getD .skip, Try.func74, by kernel_rfl, stat74, has74⟩
noncomputable def row75 : FnRow Try.prog btAll := ⟨75, Try.f75, Try.f75.body.getD .skip, Try.func75, by kernel_rfl, stat75, has75⟩
noncomputable def row76 : FnRow Try.prog btAll := ⟨76, Try.f76, Try.f76.body.getD .skip, Try.func76, by kernel_rfl, stat76, has76⟩
noncomputable def row77 : FnRow Try.prog btAll := ⟨77, Try.f77, Try.f77.body.getD .skip, Try.func77, by kernel_rfl, stat77, has77⟩
noncomputable def row78 : FnRow Try.prog btAll := ⟨78, Try.f78, Try.f78.body.getD .skip, Try.func78, by kernel_rfl, stat78, has78⟩
noncomputable def row79 : FnRow Try.prog btAll := ⟨79, Try.f79, Try.f79.body.getD .skip, Try.func79, by kernel_rfl, stat79, has79⟩
noncomputable def row80 : FnRow Try.prog btAll := ⟨80, Try.f80, Try.f80.body.getD .skip, Try.func80, by kernel_rfl, stat80, has80⟩
noncomputable def row81 : FnRow Try.prog btAll := ⟨81, Try.f81, Try.f81.body.getD .skip, Try.func81, by kernel_rfl, stat81, has81⟩
noncomputable def row82 : FnRow Try.prog btAll := ⟨82, Try.f82, Try.f82.body.getD .skip, Try.func82, by kernel_rfl, stat82, has82⟩
noncomputable def row83 : FnRow Try.prog btAll := ⟨83, Try.f83, Try.f83.body.getD .skip, Try.func83, by kernel_rfl, stat83, has83⟩
noncomputable def row84 : FnRow Try.prog btAll := ⟨84, Try.f84, Try.f84.body.getD .skip, Try.func84, by kernel_rfl, stat84, has84⟩
noncomputable def row85 : FnRow Try.prog btAll := ⟨85, Try.f85, Try.f85.body.getD .skip, Try.func85, by kernel_rfl, stat85, has85⟩
noncomputable def row86 : FnRow Try.prog btAll := ⟨86, Try.f86, Try.f86.body.getD .skip, Try.func86, by kernel_rfl, stat86, has86⟩
noncomputable def row87 : FnRow Try.prog btAll := ⟨87, Try.f87, Try.f87.body.getD .skip, Try.func87, by kernel_rfl, stat87, has87⟩
noncomputable def row88 : FnRow Try.prog btAll := ⟨88, Try.f88, Try.f88.body.getD .skip, Try.func88, by kernel_rfl, stat88, has88⟩
noncomputable def row89 : FnRow Try.prog btAll := ⟨89, Try.f89, Try.f89.body.getD .skip, Try.func89, by kernel_rfl, stat89, has89⟩
noncomputable def row90 : FnRow Try.prog btAll := ⟨90, Try.f90, Try.f90.body.getD .skip, Try.func90, by kernel_rfl, stat90, has90⟩
noncomputable def row91 : FnRow Try.prog btAll := ⟨91, Try.f91, Try.f91.body.getD .skip, Try.func91, by kernel_rfl, stat91, has91⟩
noncomputable def row92 : FnRow Try.prog btAll := ⟨92, Try.f92, Try.f92.body.getD .skip, Try.func92, by kernel_rfl, stat92, has92⟩
noncomputable def row93 : FnRow Try.prog btAll := ⟨93, Try.f93, Try.f93.body.getD .skip, Try.func93, by kernel_rfl, stat93, has93⟩
noncomputable def row94 : FnRow Try.prog btAll := ⟨94, Try.f94, Try.f94.body.getD .skip, Try.func94, by kernel_rfl, stat94, has94⟩
noncomputable def row95 : FnRow Try.prog btAll := ⟨95, Try.f95, Try.f95.body.getD .skip, Try.func95, by kernel_rfl, stat95, has95⟩
noncomputable def row96 : FnRow Try.prog btAll := ⟨96, Try.f96, Try.f96.body.getD .skip, Try.func96, by kernel_rfl, stat96, has96⟩
noncomputable def row97 : FnRow Try.prog btAll := ⟨97, Try.f97, Try.f97.body.getD .skip, Try.func97, by kernel_rfl, stat97, has97⟩
noncomputable def row98 : FnRow Try.prog btAll := ⟨98, Try.f98, Try.f98.body.getD .skip, Try.func98, by kernel_rfl, stat98, has98⟩
noncomputable def row99 : FnRow Try.prog btAll := ⟨99, Try.f99, Try.f99.body.getD .skip, Try.func99, by kernel_rfl, stat99, has99⟩
noncomputable def row100 : FnRow Try.prog btAll := ⟨100, Try.f100, Try.f100.body.getD .skip, Try.func100, by kernel_rfl, stat100, has100⟩
noncomputable def row101 : FnRow Try.prog btAll := ⟨101, Try.f101, Try.f101.body.getD .skip, Try.func101, by kernel_rfl, stat101, has101⟩
noncomputable def row102 : FnRow Try.prog btAll := ⟨102, Try.f102, Try.f102.body.getD .skip, Try.func102, by kernel_rfl, stat102, has102⟩
noncomputable def row103 : FnRow Try.prog btAll := ⟨103, Try.f103, Try.f103.body.getD .skip, Try.func103, by kernel_rfl, stat103, has103⟩
noncomputable def row104 : FnRow Try.prog btAll := ⟨104, Try.f104, Try.f104.body.getD .skip, Try.func104, by kernel_rfl, stat104, has104⟩
noncomputable def row105 : FnRow Try.prog btAll := ⟨105, Try.f105, Try.f105.body.getD .skip, Try.func105, by kernel_rfl, stat105, has105⟩
noncomputable def row106 : FnRow Try.prog btAll := ⟨106, Try.f106, Try.f106.body.getD .skip, Try.func106, by kernel_rfl, stat106, has106⟩
noncomputable def row107 : FnRow Try.prog btAll := ⟨107, Try.f107, Try.f107.body.getD .skip, Try.func107, by kernel_rfl, stat107, has107⟩
noncomputable def row108 : FnRow Try.prog btAll := ⟨108, Try.f108, Try.f108.body.getD .skip, Try.func108, by kernel_rfl, stat108, has108⟩
noncomputable def row110 : FnRow Try.prog btAll := ⟨110, Try.f110, Try.f110.body.getD .skip, Try.func110, by kernel_rfl, stat110, has110⟩
noncomputable def row111 : FnRow Try.prog btAll := ⟨111, Try.f111, Try.f111.body.getD .skip, Try.func111, by kernel_rfl, stat111, has111⟩
noncomputable def row112 : FnRow Try.prog btAll := ⟨112, Try.f112, Try.f112.body.getD .skip, Try.func112, by kernel_rfl, stat112, has112⟩
noncomputable def row113 : FnRow Try.prog btAll := ⟨113, Try.f113, Try.f113.body.getD .skip, Try.func113, by kernel_rfl, stat113, has113⟩
noncomputable def row114 : FnRow Try.prog btAll := ⟨114, Try.f114, Try.f114.body.getD .skip, Try.func114, by kernel_rfl, stat114, has114⟩
noncomputable def row115 : FnRow Try.prog btAll := ⟨115, Try.f115, Try.f115.body.getD .skip, Try.func115, by kernel_rfl, stat115, has115⟩
noncomputable def row116 : FnRow Try.prog btAll := ⟨116, Try.f116, Try.f116.body.getD .skip, Try.func116, by kernel_rfl, stat116, has116⟩
noncomputable def row117 : FnRow Try.prog btAll := ⟨117, Try.f117, Try.f117.body.getD .skip, Try.func117, by kernel_rfl, stat117, has117⟩
noncomputable def row118 : FnRow Try.prog btAll := ⟨118, Try.f118, Try.f118.body.getD .skip, Try.func118, by kernel_rfl, stat118, has118⟩
noncomputable def row119 : FnRow Try.prog btAll := ⟨119, Try.f119, Try.f119.body.getD .skip, Try.func119, by kernel_rfl, stat119, has119⟩
noncomputable def row120 : FnRow Try.prog btAll := ⟨120, Try.f120, Try.f120.body.getD .skip, Try.func120, by kernel_rfl, stat120, has120⟩
noncomputable def row121 : FnRow Try.prog btAll := ⟨121, Try.f121, Try.f121.body.getD .skip, Try.func121, by kernel_rfl, stat121, has121⟩
noncomputable def row122 : FnRow Try.prog btAll := ⟨122, Try.f122, Try.f122.body.getD .skip, Try.func122, by kernel_rfl, stat122, has122⟩
noncomputable def row123 : FnRow Try.prog btAll := ⟨123, Try.f123, Try.f123.body.getD .skip, Try.func123, by kernel_rfl, stat123, has123⟩
noncomputable def row124 : FnRow Try.prog btAll := ⟨124, Try.f124, Try.f124.body.getD .skip, Try.func124, by kernel_rfl, stat124, has124⟩
noncomputable def row125 : FnRow Try.prog btAll := ⟨125, Try.f125, Try.f125.body.getD .skip, Try.func125, by kernel_rfl, stat125, has125⟩
noncomputable def row126 : FnRow Try.prog btAll := ⟨126, Try.f126, Try.f126.body.getD .skip, Try.func126, by kernel_rfl, stat126, has126⟩
noncomputable def row127 : FnRow Try.prog btAll := ⟨127, Try.f127, Try.f127.body.getD .skip, Try.func127, by kernel_rfl, stat127, has127⟩
noncomputable def row128 : FnRow Try.prog btAll := ⟨128, Try.f128, Try.f128.body.getD .skip, Try.func128, by kernel_rfl, stat128, has128⟩
noncomputable def row129 : FnRow Try.prog btAll := ⟨129, Try.f129, Try.f129.body.getD .skip, Try.func129, by kernel_rfl, stat129, has129⟩
noncomputable def row130 : FnRow Try.prog btAll := ⟨130, Try.f130, Try.f130.body.getD .skip, Try.func130, by kernel_rfl, stat130, has130⟩
noncomputable def row131 : FnRow Try.prog btAll := ⟨131, Try.f131, Try.f131.body.getD .skip, Try.func131, by kernel_rfl, stat131, has131⟩
noncomputable def row132 : FnRow Try.prog btAll := ⟨132, Try.f132, Try.f132.body.getD .skip, Try.func132, by kernel_rfl, stat132, has132⟩
noncomputable def row133 : FnRow Try.prog btAll := ⟨133, Try.f133, Try.f133.body.getD .skip, Try.func133, by kernel_rfl, stat133, has133⟩
noncomputable def row134 : FnRow Try.prog btAll := ⟨134, Try.f134, Try.f134.body.getD .skip, Try.func134, by kernel_rfl, stat134, has134⟩
noncomputable def row135 : FnRow Try.prog btAll := ⟨135, Try.f135, Try.f135.body.getD .skip, Try.func135, by kernel_rfl, stat135, has135⟩
noncomputable def row136 : FnRow Try.prog btAll := ⟨136, Try.f136, Try.f136.body.getD .skip, Try.func136, by kernel_rfl, stat136, has136⟩
noncomputable def row137 : FnRow Try.prog btAll := ⟨137, Try.f137, Try.f137.body.getD .skip, Try.func137, by kernel_rfl, stat137, has137⟩
noncomputable def row138 : FnRow Try.prog btAll := ⟨138, Try.f138, Try.f138.body.getD .skip, Try.func138, by kernel_rfl, stat138, has138⟩
noncomputable def row139 : FnRow Try.prog btAll := ⟨139, Try.f139, Try.f139.body.getD .skip, Try.func139, by kernel_rfl, stat139, has139⟩
noncomputable def row140 : FnRow Try.prog btAll := ⟨140, Try.f140, Try.f140.body.getD .skip, Try.func140, by kernel_rfl, stat140, has140⟩
noncomputable def row141 : FnRow Try.prog btAll := ⟨141, Try.f141, Try.f141.body.getD .skip, Try.func141, by kernel_rfl, stat141, has141⟩
noncomputable def row144 : FnRow Try.prog btAll := ⟨144, Try.f144, Try.f144.body.getD .skip, Try.func144, by kernel_rfl, stat144, has144⟩
noncomputable def row145 : FnRow Try.prog btAll := ⟨145, Try.f145, Try.f145.body.getD .skip, Try.func145, by kernel_rfl, stat145, has145⟩
noncomputable def row146 : FnRow Try.prog btAll := ⟨146, Try.f146, Try.f146.body.getD .skip, Try.func146, by kernel_rfl, stat146, has146⟩
noncomputable def row147 : FnRow Try.prog btAll := ⟨147, Try.f147, Try.f147.body.getD .skip, Try.func147, by kernel_rfl, stat147, has147⟩
noncomputable def row148 : FnRow Try.prog btAll := ⟨148, Try.f148, Try.f148.body.getD .skip, Try.func148, by kernel_rfl, stat148, has148⟩
noncomputable def row149 : FnRow Try.prog btAll := ⟨149, Try.f149, Try.f149.body.getD .skip, Try.func149, by kernel_rfl, stat149, has149⟩
noncomputable def row150 : FnRow Try.prog btAll := ⟨150, Try.f150, Try.f150.body.getD .skip, Try.func150, by kernel_rfl, stat150, has150⟩
noncomputable def row151 : FnRow Try.prog btAll := ⟨151, Try.f151, Try.f151.body.getD .skip, Try.func151, by kernel_rfl, stat151, has151⟩
noncomputable def row152 : FnRow Try.prog btAll := ⟨152, Try.f152, Try.f152.body.getD .skip, Try.func152, by kernel_rfl, stat152, has152⟩
noncomputable def row153 : FnRow Try.prog btAll := ⟨153, Try.f153, Try.f153.body.getD .skip, Try.func153, by kernel_rfl, stat153, has153⟩
noncomputable def row154 : FnRow Try.prog btAll := ⟨154, Try.f154, Try.f154.body.getD .skip, Try.func154, by kernel_rfl, stat154, has154⟩
noncomputable def row155 : FnRow Try.prog btAll := ⟨155, Try.f155, Try.f155.body.getD .skip, Try.func155, by kernel_rfl, stat155, has155⟩
noncomputable def row156 : FnRow Try.prog btAll := ⟨156, Try.f156, Try.f156.body.getD .skip, Try.func156, by kernel_rfl, stat156, has156⟩
noncomputable def row157 : FnRow Try.prog btAll := ⟨157, Try.f157, Try.f157.body.getD .skip, Try.func157, by kernel_rfl, stat157, has157⟩
noncomputable def row158 : FnRow Try.prog btAll := ⟨158, Try.f158, Try.f158.body.getD .skip, Try.func158, by kernel_rfl, stat158, has158⟩
noncomputable def row159 : FnRow Try.prog btAll := ⟨159, Try.f159, Try.f159.body.getD .skip, Try.func159, by kernel_rfl, stat159, has159⟩
noncomputable def row160 : FnRow Try.prog btAll := ⟨160, Try.f160, Try.f160.body.getD .skip, Try.func160, by kernel_rfl, stat160, has160⟩
noncomputable def row161 : FnRow Try.prog btAll := ⟨161, Try.f161, Try.f161.body.getD .skip, Try.func161, by kernel_rfl, stat161, has161⟩
noncomputable def row162 : FnRow Try.prog btAll := ⟨162, Try.f162, Try.f162.body.getD .skip, Try.func162, by kernel_rfl, stat162, has162⟩
noncomputable def row163 : FnRow Try.prog btAll := ⟨163, Try.f163, Try.f163.body.getD .skip, Try.func163, by kernel_rfl, stat163, has163⟩
noncomputable def row164 : FnRow Try.prog btAll := ⟨164, Try.f164, Try.f164.body.getD .skip, Try.func164, by kernel_rfl, stat164, has164⟩
noncomputable def row165 : FnRow Try.prog btAll := ⟨165, Try.f165, Try.f165.body.getD .skip, Try.func165, by kernel_rfl, stat165, has165⟩
noncomputable def row166 : FnRow Try.prog btAll := ⟨166, Try.f166, Try.f166.body.getD .skip, Try.func166, by kernel_rfl, stat166, has166⟩

noncomputable def fnTree : BT (FnRow Try.prog btAll) := (.node (.node (.node (.node (.node (.node (.node (.node .leaf none (.node .leaf (some row128) .leaf)) none (.node .leaf (some row64) .leaf)) none (.node (.node .leaf none (.node .leaf (some row160) .leaf)) (some row32) (.node .leaf (some row96) .leaf))) none (.node (.node (.node .leaf none (.node .leaf (some row144) .leaf)) none (.node .leaf (some row80) .leaf)) (some row16) (.node .leaf (some row48) (.node .leaf (some row112) .leaf)))) none (.node (.node (.node (.node .leaf none (.node .leaf (some row136) .leaf)) none (.node .leaf (some row72) .leaf)) none (.node .leaf (some row40) (.node .leaf (some row104) .leaf))) (some row8) (.node (.node (.node .leaf none (.node .leaf (some row152) .leaf)) none (.node .leaf (some row88) .leaf)) (some row24) (.node .leaf (some row56) (.node .leaf (some row120) .leaf))))) none (.node (.node (.node (.node (.node .leaf none (.node .leaf (some row132) .leaf)) none (.node .leaf (some row68) .leaf)) none (.node (.node .leaf none (.node .leaf (some row164) .leaf)) (some row36) (.node .leaf (some row100) .leaf))) none (.node (.node (.node .leaf none (.node .leaf (some row148) .leaf)) none (.node .leaf (some row84) .leaf)) (some row20) (.node .leaf (some row52) (.node .leaf (some row116) .leaf)))) (some row4) (.node (.node (.node (.node .leaf none (.node .leaf (some row140) .leaf)) none (.node .leaf (some row76) .leaf)) none (.node .leaf (some row44) (.node .leaf (some row108) .leaf))) (some row12) (.node (.node (.node .leaf none (.node .leaf (some row156) .leaf)) none (.node .leaf (some row92) .leaf)) (some row28) (.node .leaf (some row60) (.node .leaf (some row124) .leaf)))))) none (.node (.node (.node (.node (.node (.node .leaf none (.node .leaf (some row130) .leaf)) none (.node .leaf (some row66) .leaf)) none (.node (.node .leaf none (.node .leaf (some row162) .leaf)) (some row34) (.node .leaf (some row98) .leaf))) none (.node (.node (.node .leaf none (.node .leaf (some row146) .leaf)) none (.node .leaf (some row82) .leaf)) (some row18) (.node .leaf (some row50) (.node .leaf (some row114) .leaf)))) none (.node (.node (.node (.node .leaf none (.node .leaf (some row138) .leaf)) none (.node .leaf (some row74) .leaf)) none (.node .leaf (some row42) (.node .leaf (some row106) .leaf))) (some row10) (.node (.node (.node .leaf none (.node .leaf (some row154) .leaf)) none (.node .leaf (some row90) .leaf)) (some row26) (.node .leaf (some row58) (.node .leaf (some row122) .leaf))))) (some row2) (.node (.node (.node (.node (.node .leaf none (.node .leaf (some row134) .leaf)) none (.node .leaf (some row70) .leaf)) none (.node (.node .leaf none (.node .leaf (some row166) .leaf)) (some row38) (.node .leaf (some row102) .leaf))) none (.node (.node (.node .leaf none (.node .leaf (some row150) .leaf)) none (.node .leaf (some row86) .leaf)) (some row22) (.node .leaf (some row54) (.node .leaf (some row118) .leaf)))) (some row6) (.node (.node (.node .leaf none (.node .leaf (some row78) .leaf)) none (.node .leaf (some row46) (.node .leaf (some row110) .leaf))) (some row14) (.node (.node (.node .leaf none (.node .leaf (some row158) .leaf)) none (.node .leaf (some row94) .leaf)) (some row30) (.node .leaf (some row62) (.node .leaf (some row126) .leaf))))))) none (.node (.node (.node (.node (.node (.node (.node .leaf none (.node .leaf (some row129) .leaf)) none (.node .leaf (some row65) .leaf)) none (.node (.node .leaf none (.node .leaf (some row161) .leaf)) (some row33) (.node .leaf (some row97) .leaf))) none (.node (.node (.node .leaf none (.node .leaf (some row145) .leaf)) none (.node .leaf (some row81) .leaf)) (some row17) (.node .leaf (some row49) (.node .leaf (some row113) .leaf)))) none (.node (.node (.node (.node .leaf none (.node .leaf (some row137) .leaf)) none (.node .leaf (some row73) .leaf)) none (.node .leaf (some row41) (.node .leaf (some row105) .leaf))) (some row9) (.node (.node (.node .leaf none (.node .leaf (some row153) .leaf)) none (.node .leaf (some row89) .leaf)) (some row25) (.node .leaf (some row57) (.node .leaf (some row121) .leaf))))) none (.node (.node (.node (.node (.node .leaf none (.node .leaf (some row133) .leaf)) none (.node .leaf (some row69) .leaf)) none (.node (.node .leaf none (.node .leaf (some row165) .leaf)) (some row37) (.node .leaf (some row101) .leaf))) none (.node (.node (.node .leaf none (.node .leaf (some row149) .leaf)) none (.node .leaf (some row85) .leaf)) (some row21) (.node .leaf (some row53) (.node .leaf (some row117) .leaf)))) (some row5) (.node (.node (.node (.node .leaf none (.node .leaf (some row141) .leaf)) none (.node .leaf (some row77) .leaf)) none (.node .leaf (some row45) .leaf)) (some row13) (.node (.node (.node .leaf none (.node .leaf (some row157) .leaf)) none (.node .leaf (some row93) .leaf)) (some row29) (.node .leaf (some row61) (.node .leaf (some row125) .leaf)))))) none (.node (.node (.node (.node (.node (.node .leaf none (.node .leaf (some row131) .leaf)) none (.node .leaf (some row67) .leaf)) none (.node (.node .leaf none (.node .leaf (some row163) .leaf)) (some row35) (.node .leaf (some row99) .leaf))) none (.node (.node (.node .leaf none (.node .leaf (some row147) .leaf)) none (.node .leaf (some row83) .leaf)) (some row19) (.node .leaf (some row51) (.node .leaf (some row115) .leaf)))) none (.node (.node (.node (.node .leaf none (.node .leaf (some row139) .leaf)) none (.node .leaf (some row75) .leaf)) none (.node .leaf (some row43) (.node .leaf (some row107) .leaf))) (some row11) (.node (.node (.node .leaf none (.node .leaf (some row155) .leaf)) none (.node .leaf (some row91) .leaf)) (some row27) (.node .leaf (some row59) (.node .leaf (some row123) .leaf))))) (some row3) (.node (.node (.node (.node (.node .leaf none (.node .leaf (some row135) .leaf)) none (.node .leaf (some row71) .leaf)) none (.node .leaf (some row39) (.node .leaf (some row103) .leaf))) none (.node (.node (.node .leaf none (.node .leaf (some row151) .leaf)) none (.node .leaf (some row87) .leaf)) (some row23) (.node .leaf (some row55) (.node .leaf (some row119) .leaf)))) (some row7) (.node (.node (.node .leaf none (.node .leaf (some row79) .leaf)) none (.node .leaf (some row47) (.node .leaf (some row111) .leaf))) (some row15) (.node (.node (.node .leaf none (.node .leaf (some row159) .leaf)) none (.node .leaf (some row95) .leaf)) (some row31) (.node .leaf (some row63) (.node .leaf (some row127) .leaf))))))))

noncomputable def fnAt (f : FuncId) : Option (FnRow Try.prog btAll) := fnTree.get (bits f f)
noncomputable def fnIs (f : FuncId) : Bool :=
  match fnAt f with
  | some r => Nat.beq r.num f
  | none => false
theorem fnIs_ok (f : FuncId) (h : fnIs f = true) : HasBody Try.prog f := by
  unfold fnIs at h
  split at h
  · rename_i r _
    rw [← Nat.eq_of_beq_eq_true h]
    exact r.has
  · cases h

theorem drawnMixed : Try.prog.follows .mixedOrders = true := by kernel_rfl

noncomputable def cT : Cx := { T := { info := tyAt, flat := flats Try.prog, ext := extAt }, bodies := fnIs }
theorem cT_ok : cT.Ok Try.prog := ⟨⟨tyAt_ok, cP_ok.T.flat, extAt_ok⟩, fnIs_ok⟩

/-- A whole call, from nothing. -/
noncomputable def whole (n d : Nat) (f : FuncId) (args : List Value) : Option (AE × St × Log) := (orcN cT btAll fnAt n d).call f args St.nil

def answers : Option (AE × St × Log) → Option Value
  | some (.ret v, _, _) => some v
  | _ => none

theorem whole_call {n d : Nat} {f : FuncId} {args : List Value} {v : Value} (h : answers (whole n d f args) = some v) (ha : plainL args = true) (hv : plain v = true) (σ : St) : DCall Try.prog f args σ (.ret v) σ [] := by
  unfold answers at h
  split at h
  · rename_i v' σ' lg hw
    cases h
    exact ((orcN_ok cT_ok drawnMixed d).call f args St.nil _ σ' lg hw).alone ha hv σ
  · cases h

end Go.Ab

set_option linter.unusedSimpArgs false
set_option linter.unusedVariables false
namespace Go.Ab
open Go.Proofs

theorem known_call4 (σ : St) : DCall Try.prog 12 [] σ (.ret (.bool true)) σ [] := whole_call (n := 300) (d := 30) (by kernel_rfl) rfl rfl σ

theorem HE.of_new4 (σ : St) : HE ((σ.new (.map [] 0)).new (.cells [.map (some σ.next), .slice none 0 0, .int .i64 0] false)) (σ.next + 1) σ.next 0 where
  gh := by rw [St.get_new, if_pos (by rfl)]
  gm := ⟨0, by rw [St.get_new, if_neg (by simp), St.get_new, if_pos rfl]⟩
  ne := by omega
  lt := ⟨by simp, by simp only [St.next_new]; omega⟩

theorem ends4 {ts : List Value} {σ : St} {lg : Log} {x : AX} (hx : x = .norm ∨ x = .ret) (h2 : lget ts 2 = .bool true) : endsA (cP Try.prog).T Try.f4.results.toList ⟨x, ⟨ts, []⟩, σ, lg⟩ = some (.ret (.bool true)) := by
  rcases hx with rfl | rfl <;> simp only [endsA, Try.f4, resA, resList, resOne, h2, Option.map]

set_option maxRecDepth 20000 in
theorem drains_call {sa : Option Addr} {len cap : Nat} {vs : List Value} {σ : St} (hcap : len ≤ 9223372036854775807) (hol : ∀ σ, opLen (cP Try.prog).T σ 36 (.slice sa len cap) = some (.val (.int .i64 (len : Int)) [])) (K : ActsIn σ sa len vs) (hlo : 0 < len → 0 < σ.next) :
    ∃ σ' lg, DCall Try.prog 4 [.slice sa len cap] σ (.ret (.bool true)) σ' lg ∧ From σ.next lg := by
  obtain ⟨ts0, h0, l0, q0⟩ : ∃ ts0, start [.slice sa len cap] Try.f4.ntmps = ⟨ts0, []⟩ ∧ ts0.length = 114 ∧ lget ts0 0 = .slice sa len cap :=
    ⟨(start [.slice sa len cap] 114).ts, rfl, rfl, rfl⟩
  obtain ⟨ts1, r1, l1, a0⟩ : ∃ ts1, DC Try.prog false (nthC 0 drainsB) ⟨ts0, []⟩ σ ⟨.norm, ⟨ts1, []⟩, σ, []⟩ ∧ ts1.length = 114 ∧ lget ts1 0 = .slice sa len cap := by
    refine ⟨_, runs Orc.none_ok 30 nobt (by kernel_rfl) (by simp only [go_sem, Nat.reducePow, Nat.reduceDiv, Nat.reduceMod, Nat.reduceAdd, Nat.reduceSub, Nat.reduceMul, Nat.reduceLeDiff, Nat.reduceLT, Nat.reduceEqDiff, reduceCtorEq, reduceIte, reduceDIte, if_pos rfl, Int.reduceLT, Int.reduceLE, Int.reduceEq, Int.reduceNeg, Int.reduceAdd, Int.reduceSub, Int.reduceMul, Int.reduceToNat, drainsB, nthC, Option.getD, lget_put, lgetq_put, List.length_set, q0, l0, Try.f4, Try.underlying2, info2, Try.t2, Try.underlying3, info3, Try.t3, Try.underlying4, info4, Try.t4, Try.underlying24, info24, Try.t24, Try.underlying28, info28, Try.t28] <;> rfl), ?_, ?_⟩
    · simp only [List.length_set, l0]
    · simp only [lget_put, List.length_set, q0, l0, Nat.reduceEqDiff, Nat.reduceLT, if_true, if_false]
  by_cases hb : 60 < len
  · have b1 : (60 : Int) < (len : Int) := by omega
    obtain ⟨ts2, r2, a4⟩ : ∃ ts2, DC Try.prog false (nthC 1 drainsB) ⟨ts1, []⟩ σ ⟨.ret, ⟨ts2, []⟩, σ, []⟩ ∧ lget ts2 2 = .bool true := by
      refine ⟨_, runs (one_ok' Orc.none_ok (known_call4 σ)) 30 nobt (by kernel_rfl) (by simp only [go_sem, Nat.reducePow, Nat.reduceDiv, Nat.reduceMod, Nat.reduceAdd, Nat.reduceSub, Nat.reduceMul, Nat.reduceLeDiff, Nat.reduceLT, Nat.reduceEqDiff, reduceCtorEq, reduceIte, reduceDIte, if_pos rfl, Int.reduceLT, Int.reduceLE, Int.reduceEq, Int.reduceNeg, Int.reduceAdd, Int.reduceSub, Int.reduceMul, Int.reduceToNat, drainsB, nthC, Option.getD, Orc.one_call, lget_put, lgetq_put, List.length_set, a0, l1, hol, b1, Try.f4, Try.underlying2, info2, Try.t2, Try.underlying3, info3, Try.t3, Try.underlying4, info4, Try.t4, Try.underlying24, info24, Try.t24, Try.underlying28, info28, Try.t28, body12] <;> rfl), ?_⟩
      simp only [lget_put, List.length_set, l1, Nat.reduceEqDiff, Nat.reduceLT, if_true, if_false]
    exact ⟨σ, _, callsD Try.func4 drainsB_is (h0 ▸ DC.seq r1 rfl (DC.seq_out r2 rfl)) (ends4 (.inr rfl) a4) rfl rfl, From.nil⟩
  · have b1 : ¬ (60 : Int) < (len : Int) := by omega
    obtain ⟨ts2, r2, l2, b0⟩ : ∃ ts2, DC Try.prog false (nthC 1 drainsB) ⟨ts1, []⟩ σ ⟨.norm, ⟨ts2, []⟩, σ, []⟩ ∧ ts2.length = 114 ∧ lget ts2 0 = .slice sa len cap := by
      refine ⟨_, runs Orc.none_ok 30 nobt (by kernel_rfl) (by simp only [go_sem, Nat.reducePow, Nat.reduceDiv, Nat.reduceMod, Nat.reduceAdd, Nat.reduceSub, Nat.reduceMul, Nat.reduceLeDiff, Nat.reduceLT, Nat.reduceEqDiff, reduceCtorEq, reduceIte, reduceDIte, if_pos rfl, Int.reduceLT, Int.reduceLE, Int.reduceEq, Int.reduceNeg, Int.reduceAdd, Int.reduceSub, Int.reduceMul, Int.reduceToNat, drainsB, nthC, Option.getD, lget_put, lgetq_put, List.length_set, a0, l1, hol, b1, Try.f4, Try.underlying2, info2, Try.t2, Try.underlying3, info3, Try.t3, Try.underlying4, info4, Try.t4, Try.underlying24, info24, Try.t24, Try.underlying28, info28, Try.t28] <;> rfl), ?_, ?_⟩
      · simp only [List.length_set, l1]
      · simp only [lget_put, List.length_set, a0, l1, Nat.reduceEqDiff, Nat.reduceLT, if_true, if_false]
    have dn := new_call σ
    let σ2 := (σ.new (.map [] 0)).new (.cells [.map (some σ.next), .slice none 0 0, .int .i64 0] false)
    obtain ⟨ts3, r3, F3⟩ : ∃ ts3, DC Try.prog false (nthC 2 drainsB) ⟨ts2, []⟩ σ ⟨.norm, ⟨ts3, []⟩, σ2, []⟩ ∧ EF ts3 sa len cap (σ.next + 1) := by
      refine ⟨_, runs (one_ok' Orc.none_ok dn) 30 nobt (by kernel_rfl) (by simp only [go_sem, Nat.reducePow, Nat.reduceDiv, Nat.reduceMod, Nat.reduceAdd, Nat.reduceSub, Nat.reduceMul, Nat.reduceLeDiff, Nat.reduceLT, Nat.reduceEqDiff, reduceCtorEq, reduceIte, reduceDIte, if_pos rfl, Int.reduceLT, Int.reduceLE, Int.reduceEq, Int.reduceNeg, Int.reduceAdd, Int.reduceSub, Int.reduceMul, Int.reduceToNat, σ2, drainsB, nthC, Option.getD, Orc.one_call, lget_put, lgetq_put, List.length_set, b0, l2, Try.f4, Try.underlying2, info2, Try.t2, Try.underlying3, info3, Try.t3, Try.underlying4, info4, Try.t4, Try.underlying24, info24, Try.t24, Try.underlying26, info26, Try.t26, Try.underlying28, info28, Try.t28, body13] <;> rfl), ?_⟩
      constructor <;> simp only [lget_put, List.length_set, b0, l2, Nat.reduceEqDiff, Nat.reduceLT, if_true, if_false, St.next_new]
    have e0 := F3.t0
    have e3 := F3.t3
    have el := F3.size
    obtain ⟨ts4, r4, F4, t4⟩ : ∃ ts4, DC Try.prog false (nthC 0 (nthC 3 drainsB)) ⟨ts3, []⟩ σ2 ⟨.norm, ⟨ts4, []⟩, σ2, []⟩ ∧ EF ts4 sa len cap (σ.next + 1) ∧ lget ts4 4 = .int .i64 (0 : Nat) := by
      refine ⟨_, runs Orc.none_ok 30 nobt (by kernel_rfl) (by simp only [go_sem, Nat.reducePow, Nat.reduceDiv, Nat.reduceMod, Nat.reduceAdd, Nat.reduceSub, Nat.reduceMul, Nat.reduceLeDiff, Nat.reduceLT, Nat.reduceEqDiff, reduceCtorEq, reduceIte, reduceDIte, if_pos rfl, Int.reduceLT, Int.reduceLE, Int.reduceEq, Int.reduceNeg, Int.reduceAdd, Int.reduceSub, Int.reduceMul, Int.reduceToNat, drainsB, nthC, Option.getD, lget_put, lgetq_put, List.length_set, el, Try.f4, Try.underlying2, info2, Try.t2, Try.underlying3, info3, Try.t3, Try.underlying4, info4, Try.t4, Try.underlying24, info24, Try.t24, Try.underlying28, info28, Try.t28] <;> rfl), ?_, ?_⟩
      · constructor <;> simp only [lget_put, List.length_set, e0, e3, el, Nat.reduceEqDiff, Nat.reduceLT, if_true, if_false]
      · simp only [lget_put, List.length_set, el, Nat.reduceEqDiff, Nat.reduceLT, if_true, if_false, Int.natCast_zero]
    have H2 : HV σ2 σ.next (σ.next + 1) σ.next [] 0 := ⟨by omega, by omega, by show σ.next ≤ σ.next + 1 + 1; omega, .inl ⟨rfl, HE.of_new4 σ⟩⟩
    have K2 : ActsIn σ2 sa len vs := K.keep fun hl => by
      have := hlo hl
      show ((σ.new _).new _).get 0 = _
      rw [St.get_new, if_neg (by show ¬ σ.next + 1 = 0; omega), St.get_new, if_neg (by omega)]
    obtain ⟨σ3, lg3, ts5, L, t, d3, F5, H3, I3, f3⟩ := drains_loop0 (by omega) hlo hol (len + 1) 0 [] 0 σ2 ts4 (by omega) (by omega) F4 t4 K2 H2 I4.nil
    have dl := len_hv H3
    have e3 := F5.t3
    have el := F5.size
    obtain ⟨ts6, r6, l6, a3, a5⟩ : ∃ ts6, DC Try.prog false (nthC 4 drainsB) ⟨ts5, []⟩ σ3 ⟨.norm, ⟨ts6, []⟩, σ3, []⟩ ∧ ts6.length = 114 ∧ lget ts6 3 = .pointer (some ⟨σ.next + 1, 0, none⟩) ∧ lget ts6 5 = .int .i64 L.length := by
      refine ⟨_, runs (one_ok' Orc.none_ok dl) 30 nobt (by kernel_rfl) (by simp only [go_sem, Nat.reducePow, Nat.reduceDiv, Nat.reduceMod, Nat.reduceAdd, Nat.reduceSub, Nat.reduceMul, Nat.reduceLeDiff, Nat.reduceLT, Nat.reduceEqDiff, reduceCtorEq, reduceIte, reduceDIte, if_pos rfl, Int.reduceLT, Int.reduceLE, Int.reduceEq, Int.reduceNeg, Int.reduceAdd, Int.reduceSub, Int.reduceMul, Int.reduceToNat, drainsB, nthC, Option.getD, Orc.one_call, lget_put, lgetq_put, List.length_set, e3, el, Try.f4, Try.underlying2, info2, Try.t2, Try.underlying3, info3, Try.t3, Try.underlying4, info4, Try.t4, Try.underlying24, info24, Try.t24, Try.underlying26, info26, Try.t26, Try.underlying28, info28, Try.t28, body17] <;> rfl), ?_, ?_, ?_⟩
      · simp only [List.length_set, el]
      · simp only [lget_put, List.length_set, e3, el, Nat.reduceEqDiff, Nat.reduceLT, if_true, if_false]
      · simp only [lget_put, List.length_set, e3, el, Nat.reduceEqDiff, Nat.reduceLT, if_true, if_false]
    let σ4 := (σ3.new (.cells [.int .i64 0, .int .i64 0, .int .i64 0, .int .i64 0] false)).set σ3.next (.cells [.int .i64 0, .int .i64 0, .int .i64 0, .int .i64 0] false)
    obtain ⟨ts7, lg7, r7, l7, c3, c5, c6, f7⟩ : ∃ ts7 lg7, DC Try.prog false (nthC 5 drainsB) ⟨ts6, []⟩ σ3 ⟨.norm, ⟨ts7, []⟩, σ4, lg7⟩ ∧ ts7.length = 114 ∧ lget ts7 3 = .pointer (some ⟨σ.next + 1, 0, none⟩) ∧ lget ts7 5 = .int .i64 L.length ∧ lget ts7 6 = .pointer (some ⟨σ3.next, 0, none⟩) ∧ From σ.next lg7 := by
      refine ⟨_, _, runs Orc.none_ok 30 nobt (by kernel_rfl) (by simp only [go_sem, Nat.reducePow, Nat.reduceDiv, Nat.reduceMod, Nat.reduceAdd, Nat.reduceSub, Nat.reduceMul, Nat.reduceLeDiff, Nat.reduceLT, Nat.reduceEqDiff, reduceCtorEq, reduceIte, reduceDIte, if_pos rfl, Int.reduceLT, Int.reduceLE, Int.reduceEq, Int.reduceNeg, Int.reduceAdd, Int.reduceSub, Int.reduceMul, Int.reduceToNat, σ4, drainsB, nthC, Option.getD, lget_put, lgetq_put, List.length_set, l6, Try.f4, Try.underlying2, info2, Try.t2, Try.underlying3, info3, Try.t3, Try.underlying4, info4, Try.t4, Try.underlying24, info24, Try.t24, Try.underlying26, info26, Try.t26, Try.underlying28, info28, Try.t28, Try.underlying30, info30, Try.t30, Try.underlying31, info31, Try.t31] <;> rfl), ?_, ?_, ?_, ?_, fun c hc => ?_⟩
      · simp only [List.length_set, l6]
      · simp only [lget_put, List.length_set, a3, l6, Nat.reduceEqDiff, Nat.reduceLT, if_true, if_false]
      · simp only [lget_put, List.length_set, a5, l6, Nat.reduceEqDiff, Nat.reduceLT, if_true, if_false]
      · simp only [lget_put, List.length_set, l6, Nat.reduceEqDiff, Nat.reduceLT, if_true, if_false]
      · have := H3.2.2.1
        simp at hc
        omega
    obtain ⟨ts8, r8, G8⟩ : ∃ ts8, DC Try.prog false (nthC 0 (nthC 6 drainsB)) ⟨ts7, []⟩ σ4 ⟨.norm, ⟨ts8, []⟩, σ4, []⟩ ∧ GF ts8 (σ.next + 1) L.length σ3.next 0 := by
      refine ⟨_, runs Orc.none_ok 30 nobt (by kernel_rfl) (by simp only [go_sem, Nat.reducePow, Nat.reduceDiv, Nat.reduceMod, Nat.reduceAdd, Nat.reduceSub, Nat.reduceMul, Nat.reduceLeDiff, Nat.reduceLT, Nat.reduceEqDiff, reduceCtorEq, reduceIte, reduceDIte, if_pos rfl, Int.reduceLT, Int.reduceLE, Int.reduceEq, Int.reduceNeg, Int.reduceAdd, Int.reduceSub, Int.reduceMul, Int.reduceToNat, drainsB, nthC, Option.getD, lget_put, lgetq_put, List.length_set, l7, Try.f4, Try.underlying2, info2, Try.t2, Try.underlying3, info3, Try.t3, Try.underlying4, info4, Try.t4, Try.underlying24, info24, Try.t24, Try.underlying28, info28, Try.t28] <;> rfl), ?_⟩
      constructor <;> simp only [lget_put, List.length_set, c3, c5, c6, l7, Nat.reduceEqDiff, Nat.reduceLT, if_true, if_false, Int.natCast_zero]
    have H4 : HB σ4 σ.next σ3.next (σ.next + 1) σ.next L t := H3.toB.new.setp (Nat.le_refl _)
    have g4 : σ4.get σ3.next = some (.cells [.int .i64 0, .int .i64 0, .int .i64 0, .int .i64 0] false) := by
      show (St.set _ _ _).get _ = _
      rw [St.get_set, if_pos rfl]
    obtain ⟨σ5, lg5, ts9, d5, l9, z3, H5, f5⟩ := drains_loop1 (by have := I3.len; omega) (L.length + 1) 0 L ⟨0, 0, 0, 0⟩ σ4 ts8 (by omega) (by omega) G8 (Nat.lt_succ_self _) g4 H4 (I3.drain _) (fun h => absurd h (by omega))
    obtain ⟨σ6, d6⟩ := take_empty H5
    obtain ⟨n6, s6⟩ := same_of d6
    let σ7 := (σ6.new (.cells [.int .i64 0, .int .i64 0, .int .i64 0, .int .i64 0] false)).set σ6.next (.cells [.int .i64 0, .int .i64 0, .int .i64 0, .int .i64 0] false)
    have lo6 : σ.next ≤ σ6.next := Nat.le_trans H5.2.2.1 n6
    obtain ⟨ts10, lg10, r10, l10, y3, y15, f10⟩ : ∃ ts10 lg10, DC Try.prog false (nthC 7 drainsB) ⟨ts9, []⟩ σ5 ⟨.norm, ⟨ts10, []⟩, σ7, lg10⟩ ∧ ts10.length = 114 ∧ lget ts10 3 = .pointer (some ⟨σ.next + 1, 0, none⟩) ∧ lget ts10 15 = .bool false ∧ From σ.next lg10 := by
      refine ⟨_, _, runs (one_ok' Orc.none_ok d6) 30 nobt (by kernel_rfl) (by simp only [go_sem, Nat.reducePow, Nat.reduceDiv, Nat.reduceMod, Nat.reduceAdd, Nat.reduceSub, Nat.reduceMul, Nat.reduceLeDiff, Nat.reduceLT, Nat.reduceEqDiff, reduceCtorEq, reduceIte, reduceDIte, if_pos rfl, Int.reduceLT, Int.reduceLE, Int.reduceEq, Int.reduceNeg, Int.reduceAdd, Int.reduceSub, Int.reduceMul, Int.reduceToNat, σ7, drainsB, nthC, Option.getD, Orc.one_call, lget_put, lgetq_put, List.length_set, z3, l9, Try.f4, Try.underlying2, info2, Try.t2, Try.underlying3, info3, Try.t3, Try.underlying4, info4, Try.t4, Try.underlying24, info24, Try.t24, Try.underlying26, info26, Try.t26, Try.underlying28, info28, Try.t28, Try.underlying30, info30, Try.t30, Try.underlying31, info31, Try.t31, Try.underlying32, info32, Try.t32, body16] <;> rfl), ?_, ?_, ?_, fun c hc => ?_⟩
      · simp only [List.length_set, l9]
      · simp only [lget_put, List.length_set, z3, l9, Nat.reduceEqDiff, Nat.reduceLT, if_true, if_false]
      · simp only [lget_put, List.length_set, l9, Nat.reduceEqDiff, Nat.reduceLT, if_true, if_false]
      · simp at hc
        omega
    have H7 : HV σ7 σ.next (σ.next + 1) σ.next [] t := ((H5.grow n6 s6).toB.new.setp (Nat.le_refl _)).toV
    have dl7 := len_hv H7
    simp only [List.length_nil, Int.natCast_zero] at dl7
    obtain ⟨ts11, r11, x2⟩ : ∃ ts11, DC Try.prog false (nthC 8 drainsB) ⟨ts10, []⟩ σ7 ⟨.norm, ⟨ts11, []⟩, σ7, []⟩ ∧ lget ts11 2 = .bool true := by
      refine ⟨_, runs (one_ok' (one_ok' Orc.none_ok (known_call4 σ7)) dl7) 30 nobt (by kernel_rfl) (by simp only [go_sem, Nat.reducePow, Nat.reduceDiv, Nat.reduceMod, Nat.reduceAdd, Nat.reduceSub, Nat.reduceMul, Nat.reduceLeDiff, Nat.reduceLT, Nat.reduceEqDiff, reduceCtorEq, reduceIte, reduceDIte, if_pos rfl, Int.reduceLT, Int.reduceLE, Int.reduceEq, Int.reduceNeg, Int.reduceAdd, Int.reduceSub, Int.reduceMul, Int.reduceToNat, drainsB, nthC, Option.getD, one_other, Orc.one_call, lget_put, lgetq_put, List.length_set, y3, y15, l10, Try.f4, Try.underlying2, info2, Try.t2, Try.underlying3, info3, Try.t3, Try.underlying4, info4, Try.t4, Try.underlying24, info24, Try.t24, Try.underlying26, info26, Try.t26, Try.underlying28, info28, Try.t28, body12, body17] <;> rfl), ?_⟩
      simp only [lget_put, List.length_set, l10, Nat.reduceEqDiff, Nat.reduceLT, if_true, if_false]
    exact ⟨σ7, _, callsD Try.func4 drainsB_is (h0 ▸ DC.seq r1 rfl (DC.seq r2 rfl (DC.seq r3 rfl (DC.seq (DC.seq r4 rfl (DC.block (DC.loop d3))) rfl (DC.seq r6 rfl (DC.seq r7 rfl (DC.seq (DC.seq r8 rfl (DC.block (DC.loop d5))) rfl (DC.seq r10 rfl (DC.seq r11 rfl (DC.ret _ _ _)))))))))) (ends4 (.inr rfl) x2) rfl rfl,
      From.nil.append (From.nil.append (From.nil.append ((From.nil.append f3).append (From.nil.append (f7.append ((From.nil.append f5).append (f10.append (From.nil.append From.nil))))))))⟩

end Go.Ab

set_option linter.unusedSimpArgs false
set_option linter.unusedVariables false
namespace Go.Proofs.Ytlipmhhndhhgdaa.heapDrains
open Go.ChangeShapes Go.WideShapes Go.ChangeAt Go.RowKit Go.Ab

theorem own : ownKnob Try.prog.godebug = none := by kernel_rfl
theorem laidOut : laidOutB Try.prog = true := by kernel_rfl

theorem flat_act : flatK Try.prog 5 43 = some [.int .i64, .int .i64, .int .i64, .int .i64] := by kernel_rfl

theorem act_cells {c : List Value} (h : oks [.int .i64, .int .i64, .int .i64, .int .i64] c) : ∃ kind id n d, c = [.int .i64 kind, .int .i64 id, .int .i64 n, .int .i64 d] ∧ okI n = true ∧ okI d = true := by
  have hl := oks_length h
  obtain ⟨a, b, c', d', rfl⟩ : ∃ a b c' d', c = [a, b, c', d'] := by
    match c, hl with
    | [a, b, c', d'], _ => exact ⟨a, b, c', d', rfl⟩
  obtain ⟨⟨k, rfl, _⟩, ⟨i, rfl, _⟩, ⟨n, rfl, hn⟩, ⟨d, rfl, hd⟩, _⟩ := h
  exact ⟨k, i, n, d, rfl, okI_of_wf hn, okI_of_wf hd⟩

theorem walk (a : Option Addr) (len cap : Nat) (es : List (List Value)) (w : World) (h : IsRow [.int .i64, .int .i64, .int .i64, .int .i64] w a len cap es) (hm : len ≤ 9223372036854775807) :
    Calls Try.prog 4 #[.slice a len cap] w fun e w' => e = .returned (.bool true) ∧ Below w.heap.size w w' := by
  have hes : ∀ i c, es[i]? = some c → ∃ kind id n d, okI n = true ∧ okI d = true ∧ (es.flatten.drop (i * 4)).take 4 = [.int .i64 kind, .int .i64 id, .int .i64 n, .int .i64 d] ∧ i * 4 + 4 ≤ es.flatten.length := by
    intro i c hi
    have hok : ∀ c ∈ es, oks [.int .i64, .int .i64, .int .i64, .int .i64] c := by
      rcases h with ⟨_, _, _, rfl⟩ | ⟨x, _, _, _, _, h, _⟩
      · intro c hc; simp at hc
      · exact h
    obtain ⟨kind, id, n, d, rfl, h1, h2⟩ := act_cells (hok c (List.mem_of_getElem? hi))
    obtain ⟨h3, h4⟩ := flatten_take (k := 4) (fun c hc => oks_length (hok c hc)) hi
    exact ⟨kind, id, n, d, h1, h2, h3, h4⟩
  obtain ⟨ρ, σ, v, hw, hro, hv, hs⟩ := row_in h (by simp)
  rcases hs with ⟨rfl, rfl, hv2⟩ | ⟨hl, rfl, rfl⟩
  · have key : ∀ sa : Option Addr, v = .slice sa 0 0 → (∀ σ, opLen (cP Try.prog).T σ 36 (.slice sa 0 0) = some (.val (.int .i64 ((0 : Nat) : Int)) [])) → Calls Try.prog 4 #[.slice a 0 cap] w fun e w' => e = .returned (.bool true) ∧ Below w.heap.size w w' := fun sa e hol => by
      subst e
      obtain ⟨σ', lg, d, f⟩ := drains_call (sa := sa) (len := 0) (cap := 0) (vs := []) (σ := St.nil) hm hol ⟨fun h => absurd h (by omega), fun i hi => absurd hi (by omega)⟩ (fun h => absurd h (by omega))
      exact calls_true d hw (.cons hv .nil) hro fun b hb hbl => by have := f b hbl; omega
    rcases hv2 with hv2 | hv2
    · exact key none hv2 fun σ => by simp only [opLen, cx_und, Try.underlying36]; rfl
    · exact key _ hv2 fun σ => by simp only [opLen, cx_und, Try.underlying36]
  · obtain ⟨σ', lg, d, f⟩ := drains_call (sa := some ⟨0, 0, some 0⟩) (len := len) (cap := cap) (vs := es.flatten) (σ := St.nil.new (.cells es.flatten true)) hm (fun σ => by simp only [opLen, cx_und, Try.underlying36])
      ⟨fun _ => ⟨rfl, by rw [St.get_new]; rfl⟩, fun i hi => hes i es[i] (List.getElem?_eq_getElem (by omega))⟩ (fun _ => Nat.zero_lt_one)
    exact calls_true d hw (.cons hv .nil) hro fun b hb hbl => by have := f b hbl; omega

set_option maxRecDepth 100000 in
theorem lifted (os : Os) (started : os.Started) (H : Type) (enc : TypeId × Value → H) :
    ReturnsInHanded {} Try.checked os 4 .any (Rows.heapDrainsSpec.pre6 enc Try.prog Try.f4 Rows.heapDrainsRow.domain false) (Rows.heapDrainsSpec.post enc Try.prog Try.f4 false true false false) := by
  refine returnsInHanded_of_change (C := Try.checked) own started (by kernel_rfl) Try.func4
    (ChangeSpec.witness6 (enc := enc) (C := Try.checked) false ⟨#[], #[.slice none 0 0], []⟩ 8 (by kernel_rfl) (by kernel_rfl) (by kernel_rfl) (by kernel_rfl)) ?_
  intro W base args ds gs before hval0 hW hcnd _
  have hval : ∀ (j : Nat) t v, Try.f4.params[j]? = some t → args[j]? = some v → Value.okWide Try.prog W .any base t v := hval0
  have hW' := hW
  obtain ⟨p, q, hA0, hV, rfl, hfz, hnd⟩ := hW
  have hA : DataW.TrodAll enc Try.prog W 0 (fun _ => true) true Try.f4.params.toList args.toList ds p := hA0
  rw [Try.params4] at hA hval
  obtain ⟨v0, vs0, d0, ds0, p0, q0, hargs, rfl, rfl, h0, r0⟩ := trodAll_cons hA
  obtain ⟨rfl, rfl, rfl⟩ := trodAll_nil r0
  obtain rfl : args = #[v0] := by cases args; simp_all
  obtain ⟨rfl, rfl⟩ := trodVars_none hV
  obtain ⟨a0, len0, cap0, rfl⟩ := okWide_slice Try.underlying36 (hval 0 36 v0 rfl rfl)
  have k0 := h0
  have lt0 : ∀ x ∈ p0, x.block < W.heap.size := by obtain ⟨m, hm⟩ := k0; exact DataW.trod_lt m _ _ _ hm
  obtain ⟨es, w0, hm⟩ : ∃ es, IsRow [.int .i64, .int .i64, .int .i64, .int .i64] W a0 len0 cap0 es ∧ len0 ≤ 9223372036854775807 := by
    obtain ⟨fuel, hf⟩ := h0
    rcases open_flats Try.underlying36 flat_act (by kernel_rfl) hf with hcs | ⟨x, l, c, es, hcs, _, hl, hm, hz, hok, hcell⟩
    · simp [Value.cells] at hcs
      obtain ⟨rfl, rfl, rfl⟩ := hcs
      exact ⟨[], .inl ⟨rfl, rfl, rfl, rfl⟩, by omega⟩
    · simp [Value.cells] at hcs
      obtain ⟨rfl, rfl, rfl⟩ := hcs
      exact ⟨es, .inr ⟨_, rfl, hl, hm, hz, hok, hcell⟩, by have := maxLen_is; omega⟩
  clear hA0 hval0
  refine (walk a0 len0 cap0 es W w0 hm).mono fun e W' ⟨he, bel⟩ => ?_
  subst he
  exact ⟨_, rfl, _, _, _, [], _, [], hW', trodAll_mk1 (shut_bool Try.underlying4 _), (trodAll_cons_mk (Below.trod laidOut (by kernel_rfl) (of_decide_eq_true (by kernel_rfl)) k0 bel lt0) trodAll_mk0), rfl, bel.frame _, fun h => by cases h⟩

theorem over : Rows.heapDrainsRow.holds Try.pinned (OpenSpec.ofChange Rows.heapDrainsSpec) :=
  OpenClaim.holds_of_wide 4 Try.f4 rfl rfl rfl rfl rfl rfl rfl ⟨rfl, rfl, rfl, rfl, rfl⟩ rfl rfl rfl rfl rfl (by kernel_rfl) Try.func4 (by kernel_rfl)
    (of_decide_eq_true (by kernel_rfl)) (by unfold Func.isWrapper; first | (rw [if_pos (by decide +kernel)]; kernel_rfl) | (rw [if_neg (by decide +kernel)]; exact ⟨rfl, rfl⟩))
    (fun os started H enc _ => lifted os started H enc)

/-- The statement. -/
theorem proved : Rows.HeapDrainsSaid := over
#print axioms proved
end Go.Proofs.Ytlipmhhndhhgdaa.heapDrains
