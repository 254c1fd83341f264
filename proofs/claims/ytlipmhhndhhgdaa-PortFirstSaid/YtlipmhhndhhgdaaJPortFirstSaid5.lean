/- port: what a port is in the abstract heap; New, Add, Put, Promise, Under. port: Add, Put, Promise, Under. port: next. port: first of the queue and the line; next. port: Serve. port: Serve: what is served of the packet under way. port: Serve: its loop. port: Serve: its loop, walked. port: Serve. PortFirst: what is put, and served ahead. PortFirst: what is served behind the promise. PortFirst: what is noted. PortFirst: the loop behind the promise. PortFirst: the loop behind the promise, whole. PortFirst: the whole. PortFirst: what is promised comes first. -/
import Derived.Test.YtlipmhhndhhgdaaJPortFirstSaid4
import Derived.Test.YtlipmhhndhhgdaaJPortFirstSaid3

set_option linter.unusedSimpArgs false
set_option linter.unusedVariables false
namespace Go.Ab
open Go.Proofs

theorem QAt.in_lt {σ : St} {b : QB} {Q : QV} (H : QAt σ b Q) {c : Nat} (h : Foot b Q c) : c < σ.next := by
  rcases h with h | ⟨k, x, hx, rfl⟩
  · exact H.lt c h
  · exact (H.fl k x hx).2.1

def OnV.cells (o : OnV) : List Value := [.int .i64 o.pk.id, .int .i64 o.pk.flow, .int .i64 o.pk.size, .bool o.prom, .int .i64 o.n, .int .i64 o.d, .int .i64 o.fin, .int .i64 o.left]

structure PV where
  Q : QV
  V : LV
  on : Option OnV
  rate : Int
  most : Int
  now : Int

/-- The blocks of a port: its own, the line's, the ring, the packet's under way, the queue's. -/
structure PB where
  p : Nat
  l : Nat
  r : Nat
  o : Option Nat
  b : QB

def onPtr : Option Nat → Value
  | none => .pointer none
  | some o => .pointer (some ⟨o, 0, none⟩)

def PFoot (B : PB) (Q : QV) (c : Nat) : Prop := c = B.p ∨ c = B.l ∨ c = B.r ∨ B.o = some c ∨ Foot B.b Q c

structure OnAt (σ : St) (B : PB) (Q : QV) (on : Option OnV) : Prop where
  has : B.o.isSome = on.isSome
  get : ∀ o x, B.o = some o → on = some x → σ.get o = some (.cells x.cells false) ∧ o < σ.next ∧ o ≠ B.p ∧ o ≠ B.l ∧ o ≠ B.r ∧ ¬ Foot B.b Q o

structure PAt (σ : St) (B : PB) (S : PV) : Prop where
  gp : σ.get B.p = some (.cells [.pointer (some ⟨B.b.q, 0, none⟩), .pointer (some ⟨B.l, 0, none⟩), .int .i64 S.rate, .int .i64 S.most, .int .i64 S.now, onPtr B.o] false)
  q : QAt σ B.b S.Q
  l : LAt σ B.l B.r S.V
  on : OnAt σ B S.Q S.on
  lt : B.p < σ.next
  pl : B.p ≠ B.l
  pr : B.p ≠ B.r
  pf : ¬ Foot B.b S.Q B.p
  lf : ¬ Foot B.b S.Q B.l
  rf : ¬ Foot B.b S.Q B.r

theorem PAt.in_lt {σ : St} {B : PB} {S : PV} (H : PAt σ B S) {c : Nat} (h : PFoot B S.Q c) : c < σ.next := by
  rcases h with rfl | rfl | rfl | h | h
  · exact H.lt
  · exact H.l.lt.1
  · exact H.l.lt.2
  · have := H.on.has
    rw [h] at this
    cases hx : S.on with
    | none => rw [hx] at this; cases this
    | some x => exact (H.on.get c x h hx).2.1
  · exact H.q.in_lt h

theorem PAt.keep {σ σ' : St} {B : PB} {S : PV} (H : PAt σ B S) (hn : σ.next ≤ σ'.next) (hg : ∀ c, PFoot B S.Q c → σ'.get c = σ.get c) : PAt σ' B S :=
  { H with
    gp := (hg _ (.inl rfl)).trans H.gp
    q := H.q.keep hn fun c hc => hg c (.inr (.inr (.inr (.inr hc))))
    l := H.l.keep hn (hg _ (.inr (.inl rfl))) (hg _ (.inr (.inr (.inl rfl))))
    on := ⟨H.on.has, fun o x h1 h2 => by
      obtain ⟨a, b, c⟩ := H.on.get o x h1 h2
      exact ⟨(hg o (.inr (.inr (.inr (.inl h1))))).trans a, by omega, c⟩⟩
    lt := by have := H.lt; omega }

theorem within67_call (n a b : Int) (σ : St) : DCall Try.prog 67 [.int .i64 n, .int .i64 a, .int .i64 b] σ (.ret (.bool (decide (a ≤ n) && decide (n ≤ b)))) σ [] := by
  refine pure_call (enter (p := q8) Try.func67 rfl stat67 ?_) rfl
  by_cases h : a ≤ n
  · simp only [go_sem, Nat.reducePow, Nat.reduceDiv, Nat.reduceMod, Nat.reduceAdd, Nat.reduceSub, Nat.reduceMul, Nat.reduceLeDiff, Nat.reduceLT, Nat.reduceEqDiff, reduceCtorEq, reduceIte, reduceDIte, if_pos rfl, Int.reduceLT, Int.reduceLE, Int.reduceEq, Int.reduceNeg, Int.reduceAdd, Int.reduceSub, Int.reduceMul, Int.reduceToNat, opLen, Try.f67, h]
  · simp only [go_sem, Nat.reducePow, Nat.reduceDiv, Nat.reduceMod, Nat.reduceAdd, Nat.reduceSub, Nat.reduceMul, Nat.reduceLeDiff, Nat.reduceLT, Nat.reduceEqDiff, reduceCtorEq, reduceIte, reduceDIte, if_pos rfl, Int.reduceLT, Int.reduceLE, Int.reduceEq, Int.reduceNeg, Int.reduceAdd, Int.reduceSub, Int.reduceMul, Int.reduceToNat, opLen, undef, Try.f67, h]

theorem pnone_call {σ : St} {p q : Nat} {c1 c2 c3 c4 c5 : Value} (h : σ.get p = some (.cells [.pointer (some ⟨q, 0, none⟩), c1, c2, c3, c4, c5] false)) : DCall Try.prog 69 [.pointer (some ⟨p, 0, none⟩)] σ (.ret (.bool false)) σ [] := by
  refine pure_call (enter (p := q8) Try.func69 rfl stat69 ?_) rfl
  simp only [go_sem, Nat.reducePow, Nat.reduceDiv, Nat.reduceMod, Nat.reduceAdd, Nat.reduceSub, Nat.reduceMul, Nat.reduceLeDiff, Nat.reduceLT, Nat.reduceEqDiff, reduceCtorEq, reduceIte, reduceDIte, if_pos rfl, Int.reduceLT, Int.reduceLE, Int.reduceEq, Int.reduceNeg, Int.reduceAdd, Int.reduceSub, Int.reduceMul, Int.reduceToNat, opLen, Try.f69, h]

def P0 (rate most now room : Int) : PV := ⟨Q0, ⟨0, 0, room, []⟩, none, rate, most, now⟩

def PNewR (σ : St) (rate most now room : Int) (e : AE) (σ' : St) (lg : Log) : Prop :=
  ∃ B : PB, e = .ret (.tuple ⟨[.pointer (some ⟨B.p, 0, none⟩), .int .i64 0]⟩) ∧ (∀ z ∈ lg, σ.next ≤ z) ∧ PAt σ' B (P0 rate most now room) ∧ ∀ c, PFoot B Q0 c → σ.next ≤ c

theorem foot_q0 {b : QB} {c : Nat} : Foot b Q0 c ↔ c ∈ b.core := by
  constructor
  · rintro (h | ⟨k, x, hx, _⟩)
    · exact h
    · cases hx
  · exact .inl

set_option maxRecDepth 20000 in
theorem pnew_call {σ : St} {rate most room now : Int} (h1 : 1 ≤ rate ∧ rate ≤ 1000000) (h2 : 1 ≤ most ∧ most ≤ 2000) (h3 : 0 ≤ room ∧ room ≤ 1000000000) (h4 : 0 ≤ now ∧ now ≤ 2147483647) :
    callX Try.prog 31 [.int .i64 rate, .int .i64 most, .int .i64 room, .int .i64 now] σ (PNewR σ rate most now room) := by
  refine enter (p := q8) Try.func31 rfl stat31 ?_
  simp only [go_sem, Nat.reducePow, Nat.reduceDiv, Nat.reduceMod, Nat.reduceAdd, Nat.reduceSub, Nat.reduceMul, Nat.reduceLeDiff, Nat.reduceLT, Nat.reduceEqDiff, reduceCtorEq, reduceIte, reduceDIte, if_pos rfl, Int.reduceLT, Int.reduceLE, Int.reduceEq, Int.reduceNeg, Int.reduceAdd, Int.reduceSub, Int.reduceMul, Int.reduceToNat, opLen, undef, Try.f31, body23, body66, body67]
  refine callX.hid (lnew_call h3) ?_
  intro σ1 lg1 hlg1 hA
  obtain ⟨hB1, HL⟩ := hA
  have nx1 := HL.lt.1
  refine ⟨?_⟩
  simp only [go_sem, Nat.reducePow, Nat.reduceDiv, Nat.reduceMod, Nat.reduceAdd, Nat.reduceSub, Nat.reduceMul, Nat.reduceLeDiff, Nat.reduceLT, Nat.reduceEqDiff, reduceCtorEq, reduceIte, reduceDIte, if_pos rfl, Int.reduceLT, Int.reduceLE, Int.reduceEq, Int.reduceNeg, Int.reduceAdd, Int.reduceSub, Int.reduceMul, Int.reduceToNat, opLen, undef, body23, body66, body67]
  refine .of (within67_call _ _ _ _) ?_
  simp only [go_sem, Nat.reducePow, Nat.reduceDiv, Nat.reduceMod, Nat.reduceAdd, Nat.reduceSub, Nat.reduceMul, Nat.reduceLeDiff, Nat.reduceLT, Nat.reduceEqDiff, reduceCtorEq, reduceIte, reduceDIte, if_pos rfl, Int.reduceLT, Int.reduceLE, Int.reduceEq, Int.reduceNeg, Int.reduceAdd, Int.reduceSub, Int.reduceMul, Int.reduceToNat, opLen, undef, h1.1, h1.2, body23, body66, body67]
  refine .of (within67_call _ _ _ _) ?_
  simp only [go_sem, Nat.reducePow, Nat.reduceDiv, Nat.reduceMod, Nat.reduceAdd, Nat.reduceSub, Nat.reduceMul, Nat.reduceLeDiff, Nat.reduceLT, Nat.reduceEqDiff, reduceCtorEq, reduceIte, reduceDIte, if_pos rfl, Int.reduceLT, Int.reduceLE, Int.reduceEq, Int.reduceNeg, Int.reduceAdd, Int.reduceSub, Int.reduceMul, Int.reduceToNat, opLen, undef, h2.1, h2.2, body23, body66, body67]
  refine .of (within67_call _ _ _ _) ?_
  simp only [go_sem, Nat.reducePow, Nat.reduceDiv, Nat.reduceMod, Nat.reduceAdd, Nat.reduceSub, Nat.reduceMul, Nat.reduceLeDiff, Nat.reduceLT, Nat.reduceEqDiff, reduceCtorEq, reduceIte, reduceDIte, if_pos rfl, Int.reduceLT, Int.reduceLE, Int.reduceEq, Int.reduceNeg, Int.reduceAdd, Int.reduceSub, Int.reduceMul, Int.reduceToNat, opLen, undef, h4.1, h4.2, body23, body66, body67]
  refine callX.hid (qnew_call σ1) ?_
  intro σ2 lg2 hlg2 hN
  obtain ⟨hB2, HQ⟩ := hN
  refine ⟨?_⟩
  simp only [go_sem, Nat.reducePow, Nat.reduceDiv, Nat.reduceMod, Nat.reduceAdd, Nat.reduceSub, Nat.reduceMul, Nat.reduceLeDiff, Nat.reduceLT, Nat.reduceEqDiff, reduceCtorEq, reduceIte, reduceDIte, if_pos rfl, Int.reduceLT, Int.reduceLE, Int.reduceEq, Int.reduceNeg, Int.reduceAdd, Int.reduceSub, Int.reduceMul, Int.reduceToNat, opLen, undef, body23, body66, body67]
  have nx2 := hlg2.1
  have ltq := HQ.lt
  simp only [QB.core, List.mem_cons, List.not_mem_nil, or_false] at ltq
  have lt4 := ltq (σ1.next + 4) (.inl rfl)
  have kp : ∀ c, c < σ1.next → σ2.get c = σ1.get c := fun c hc => hlg2.2 c hc fun hm => by have := hB2 c hm; omega
  have hfoot : ∀ c, Foot ⟨σ1.next + 4, σ1.next + 2, σ1.next + 3, σ1.next + 1, σ1.next, []⟩ Q0 c → σ1.next ≤ c ∧ c < σ2.next := fun c hc => by
    have h1 := HQ.in_lt hc
    rw [foot_q0] at hc
    simp only [QB.core, List.mem_cons, List.not_mem_nil, or_false] at hc
    omega
  refine ⟨⟨σ2.next, σ.next + 1, σ.next, none, ⟨σ1.next + 4, σ1.next + 2, σ1.next + 3, σ1.next + 1, σ1.next, []⟩⟩, rfl, fun z hz => ?_, ?_, fun c hc => ?_⟩
  · rcases List.mem_append.1 hz with hz | hz
    · exact hB1 z hz
    · have := hB2 z hz; omega
  · exact { gp := by rw [St.get_new, if_pos rfl]; rfl
            q := HQ.keep (by rw [St.next_new]; omega) fun c hc => by rw [St.get_new, if_neg (by have := hfoot c hc; omega)]
            l := HL.keep (by rw [St.next_new]; omega) (by rw [St.get_new, if_neg (by omega)]; exact kp _ (by omega)) (by rw [St.get_new, if_neg (by omega)]; exact kp _ (by omega))
            on := ⟨rfl, fun o x h => by cases h⟩
            lt := by rw [St.next_new]; exact Nat.lt_succ_self _
            pl := by show σ2.next ≠ σ.next + 1; omega
            pr := by show σ2.next ≠ σ.next; omega
            pf := fun h => by have := hfoot _ h; exact absurd this.2 (Nat.lt_irrefl _)
            lf := fun h => by have := (hfoot (σ.next + 1) h).1; omega
            rf := fun h => by have := (hfoot σ.next h).1; omega }
  · rcases hc with h | h | h | h | h
    · have h : c = σ2.next := h
      omega
    · have h : c = σ.next + 1 := h
      omega
    · have h : c = σ.next := h
      omega
    · cases h
    · have := (hfoot c h).1; omega

/-- Where a rate, or a longest packet, or a tick does not fit. -/
def PNotR (σ : St) (e : AE) (_ : St) (lg : Log) : Prop := e = .ret (.tuple ⟨[.pointer none, .int .i64 2]⟩) ∧ ∀ z ∈ lg, σ.next ≤ z

set_option maxRecDepth 20000 in
theorem pnew_not {σ : St} {rate most room now : Int} (h1 : ¬ (1 ≤ rate ∧ rate ≤ 1000000)) (h3 : 0 ≤ room ∧ room ≤ 1000000000) :
    callX Try.prog 31 [.int .i64 rate, .int .i64 most, .int .i64 room, .int .i64 now] σ (PNotR σ) := by
  have hb : (decide (1 ≤ rate) && decide (rate ≤ 1000000)) = false := by
    rw [Bool.and_eq_false_iff, decide_eq_false_iff_not, decide_eq_false_iff_not]
    omega
  refine enter (p := q8) Try.func31 rfl stat31 ?_
  simp only [go_sem, Nat.reducePow, Nat.reduceDiv, Nat.reduceMod, Nat.reduceAdd, Nat.reduceSub, Nat.reduceMul, Nat.reduceLeDiff, Nat.reduceLT, Nat.reduceEqDiff, reduceCtorEq, reduceIte, reduceDIte, if_pos rfl, Int.reduceLT, Int.reduceLE, Int.reduceEq, Int.reduceNeg, Int.reduceAdd, Int.reduceSub, Int.reduceMul, Int.reduceToNat, opLen, undef, Try.f31, body23, body66, body67]
  refine callX.hid (lnew_call h3) ?_
  intro σ1 lg1 hlg1 hA
  obtain ⟨hB1, HL⟩ := hA
  refine ⟨?_⟩
  simp only [go_sem, Nat.reducePow, Nat.reduceDiv, Nat.reduceMod, Nat.reduceAdd, Nat.reduceSub, Nat.reduceMul, Nat.reduceLeDiff, Nat.reduceLT, Nat.reduceEqDiff, reduceCtorEq, reduceIte, reduceDIte, if_pos rfl, Int.reduceLT, Int.reduceLE, Int.reduceEq, Int.reduceNeg, Int.reduceAdd, Int.reduceSub, Int.reduceMul, Int.reduceToNat, opLen, undef, body23, body66, body67]
  refine .of (within67_call _ _ _ _) ?_
  simp only [go_sem, Nat.reducePow, Nat.reduceDiv, Nat.reduceMod, Nat.reduceAdd, Nat.reduceSub, Nat.reduceMul, Nat.reduceLeDiff, Nat.reduceLT, Nat.reduceEqDiff, reduceCtorEq, reduceIte, reduceDIte, if_pos rfl, Int.reduceLT, Int.reduceLE, Int.reduceEq, Int.reduceNeg, Int.reduceAdd, Int.reduceSub, Int.reduceMul, Int.reduceToNat, opLen, undef, hb, body23, body66, body67]
  exact ⟨rfl, hB1⟩

theorem PAt.line {σ σ' : St} {B : PB} {S : PV} {r' : Nat} {V' : LV} (H : PAt σ B S) (hn : σ.next ≤ σ'.next) (hg : ∀ c, c < σ.next → c ≠ B.l → c ≠ B.r → σ'.get c = σ.get c) (hl : LAt σ' B.l r' V') (hr : r' = B.r ∨ σ.next ≤ r') : PAt σ' { B with r := r' } { S with V := V' } := by
  have hp := H.lt
  have hpl := H.pl
  have hpr := H.pr
  have hfo : ∀ c, Foot B.b S.Q c → c ≠ B.l ∧ c ≠ B.r := fun c hc => ⟨fun e => H.lf (e ▸ hc), fun e => H.rf (e ▸ hc)⟩
  exact { gp := (hg _ hp hpl hpr).trans H.gp
          q := H.q.keep hn fun c hc => hg c (H.q.in_lt hc) (hfo c hc).1 (hfo c hc).2
          l := hl
          on := ⟨H.on.has, fun o x h1 h2 => by
            obtain ⟨a, b, c1, c2, c3, c4⟩ := H.on.get o x h1 h2
            exact ⟨(hg o b c2 c3).trans a, by omega, c1, c2, by show o ≠ r'; omega, c4⟩⟩
          lt := by have := H.lt; show B.p < _; omega
          pl := hpl
          pr := by show B.p ≠ r'; omega
          pf := H.pf
          lf := H.lf
          rf := fun h => by
            have h : Foot B.b S.Q r' := h
            rcases hr with rfl | hr
            · exact H.rf h
            · have := H.q.in_lt h; omega }

theorem PAt.queue {σ σ' : St} {B : PB} {S : PV} {b' : QB} {Q' : QV} (H : PAt σ B S) (hn : σ.next ≤ σ'.next) (hg : ∀ c, c < σ.next → ¬ Foot B.b S.Q c → σ'.get c = σ.get c) (hq : QAt σ' b' Q') (hbq : b'.q = B.b.q) (hf : ∀ c, Foot b' Q' c → Foot B.b S.Q c ∨ σ.next ≤ c) : PAt σ' { B with b := b' } { S with Q := Q' } := by
  have hll := H.l.lt
  have no : ∀ c, c < σ.next → ¬ Foot B.b S.Q c → ¬ Foot b' Q' c := fun c hc hn h => by
    rcases hf c h with h | h
    · exact hn h
    · omega
  exact { gp := by show σ'.get B.p = some (.cells [.pointer (some ⟨b'.q, 0, none⟩), _, _, _, _, _] false); rw [hbq]; exact (hg _ H.lt H.pf).trans H.gp
          q := hq
          l := H.l.keep hn (hg _ hll.1 H.lf) (hg _ hll.2 H.rf)
          on := ⟨H.on.has, fun o x h1 h2 => by
            obtain ⟨a, b, c1, c2, c3, c4⟩ := H.on.get o x h1 h2
            exact ⟨(hg o b c4).trans a, by omega, c1, c2, c3, no o b c4⟩⟩
          lt := by have := H.lt; show B.p < _; omega
          pl := H.pl
          pr := H.pr
          pf := no _ H.lt H.pf
          lf := no _ hll.1 H.lf
          rf := no _ hll.2 H.rf }

end Go.Ab

set_option linter.unusedSimpArgs false
set_option linter.unusedVariables false
namespace Go.Ab
open Go.Proofs

def PAddR (σ : St) (B : PB) (S : PV) (flow rate room : Int) (σ' : St) (lg : Log) : Prop :=
  (∀ z ∈ lg, PFoot B S.Q z ∨ σ.next ≤ z) ∧ ∃ blk, σ.next ≤ blk ∧ PAt σ' B { S with Q := { S.Q with F := updF S.Q.F flow (some ⟨blk, rate, room, 0, S.now, 1⟩), nf := S.Q.nf + 1 } }

theorem padd_call {σ : St} {B : PB} {S : PV} (H : PAt σ B S) (flow rate room : Int) (h : (0 ≤ flow ∧ flow ≤ 2147483647) ∧ (1 ≤ rate ∧ rate ≤ 1000000) ∧ (0 ≤ room ∧ room ≤ 1000000000)) (hnow : 0 ≤ S.now ∧ S.now ≤ 2147483647) (hF : S.Q.F flow = none) (hn : S.Q.nf < 32) :
    callX Try.prog 34 [.pointer (some ⟨B.p, 0, none⟩), .int .i64 flow, .int .i64 rate, .int .i64 room] σ fun e σ' lg => e = .ret (.int .i64 0) ∧ PAddR σ B S flow rate room σ' lg := by
  have gp := H.gp
  have hp := H.lt
  refine enter (p := q8) Try.func34 rfl stat34 ?_
  simp only [go_sem, Nat.reducePow, Nat.reduceDiv, Nat.reduceMod, Nat.reduceAdd, Nat.reduceSub, Nat.reduceMul, Nat.reduceLeDiff, Nat.reduceLT, Nat.reduceEqDiff, reduceCtorEq, reduceIte, reduceDIte, if_pos rfl, Int.reduceLT, Int.reduceLE, Int.reduceEq, Int.reduceNeg, Int.reduceAdd, Int.reduceSub, Int.reduceMul, Int.reduceToNat, opLen, undef, Try.f34, body24, body69]
  refine .of (pnone_call gp) ?_
  simp only [go_sem, Nat.reducePow, Nat.reduceDiv, Nat.reduceMod, Nat.reduceAdd, Nat.reduceSub, Nat.reduceMul, Nat.reduceLeDiff, Nat.reduceLT, Nat.reduceEqDiff, reduceCtorEq, reduceIte, reduceDIte, if_pos rfl, Int.reduceLT, Int.reduceLE, Int.reduceEq, Int.reduceNeg, Int.reduceAdd, Int.reduceSub, Int.reduceMul, Int.reduceToNat, opLen, undef, gp, hp, body24, body69]
  refine callX.hid (qadd_call H.q flow rate room S.now h hnow hF hn) ?_
  intro σ1 lg1 hlg1 hA
  obtain ⟨h1, blk, hb, hq⟩ := hA
  refine ⟨?_⟩
  simp only [go_sem, Nat.reducePow, Nat.reduceDiv, Nat.reduceMod, Nat.reduceAdd, Nat.reduceSub, Nat.reduceMul, Nat.reduceLeDiff, Nat.reduceLT, Nat.reduceEqDiff, reduceCtorEq, reduceIte, reduceDIte, if_pos rfl, Int.reduceLT, Int.reduceLE, Int.reduceEq, Int.reduceNeg, Int.reduceAdd, Int.reduceSub, Int.reduceMul, Int.reduceToNat, opLen, undef, gp, hp, body24, body69]
  have h1' : ∀ z ∈ lg1, Foot B.b S.Q z ∨ σ.next ≤ z := fun z hz => (h1 z hz).imp .inl id
  refine ⟨fun z hz => (h1' z hz).imp (fun h => .inr (.inr (.inr (.inr h)))) id, blk, hb, H.queue (b' := B.b) hlg1.1 (fun c hc hn => hlg1.2 c hc fun hm => by
    rcases h1' c hm with h | h
    · exact hn h
    · omega) hq rfl fun c hc => ?_⟩
  rcases hc with hc | ⟨k, z, hz, rfl⟩
  · exact .inl (.inl hc)
  · by_cases hk : k = flow
    · subst hk
      have e : updF S.Q.F k (some ⟨blk, rate, room, 0, S.now, 1⟩) k = some z := hz
      rw [updF_same] at e
      cases e
      exact .inr hb
    · have e : updF S.Q.F flow (some ⟨blk, rate, room, 0, S.now, 1⟩) k = some z := hz
      rw [updF_other _ _ hk] at e
      exact .inl (.inr ⟨k, z, e, rfl⟩)

def PPutR (σ : St) (B : PB) (S : PV) (x : Pk) (σ' : St) (lg : Log) : Prop :=
  (∀ z ∈ lg, PFoot B S.Q z ∨ σ.next ≤ z) ∧ ∃ r', (r' = B.r ∨ σ.next ≤ r') ∧ PAt σ' { B with r := r' } { S with V := { S.V with L := S.V.L ++ [x] } }

set_option maxRecDepth 20000 in
theorem pput_call {σ : St} {B : PB} {S : PV} (H : PAt σ B S) {x : Pk} (h1 : 0 ≤ x.id ∧ x.id ≤ 4611686018427387904) (h2 : 0 ≤ x.flow ∧ x.flow ≤ 2147483647) (h3 : 1 ≤ x.size ∧ x.size ≤ 2000) (hm : x.size ≤ S.most) (hs : ∀ y ∈ S.V.L, 0 ≤ y.size ∧ y.size ≤ 2000) (hroom : x.size ≤ S.V.room - sumP S.V.L) (hr : -1000000000000 ≤ S.V.room ∧ S.V.room ≤ 1000000000000) (hn : S.V.L.length < 400000) :
    callX Try.prog 35 [.pointer (some ⟨B.p, 0, none⟩), x.val] σ fun e σ' lg => e = .ret (.int .i64 0) ∧ PPutR σ B S x σ' lg := by
  have gp := H.gp
  have hp := H.lt
  have hll := H.l.lt
  have c1 : ¬ S.most < x.size := by omega
  have n1 : ¬ σ.next = B.p := by omega
  refine enter (p := q8) Try.func35 rfl stat35 ?_
  simp only [go_sem, Nat.reducePow, Nat.reduceDiv, Nat.reduceMod, Nat.reduceAdd, Nat.reduceSub, Nat.reduceMul, Nat.reduceLeDiff, Nat.reduceLT, Nat.reduceEqDiff, reduceCtorEq, reduceIte, reduceDIte, if_pos rfl, Int.reduceLT, Int.reduceLE, Int.reduceEq, Int.reduceNeg, Int.reduceAdd, Int.reduceSub, Int.reduceMul, Int.reduceToNat, opLen, undef, Pk.val, Pk.cells, Try.f35, body69, body70]
  refine .of (pnone_call (p := B.p) (by simp only [go_sem, Nat.reducePow, Nat.reduceDiv, Nat.reduceMod, Nat.reduceAdd, Nat.reduceSub, Nat.reduceMul, Nat.reduceLeDiff, Nat.reduceLT, Nat.reduceEqDiff, reduceCtorEq, reduceIte, reduceDIte, if_pos rfl, Int.reduceLT, Int.reduceLE, Int.reduceEq, Int.reduceNeg, Int.reduceAdd, Int.reduceSub, Int.reduceMul, Int.reduceToNat, opLen, hp, gp]; rfl)) ?_
  simp only [go_sem, Nat.reducePow, Nat.reduceDiv, Nat.reduceMod, Nat.reduceAdd, Nat.reduceSub, Nat.reduceMul, Nat.reduceLeDiff, Nat.reduceLT, Nat.reduceEqDiff, reduceCtorEq, reduceIte, reduceDIte, if_pos rfl, Int.reduceLT, Int.reduceLE, Int.reduceEq, Int.reduceNeg, Int.reduceAdd, Int.reduceSub, Int.reduceMul, Int.reduceToNat, opLen, undef, gp, hp, c1, body69, body70]
  refine callX.hid (lput_call (H.l.keep (by simp only [go_sem, Nat.reducePow, Nat.reduceDiv, Nat.reduceMod, Nat.reduceAdd, Nat.reduceSub, Nat.reduceMul, Nat.reduceLeDiff, Nat.reduceLT, Nat.reduceEqDiff, reduceCtorEq, reduceIte, reduceDIte, if_pos rfl, Int.reduceLT, Int.reduceLE, Int.reduceEq, Int.reduceNeg, Int.reduceAdd, Int.reduceSub, Int.reduceMul, Int.reduceToNat, opLen]) (by simp only [go_sem, Nat.reducePow, Nat.reduceDiv, Nat.reduceMod, Nat.reduceAdd, Nat.reduceSub, Nat.reduceMul, Nat.reduceLeDiff, Nat.reduceLT, Nat.reduceEqDiff, reduceCtorEq, reduceIte, reduceDIte, if_pos rfl, Int.reduceLT, Int.reduceLE, Int.reduceEq, Int.reduceNeg, Int.reduceAdd, Int.reduceSub, Int.reduceMul, Int.reduceToNat, opLen, hll.1]) (by simp only [go_sem, Nat.reducePow, Nat.reduceDiv, Nat.reduceMod, Nat.reduceAdd, Nat.reduceSub, Nat.reduceMul, Nat.reduceLeDiff, Nat.reduceLT, Nat.reduceEqDiff, reduceCtorEq, reduceIte, reduceDIte, if_pos rfl, Int.reduceLT, Int.reduceLE, Int.reduceEq, Int.reduceNeg, Int.reduceAdd, Int.reduceSub, Int.reduceMul, Int.reduceToNat, opLen, hll.2])) (x := x) h1 h2 h3 hs hroom hr hn) ?_
  intro σ1 lg1 hlg1 hA
  obtain ⟨hB, r', hr', HL⟩ := hA
  simp only [go_sem, Nat.reducePow, Nat.reduceDiv, Nat.reduceMod, Nat.reduceAdd, Nat.reduceSub, Nat.reduceMul, Nat.reduceLeDiff, Nat.reduceLT, Nat.reduceEqDiff, reduceCtorEq, reduceIte, reduceDIte, if_pos rfl, Int.reduceLT, Int.reduceLE, Int.reduceEq, Int.reduceNeg, Int.reduceAdd, Int.reduceSub, Int.reduceMul, Int.reduceToNat, opLen] at hB hr'
  refine ⟨?_⟩
  simp only [go_sem, Nat.reducePow, Nat.reduceDiv, Nat.reduceMod, Nat.reduceAdd, Nat.reduceSub, Nat.reduceMul, Nat.reduceLeDiff, Nat.reduceLT, Nat.reduceEqDiff, reduceCtorEq, reduceIte, reduceDIte, if_pos rfl, Int.reduceLT, Int.reduceLE, Int.reduceEq, Int.reduceNeg, Int.reduceAdd, Int.reduceSub, Int.reduceMul, Int.reduceToNat, opLen, undef, body69, body70]
  have nx := hlg1.1
  simp only [go_sem, Nat.reducePow, Nat.reduceDiv, Nat.reduceMod, Nat.reduceAdd, Nat.reduceSub, Nat.reduceMul, Nat.reduceLeDiff, Nat.reduceLT, Nat.reduceEqDiff, reduceCtorEq, reduceIte, reduceDIte, if_pos rfl, Int.reduceLT, Int.reduceLE, Int.reduceEq, Int.reduceNeg, Int.reduceAdd, Int.reduceSub, Int.reduceMul, Int.reduceToNat, opLen] at nx
  refine ⟨fun z hz => ?_, r', by omega, H.line (by omega) (fun c hc hcl hcr => ?_) HL (by omega)⟩
  · rcases hB z hz with h | h | h
    · exact .inl (.inr (.inl h))
    · exact .inl (.inr (.inr (.inl h)))
    · exact .inr (by omega)
  · have := hlg1.2 c (by simp only [go_sem, Nat.reducePow, Nat.reduceDiv, Nat.reduceMod, Nat.reduceAdd, Nat.reduceSub, Nat.reduceMul, Nat.reduceLeDiff, Nat.reduceLT, Nat.reduceEqDiff, reduceCtorEq, reduceIte, reduceDIte, if_pos rfl, Int.reduceLT, Int.reduceLE, Int.reduceEq, Int.reduceNeg, Int.reduceAdd, Int.reduceSub, Int.reduceMul, Int.reduceToNat, opLen]; omega) fun hm => by
      rcases hB c hm with h | h | h
      · exact hcl h
      · exact hcr h
      · omega
    rw [this, St.get_new, if_neg (by omega)]

def PPromR (σ : St) (B : PB) (S : PV) (id flow size : Int) (x : FlowV) (n d : Int) (σ' : St) (lg : Log) : Prop :=
  (∀ z ∈ lg, PFoot B S.Q z ∨ σ.next ≤ z) ∧ ∃ A', (∀ c ∈ A', c ∈ B.b.A ∨ σ.next ≤ c) ∧
    PAt σ' { B with b := { B.b with A := A' } } { S with Q := { S.Q with F := updF S.Q.F flow (some { x with bytes := x.bytes + size, n := n, d := d }), P := updF S.Q.P id (some (flow, size)), np := S.Q.np + 1, L := riseL (S.Q.L.length + 1) (S.Q.L ++ [⟨id, n, d, S.Q.t + 1⟩]) S.Q.L.length, t := S.Q.t + 1 } }

set_option maxRecDepth 20000 in
theorem pprom_call {σ : St} {B : PB} {S : PV} (H : PAt σ B S) (id flow : Int) (size now s R : Nat) {x : FlowV} (hnw : S.now = (now : Nat)) (hm : (size : Int) ≤ S.most) (hF : S.Q.F flow = some x) (hP : S.Q.P id = none) (hid : 0 ≤ id ∧ id ≤ 4611686018427387904) (hfl : 0 ≤ flow ∧ flow ≤ 2147483647) (hsz : 1 ≤ size ∧ size ≤ 2000) (hnow : now ≤ 2147483647)
    (hx1 : x.rate = R) (hx2 : x.n = fN s R) (hx3 : x.d = fD s R) (hR : 1 ≤ R ∧ R ≤ 1000000) (hS : s < 1000000000000000000) (hb : -100000000 ≤ x.bytes ∧ x.bytes ≤ 100000000) (hr : 0 ≤ x.room ∧ x.room ≤ 1000000000) (hroom : x.bytes + size ≤ x.room) (hnp : S.Q.np < 50000) (hnew : ∀ y ∈ S.Q.L, y.id ≠ id) (hL : S.Q.L.length < 1000) (ht : 0 ≤ S.Q.t ∧ S.Q.t < 1000000) :
    callX Try.prog 38 [.pointer (some ⟨B.p, 0, none⟩), .agg ⟨[.int .i64 id, .int .i64 flow, .int .i64 size]⟩] σ fun e σ' lg =>
      e = .ret (.tuple ⟨[.agg ⟨[.int .i64 (fN (max (now * R) s + size) R : Int), .int .i64 (fD (max (now * R) s + size) R : Int)]⟩, .int .i64 0]⟩) ∧ PPromR σ B S id flow size x (fN (max (now * R) s + size) R) (fD (max (now * R) s + size) R) σ' lg := by
  have gp := H.gp
  have hp := H.lt
  rw [hnw] at gp
  have c1 : ¬ S.most < (size : Int) := by omega
  have n1 : ¬ σ.next = B.p := by omega
  have n2 : ¬ σ.next + 1 = B.p := by omega
  have hqk : ∀ c, Foot B.b S.Q c → c < σ.next := fun c hc => H.q.in_lt hc
  refine enter (p := q8) Try.func38 rfl stat38 ?_
  simp only [go_sem, Nat.reducePow, Nat.reduceDiv, Nat.reduceMod, Nat.reduceAdd, Nat.reduceSub, Nat.reduceMul, Nat.reduceLeDiff, Nat.reduceLT, Nat.reduceEqDiff, reduceCtorEq, reduceIte, reduceDIte, if_pos rfl, Int.reduceLT, Int.reduceLE, Int.reduceEq, Int.reduceNeg, Int.reduceAdd, Int.reduceSub, Int.reduceMul, Int.reduceToNat, opLen, undef, Try.f38, body25, body69]
  refine .of (pnone_call (p := B.p) (by simp only [go_sem, Nat.reducePow, Nat.reduceDiv, Nat.reduceMod, Nat.reduceAdd, Nat.reduceSub, Nat.reduceMul, Nat.reduceLeDiff, Nat.reduceLT, Nat.reduceEqDiff, reduceCtorEq, reduceIte, reduceDIte, if_pos rfl, Int.reduceLT, Int.reduceLE, Int.reduceEq, Int.reduceNeg, Int.reduceAdd, Int.reduceSub, Int.reduceMul, Int.reduceToNat, opLen, hp, gp]; rfl)) ?_
  simp only [go_sem, Nat.reducePow, Nat.reduceDiv, Nat.reduceMod, Nat.reduceAdd, Nat.reduceSub, Nat.reduceMul, Nat.reduceLeDiff, Nat.reduceLT, Nat.reduceEqDiff, reduceCtorEq, reduceIte, reduceDIte, if_pos rfl, Int.reduceLT, Int.reduceLE, Int.reduceEq, Int.reduceNeg, Int.reduceAdd, Int.reduceSub, Int.reduceMul, Int.reduceToNat, opLen, undef, gp, hp, c1, body25, body69]
  refine callX.hid (qput_call (H.q.keep (by simp only [go_sem, Nat.reducePow, Nat.reduceDiv, Nat.reduceMod, Nat.reduceAdd, Nat.reduceSub, Nat.reduceMul, Nat.reduceLeDiff, Nat.reduceLT, Nat.reduceEqDiff, reduceCtorEq, reduceIte, reduceDIte, if_pos rfl, Int.reduceLT, Int.reduceLE, Int.reduceEq, Int.reduceNeg, Int.reduceAdd, Int.reduceSub, Int.reduceMul, Int.reduceToNat, opLen]) fun c hc => by have := hqk c hc; simp only [go_sem, Nat.reducePow, Nat.reduceDiv, Nat.reduceMod, Nat.reduceAdd, Nat.reduceSub, Nat.reduceMul, Nat.reduceLeDiff, Nat.reduceLT, Nat.reduceEqDiff, reduceCtorEq, reduceIte, reduceDIte, if_pos rfl, Int.reduceLT, Int.reduceLE, Int.reduceEq, Int.reduceNeg, Int.reduceAdd, Int.reduceSub, Int.reduceMul, Int.reduceToNat, opLen, this]) id flow size now s R hF hP hid hfl hsz hnow hx1 hx2 hx3 hR hS hb hr hroom hnp hnew hL ht) ?_
  intro σ1 lg1 hlg1 hA
  obtain ⟨hB, A', hA', HQ⟩ := hA
  simp only [go_sem, Nat.reducePow, Nat.reduceDiv, Nat.reduceMod, Nat.reduceAdd, Nat.reduceSub, Nat.reduceMul, Nat.reduceLeDiff, Nat.reduceLT, Nat.reduceEqDiff, reduceCtorEq, reduceIte, reduceDIte, if_pos rfl, Int.reduceLT, Int.reduceLE, Int.reduceEq, Int.reduceNeg, Int.reduceAdd, Int.reduceSub, Int.reduceMul, Int.reduceToNat, opLen] at hB hA'
  have nx := hlg1.1
  simp only [go_sem, Nat.reducePow, Nat.reduceDiv, Nat.reduceMod, Nat.reduceAdd, Nat.reduceSub, Nat.reduceMul, Nat.reduceLeDiff, Nat.reduceLT, Nat.reduceEqDiff, reduceCtorEq, reduceIte, reduceDIte, if_pos rfl, Int.reduceLT, Int.reduceLE, Int.reduceEq, Int.reduceNeg, Int.reduceAdd, Int.reduceSub, Int.reduceMul, Int.reduceToNat, opLen] at nx
  have gk : ∀ c, c < σ.next + 2 → ¬ Foot B.b S.Q c → σ1.get c = ((σ.new (.cells [.int .i64 id, .int .i64 flow, .int .i64 size] false)).new (.cells [.int .i64 0, .int .i64 0] false)).get c := fun c hc hn => hlg1.2 c (by simp only [go_sem, Nat.reducePow, Nat.reduceDiv, Nat.reduceMod, Nat.reduceAdd, Nat.reduceSub, Nat.reduceMul, Nat.reduceLeDiff, Nat.reduceLT, Nat.reduceEqDiff, reduceCtorEq, reduceIte, reduceDIte, if_pos rfl, Int.reduceLT, Int.reduceLE, Int.reduceEq, Int.reduceNeg, Int.reduceAdd, Int.reduceSub, Int.reduceMul, Int.reduceToNat, opLen]; omega) fun hm => by
    rcases hB c hm with h | h
    · exact hn h
    · omega
  have g1 := gk (σ.next + 1) (by omega) fun h => by have := hqk _ h; omega
  simp only [go_sem, Nat.reducePow, Nat.reduceDiv, Nat.reduceMod, Nat.reduceAdd, Nat.reduceSub, Nat.reduceMul, Nat.reduceLeDiff, Nat.reduceLT, Nat.reduceEqDiff, reduceCtorEq, reduceIte, reduceDIte, if_pos rfl, Int.reduceLT, Int.reduceLE, Int.reduceEq, Int.reduceNeg, Int.reduceAdd, Int.reduceSub, Int.reduceMul, Int.reduceToNat, opLen] at g1
  have k1 : σ.next + 1 < σ1.next := by omega
  refine ⟨?_⟩
  have q1 : ¬ σ.next + 2 ≤ B.p := by omega
  simp only [go_sem, Nat.reducePow, Nat.reduceDiv, Nat.reduceMod, Nat.reduceAdd, Nat.reduceSub, Nat.reduceMul, Nat.reduceLeDiff, Nat.reduceLT, Nat.reduceEqDiff, reduceCtorEq, reduceIte, reduceDIte, if_pos rfl, Int.reduceLT, Int.reduceLE, Int.reduceEq, Int.reduceNeg, Int.reduceAdd, Int.reduceSub, Int.reduceMul, Int.reduceToNat, opLen, undef, g1, k1, q1, body25, body69]
  have hfo : ∀ c, Foot { B.b with A := A' } { S.Q with F := updF S.Q.F flow (some { x with bytes := x.bytes + size, n := (fN (max (now * R) s + size) R : Nat), d := (fD (max (now * R) s + size) R : Nat) }), P := updF S.Q.P id (some (flow, (size : Int))), np := S.Q.np + 1, L := riseL (S.Q.L.length + 1) (S.Q.L ++ [⟨id, (fN (max (now * R) s + size) R : Nat), (fD (max (now * R) s + size) R : Nat), S.Q.t + 1⟩]) S.Q.L.length, t := S.Q.t + 1 } c → Foot B.b S.Q c ∨ σ.next + 2 ≤ c := by
    intro c hc
    rcases hc with hc | ⟨k, z, hz, rfl⟩
    · simp only [QB.core, List.mem_cons] at hc
      rcases hc with h | h | h | h | h | h
      · exact .inl (.inl (by simp [QB.core, h]))
      · exact .inl (.inl (by simp [QB.core, h]))
      · exact .inl (.inl (by simp [QB.core, h]))
      · exact .inl (.inl (by simp [QB.core, h]))
      · exact .inl (.inl (by simp [QB.core, h]))
      · rcases hA' c h with h | h
        · exact .inl (.inl (by simp [QB.core, h]))
        · exact .inr h
    · by_cases hk : k = flow
      · subst hk
        have e := hz
        simp only [updF_same, Option.some.injEq] at e
        subst e
        exact .inl (.inr ⟨k, x, hF, rfl⟩)
      · have e := hz
        simp only [updF_other _ _ hk] at e
        exact .inl (.inr ⟨k, z, e, rfl⟩)
  refine ⟨fun z hz => ?_, A', fun c hc => (hA' c hc).imp _root_.id fun h => by omega, H.queue (b' := { B.b with A := A' }) (by simp only [go_sem, Nat.reducePow, Nat.reduceDiv, Nat.reduceMod, Nat.reduceAdd, Nat.reduceSub, Nat.reduceMul, Nat.reduceLeDiff, Nat.reduceLT, Nat.reduceEqDiff, reduceCtorEq, reduceIte, reduceDIte, if_pos rfl, Int.reduceLT, Int.reduceLE, Int.reduceEq, Int.reduceNeg, Int.reduceAdd, Int.reduceSub, Int.reduceMul, Int.reduceToNat, opLen, St.next_put] <;> omega) (fun c hc hn => ?_) (HQ.keep (by simp only [go_sem, Nat.reducePow, Nat.reduceDiv, Nat.reduceMod, Nat.reduceAdd, Nat.reduceSub, Nat.reduceMul, Nat.reduceLeDiff, Nat.reduceLT, Nat.reduceEqDiff, reduceCtorEq, reduceIte, reduceDIte, if_pos rfl, Int.reduceLT, Int.reduceLE, Int.reduceEq, Int.reduceNeg, Int.reduceAdd, Int.reduceSub, Int.reduceMul, Int.reduceToNat, opLen, St.next_put] <;> omega) fun c hc => ?_) rfl fun c hc => (hfo c hc).imp _root_.id fun h => by omega⟩
  · rcases List.mem_append.1 hz with hz | hz
    · rcases hB z hz with h | h
      · exact .inl (.inr (.inr (.inr (.inr h))))
      · exact .inr (by omega)
    · simp at hz; exact .inr (by omega)
  · rw [St.get_set, if_neg (by omega), gk c (by omega) hn, St.get_new, if_neg (by rw [St.next_new]; omega), St.get_new, if_neg (by omega)]
  · rw [St.get_set, if_neg fun e => ?_]
    rcases hfo c hc with h | h
    · have := hqk c h; omega
    · omega

/-- Under, where one is under way. -/
theorem under_some {σ : St} {B : PB} {S : PV} (H : PAt σ B S) {x : OnV} (hx : S.on = some x) : DCall Try.prog 37 [.pointer (some ⟨B.p, 0, none⟩)] σ (.ret (.tuple ⟨[x.pk.val, .int .i64 x.left, .bool true]⟩)) σ [] := by
  have gp := H.gp
  have hp := H.lt
  obtain ⟨o, ho⟩ : ∃ o, B.o = some o := by
    have := H.on.has
    rw [hx] at this
    exact Option.isSome_iff_exists.1 this
  obtain ⟨go, hol, hop, _, _, _⟩ := H.on.get o x ho hx
  rw [ho] at gp
  simp only [onPtr] at gp
  simp only [OnV.cells] at go
  have n1 : ¬ σ.next = B.p := by omega
  have n2 : ¬ σ.next = o := by omega
  refine pure_call (enter (p := q8) Try.func37 rfl stat37 ?_) rfl
  simp only [go_sem, Nat.reducePow, Nat.reduceDiv, Nat.reduceMod, Nat.reduceAdd, Nat.reduceSub, Nat.reduceMul, Nat.reduceLeDiff, Nat.reduceLT, Nat.reduceEqDiff, reduceCtorEq, reduceIte, reduceDIte, if_pos rfl, Int.reduceLT, Int.reduceLE, Int.reduceEq, Int.reduceNeg, Int.reduceAdd, Int.reduceSub, Int.reduceMul, Int.reduceToNat, opLen, undef, Pk.val, Pk.cells, Try.f37, body69]
  refine .of (pnone_call (p := B.p) (by simp only [go_sem, Nat.reducePow, Nat.reduceDiv, Nat.reduceMod, Nat.reduceAdd, Nat.reduceSub, Nat.reduceMul, Nat.reduceLeDiff, Nat.reduceLT, Nat.reduceEqDiff, reduceCtorEq, reduceIte, reduceDIte, if_pos rfl, Int.reduceLT, Int.reduceLE, Int.reduceEq, Int.reduceNeg, Int.reduceAdd, Int.reduceSub, Int.reduceMul, Int.reduceToNat, opLen, hp, gp]; rfl)) ?_
  simp only [go_sem, Nat.reducePow, Nat.reduceDiv, Nat.reduceMod, Nat.reduceAdd, Nat.reduceSub, Nat.reduceMul, Nat.reduceLeDiff, Nat.reduceLT, Nat.reduceEqDiff, reduceCtorEq, reduceIte, reduceDIte, if_pos rfl, Int.reduceLT, Int.reduceLE, Int.reduceEq, Int.reduceNeg, Int.reduceAdd, Int.reduceSub, Int.reduceMul, Int.reduceToNat, opLen, undef, gp, hp, go, hol, n1, n2, body69]

/-- Under, where none is. -/
theorem under_none {σ : St} {B : PB} {S : PV} (H : PAt σ B S) (hx : S.on = none) : DCall Try.prog 37 [.pointer (some ⟨B.p, 0, none⟩)] σ (.ret (.tuple ⟨[Pk.zero.val, .int .i64 0, .bool false]⟩)) σ [] := by
  have gp := H.gp
  have hp := H.lt
  have ho : B.o = none := by
    have := H.on.has
    rw [hx] at this
    cases h : B.o with
    | none => rfl
    | some o => rw [h] at this; cases this
  rw [ho] at gp
  simp only [onPtr] at gp
  refine pure_call (enter (p := q8) Try.func37 rfl stat37 ?_) rfl
  simp only [go_sem, Nat.reducePow, Nat.reduceDiv, Nat.reduceMod, Nat.reduceAdd, Nat.reduceSub, Nat.reduceMul, Nat.reduceLeDiff, Nat.reduceLT, Nat.reduceEqDiff, reduceCtorEq, reduceIte, reduceDIte, if_pos rfl, Int.reduceLT, Int.reduceLE, Int.reduceEq, Int.reduceNeg, Int.reduceAdd, Int.reduceSub, Int.reduceMul, Int.reduceToNat, opLen, undef, Pk.val, Pk.cells, Pk.zero, Try.f37, body69]
  refine .of (pnone_call (p := B.p) (by simp only [go_sem, Nat.reducePow, Nat.reduceDiv, Nat.reduceMod, Nat.reduceAdd, Nat.reduceSub, Nat.reduceMul, Nat.reduceLeDiff, Nat.reduceLT, Nat.reduceEqDiff, reduceCtorEq, reduceIte, reduceDIte, if_pos rfl, Int.reduceLT, Int.reduceLE, Int.reduceEq, Int.reduceNeg, Int.reduceAdd, Int.reduceSub, Int.reduceMul, Int.reduceToNat, opLen, hp, gp]; rfl)) ?_
  simp only [go_sem, Nat.reducePow, Nat.reduceDiv, Nat.reduceMod, Nat.reduceAdd, Nat.reduceSub, Nat.reduceMul, Nat.reduceLeDiff, Nat.reduceLT, Nat.reduceEqDiff, reduceCtorEq, reduceIte, reduceDIte, if_pos rfl, Int.reduceLT, Int.reduceLE, Int.reduceEq, Int.reduceNeg, Int.reduceAdd, Int.reduceSub, Int.reduceMul, Int.reduceToNat, opLen, undef, gp, hp, body69]

end Go.Ab

set_option linter.unusedSimpArgs false
set_option linter.unusedVariables false
namespace Go.Ab
open Go.Proofs

/-- The first of a queue. -/
structure Head (Q : QV) (y : Item) (flow size : Int) (x : FlowV) : Prop where
  head : Q.L[0]? = some y
  pack : Q.P y.id = some (flow, size)
  flow : Q.F flow = some x
  size : 1 ≤ size ∧ size ≤ 2000
  bytes : -100000000 ≤ x.bytes ∧ x.bytes ≤ 100000000

def takeV (Q : QV) (y : Item) (flow size : Int) (x : FlowV) : QV := { Q with F := updF Q.F flow (some { x with bytes := x.bytes - size }), P := updF Q.P y.id none, np := Q.np - 1, L := outL Q.L 0 }
def qOn (y : Item) (flow size : Int) : OnV := ⟨⟨y.id, flow, size⟩, true, y.n, y.d, 0, size⟩
def noOn (b : Bool) : OnV := ⟨⟨0, 0, 0⟩, b, 0, 0, 0, 0⟩

theorem takeV_foot {b : QB} {Q : QV} {y : Item} {flow size : Int} {x : FlowV} (h : Head Q y flow size x) {c : Nat} (hc : Foot b (takeV Q y flow size x) c) : Foot b Q c := by
  rcases hc with hc | ⟨k, z, hz, rfl⟩
  · exact .inl hc
  · by_cases hk : k = flow
    · subst hk
      have e : updF Q.F k (some { x with bytes := x.bytes - size }) k = some z := hz
      simp only [updF_same, Option.some.injEq] at e
      subst e
      exact .inr ⟨k, x, h.flow, rfl⟩
    · have e : updF Q.F flow (some { x with bytes := x.bytes - size }) k = some z := hz
      simp only [updF_other _ _ hk] at e
      exact .inr ⟨k, z, e, rfl⟩

def TakenR (σ : St) (B : PB) (S S' : PV) (σ' : St) (lg : Log) : Prop := (∀ z ∈ lg, PFoot B S.Q z ∨ σ.next ≤ z) ∧ PAt σ' B S'

set_option maxRecDepth 20000 in
theorem n1_some {σ : St} {B : PB} {S : PV} (H : PAt σ B S) {c : Nat} (gc : σ.get c = some (.cells [.pointer (some ⟨B.p, 0, none⟩)] false)) (hc : c < σ.next) {y : Item} {flow size : Int} {x : FlowV} (h : Head S.Q y flow size x) :
    callX Try.prog 106 [.pointer (some ⟨c, 0, none⟩)] σ fun e σ' lg => e = .ret (.tuple ⟨[.agg ⟨(qOn y flow size).cells⟩, .bool true]⟩) ∧ TakenR σ B S { S with Q := takeV S.Q y flow size x } σ' lg := by
  have gp := H.gp
  have hp := H.lt
  have n1 : ¬ σ.next = c := by omega
  have n2 : ¬ σ.next = B.p := by omega
  have hqk : ∀ c, Foot B.b S.Q c → c < σ.next := fun c hc => H.q.in_lt hc
  refine enter (p := q8) Try.func106 rfl stat106 ?_
  simp only [go_sem, Nat.reducePow, Nat.reduceDiv, Nat.reduceMod, Nat.reduceAdd, Nat.reduceSub, Nat.reduceMul, Nat.reduceLeDiff, Nat.reduceLT, Nat.reduceEqDiff, reduceCtorEq, reduceIte, reduceDIte, if_pos rfl, Int.reduceLT, Int.reduceLE, Int.reduceEq, Int.reduceNeg, Int.reduceAdd, Int.reduceSub, Int.reduceMul, Int.reduceToNat, opLen, undef, qOn, OnV.cells, Try.f106, gc, gp, hc, hp, n1, n2, body26]
  refine callX.hid (qtake_call (H.q.keep (by simp only [go_sem, Nat.reducePow, Nat.reduceDiv, Nat.reduceMod, Nat.reduceAdd, Nat.reduceSub, Nat.reduceMul, Nat.reduceLeDiff, Nat.reduceLT, Nat.reduceEqDiff, reduceCtorEq, reduceIte, reduceDIte, if_pos rfl, Int.reduceLT, Int.reduceLE, Int.reduceEq, Int.reduceNeg, Int.reduceAdd, Int.reduceSub, Int.reduceMul, Int.reduceToNat, opLen]) fun c hc => by have := hqk c hc; simp only [go_sem, Nat.reducePow, Nat.reduceDiv, Nat.reduceMod, Nat.reduceAdd, Nat.reduceSub, Nat.reduceMul, Nat.reduceLeDiff, Nat.reduceLT, Nat.reduceEqDiff, reduceCtorEq, reduceIte, reduceDIte, if_pos rfl, Int.reduceLT, Int.reduceLE, Int.reduceEq, Int.reduceNeg, Int.reduceAdd, Int.reduceSub, Int.reduceMul, Int.reduceToNat, opLen, this]) h.head h.pack h.flow ⟨by have := h.size; omega, h.size.2⟩ h.bytes) ?_
  intro σ1 lg1 hlg1 hA
  obtain ⟨hB, HQ⟩ := hA
  have nx := hlg1.1
  simp only [go_sem, Nat.reducePow, Nat.reduceDiv, Nat.reduceMod, Nat.reduceAdd, Nat.reduceSub, Nat.reduceMul, Nat.reduceLeDiff, Nat.reduceLT, Nat.reduceEqDiff, reduceCtorEq, reduceIte, reduceDIte, if_pos rfl, Int.reduceLT, Int.reduceLE, Int.reduceEq, Int.reduceNeg, Int.reduceAdd, Int.reduceSub, Int.reduceMul, Int.reduceToNat, opLen] at nx hB
  have gk : ∀ c, c < σ.next + 1 → ¬ Foot B.b S.Q c → σ1.get c = (σ.new (.cells [.int .i64 0, .int .i64 0, .int .i64 0, .bool false, .int .i64 0, .int .i64 0, .int .i64 0, .int .i64 0] false)).get c := fun c hc hn => hlg1.2 c (by simp only [go_sem, Nat.reducePow, Nat.reduceDiv, Nat.reduceMod, Nat.reduceAdd, Nat.reduceSub, Nat.reduceMul, Nat.reduceLeDiff, Nat.reduceLT, Nat.reduceEqDiff, reduceCtorEq, reduceIte, reduceDIte, if_pos rfl, Int.reduceLT, Int.reduceLE, Int.reduceEq, Int.reduceNeg, Int.reduceAdd, Int.reduceSub, Int.reduceMul, Int.reduceToNat, opLen] <;> omega) fun hm => by
    rcases hB c hm with h | h
    · exact hn h
    · omega
  have g0 := gk σ.next (by omega) fun h => by have := hqk _ h; omega
  simp only [go_sem, Nat.reducePow, Nat.reduceDiv, Nat.reduceMod, Nat.reduceAdd, Nat.reduceSub, Nat.reduceMul, Nat.reduceLeDiff, Nat.reduceLT, Nat.reduceEqDiff, reduceCtorEq, reduceIte, reduceDIte, if_pos rfl, Int.reduceLT, Int.reduceLE, Int.reduceEq, Int.reduceNeg, Int.reduceAdd, Int.reduceSub, Int.reduceMul, Int.reduceToNat, opLen] at g0
  have k1 : σ.next < σ1.next := by omega
  refine ⟨?_⟩
  simp only [go_sem, Nat.reducePow, Nat.reduceDiv, Nat.reduceMod, Nat.reduceAdd, Nat.reduceSub, Nat.reduceMul, Nat.reduceLeDiff, Nat.reduceLT, Nat.reduceEqDiff, reduceCtorEq, reduceIte, reduceDIte, if_pos rfl, Int.reduceLT, Int.reduceLE, Int.reduceEq, Int.reduceNeg, Int.reduceAdd, Int.reduceSub, Int.reduceMul, Int.reduceToNat, opLen, undef, g0, k1, body26]
  have HQ' : QAt σ1 B.b (takeV S.Q y flow size x) := HQ
  refine ⟨fun z hz => ?_, H.queue (b' := B.b) (by simp only [go_sem, Nat.reducePow, Nat.reduceDiv, Nat.reduceMod, Nat.reduceAdd, Nat.reduceSub, Nat.reduceMul, Nat.reduceLeDiff, Nat.reduceLT, Nat.reduceEqDiff, reduceCtorEq, reduceIte, reduceDIte, if_pos rfl, Int.reduceLT, Int.reduceLE, Int.reduceEq, Int.reduceNeg, Int.reduceAdd, Int.reduceSub, Int.reduceMul, Int.reduceToNat, opLen, St.next_put] <;> omega) (fun c hc hn => ?_) (HQ'.keep (by simp only [go_sem, Nat.reducePow, Nat.reduceDiv, Nat.reduceMod, Nat.reduceAdd, Nat.reduceSub, Nat.reduceMul, Nat.reduceLeDiff, Nat.reduceLT, Nat.reduceEqDiff, reduceCtorEq, reduceIte, reduceDIte, if_pos rfl, Int.reduceLT, Int.reduceLE, Int.reduceEq, Int.reduceNeg, Int.reduceAdd, Int.reduceSub, Int.reduceMul, Int.reduceToNat, opLen, St.next_put] <;> omega) fun c hc => ?_) rfl fun c hc => .inl (takeV_foot h hc)⟩
  · simp only [List.mem_append, List.mem_cons, List.not_mem_nil, or_false] at hz
    rcases hz with ((hz | hz) | hz) | hz
    · rcases hB z hz with h | h
      · exact .inl (.inr (.inr (.inr (.inr h))))
      · exact .inr (by omega)
    · exact .inr (by omega)
    · exact .inr (by omega)
    · exact .inr (by omega)
  · have m1 : ¬ σ.next = c := by omega
    have m2 : c < σ1.next := by omega
    simp only [go_sem, Nat.reducePow, Nat.reduceDiv, Nat.reduceMod, Nat.reduceAdd, Nat.reduceSub, Nat.reduceMul, Nat.reduceLeDiff, Nat.reduceLT, Nat.reduceEqDiff, reduceCtorEq, reduceIte, reduceDIte, if_pos rfl, Int.reduceLT, Int.reduceLE, Int.reduceEq, Int.reduceNeg, Int.reduceAdd, Int.reduceSub, Int.reduceMul, Int.reduceToNat, opLen, m1, m2]
    rw [gk c (by omega) hn, St.get_new, if_neg m1]
  · have m0 := hqk c (takeV_foot h hc)
    have m1 : ¬ σ.next = c := by omega
    have m2 : c < σ1.next := by omega
    simp only [go_sem, Nat.reducePow, Nat.reduceDiv, Nat.reduceMod, Nat.reduceAdd, Nat.reduceSub, Nat.reduceMul, Nat.reduceLeDiff, Nat.reduceLT, Nat.reduceEqDiff, reduceCtorEq, reduceIte, reduceDIte, if_pos rfl, Int.reduceLT, Int.reduceLE, Int.reduceEq, Int.reduceNeg, Int.reduceAdd, Int.reduceSub, Int.reduceMul, Int.reduceToNat, opLen, m1, m2]

set_option maxRecDepth 20000 in
theorem n1_none {σ : St} {B : PB} {S : PV} (H : PAt σ B S) {c : Nat} (gc : σ.get c = some (.cells [.pointer (some ⟨B.p, 0, none⟩)] false)) (hc : c < σ.next) (h : S.Q.L = []) :
    DCall Try.prog 106 [.pointer (some ⟨c, 0, none⟩)] σ (.ret (.tuple ⟨[.agg ⟨(noOn true).cells⟩, .bool false]⟩)) σ [] := by
  have gp := H.gp
  have hp := H.lt
  have n1 : ¬ σ.next = c := by omega
  have n2 : ¬ σ.next = B.p := by omega
  have hqk : ∀ c, Foot B.b S.Q c → c < σ.next := fun c hc => H.q.in_lt hc
  refine pure_call (enter (p := q8) Try.func106 rfl stat106 ?_) rfl
  simp only [go_sem, Nat.reducePow, Nat.reduceDiv, Nat.reduceMod, Nat.reduceAdd, Nat.reduceSub, Nat.reduceMul, Nat.reduceLeDiff, Nat.reduceLT, Nat.reduceEqDiff, reduceCtorEq, reduceIte, reduceDIte, if_pos rfl, Int.reduceLT, Int.reduceLE, Int.reduceEq, Int.reduceNeg, Int.reduceAdd, Int.reduceSub, Int.reduceMul, Int.reduceToNat, opLen, undef, noOn, OnV.cells, Try.f106, gc, gp, hc, hp, n1, n2, body26]
  refine callX.hid (qtake_empty (H.q.keep (by simp only [go_sem, Nat.reducePow, Nat.reduceDiv, Nat.reduceMod, Nat.reduceAdd, Nat.reduceSub, Nat.reduceMul, Nat.reduceLeDiff, Nat.reduceLT, Nat.reduceEqDiff, reduceCtorEq, reduceIte, reduceDIte, if_pos rfl, Int.reduceLT, Int.reduceLE, Int.reduceEq, Int.reduceNeg, Int.reduceAdd, Int.reduceSub, Int.reduceMul, Int.reduceToNat, opLen]) fun c hc => by have := hqk c hc; simp only [go_sem, Nat.reducePow, Nat.reduceDiv, Nat.reduceMod, Nat.reduceAdd, Nat.reduceSub, Nat.reduceMul, Nat.reduceLeDiff, Nat.reduceLT, Nat.reduceEqDiff, reduceCtorEq, reduceIte, reduceDIte, if_pos rfl, Int.reduceLT, Int.reduceLE, Int.reduceEq, Int.reduceNeg, Int.reduceAdd, Int.reduceSub, Int.reduceMul, Int.reduceToNat, opLen, this]) h) ?_
  intro σ1 lg1 hlg1 hB
  have nx := hlg1.1
  simp only [go_sem, Nat.reducePow, Nat.reduceDiv, Nat.reduceMod, Nat.reduceAdd, Nat.reduceSub, Nat.reduceMul, Nat.reduceLeDiff, Nat.reduceLT, Nat.reduceEqDiff, reduceCtorEq, reduceIte, reduceDIte, if_pos rfl, Int.reduceLT, Int.reduceLE, Int.reduceEq, Int.reduceNeg, Int.reduceAdd, Int.reduceSub, Int.reduceMul, Int.reduceToNat, opLen] at nx hB
  have g0 : σ1.get σ.next = (σ.new (.cells [.int .i64 0, .int .i64 0, .int .i64 0, .bool false, .int .i64 0, .int .i64 0, .int .i64 0, .int .i64 0] false)).get σ.next := hlg1.2 _ (by simp only [go_sem, Nat.reducePow, Nat.reduceDiv, Nat.reduceMod, Nat.reduceAdd, Nat.reduceSub, Nat.reduceMul, Nat.reduceLeDiff, Nat.reduceLT, Nat.reduceEqDiff, reduceCtorEq, reduceIte, reduceDIte, if_pos rfl, Int.reduceLT, Int.reduceLE, Int.reduceEq, Int.reduceNeg, Int.reduceAdd, Int.reduceSub, Int.reduceMul, Int.reduceToNat, opLen] <;> omega) fun hm => by have := hB _ hm; omega
  simp only [go_sem, Nat.reducePow, Nat.reduceDiv, Nat.reduceMod, Nat.reduceAdd, Nat.reduceSub, Nat.reduceMul, Nat.reduceLeDiff, Nat.reduceLT, Nat.reduceEqDiff, reduceCtorEq, reduceIte, reduceDIte, if_pos rfl, Int.reduceLT, Int.reduceLE, Int.reduceEq, Int.reduceNeg, Int.reduceAdd, Int.reduceSub, Int.reduceMul, Int.reduceToNat, opLen] at g0
  have k1 : σ.next < σ1.next := by omega
  refine ⟨?_⟩
  simp only [go_sem, Nat.reducePow, Nat.reduceDiv, Nat.reduceMod, Nat.reduceAdd, Nat.reduceSub, Nat.reduceMul, Nat.reduceLeDiff, Nat.reduceLT, Nat.reduceEqDiff, reduceCtorEq, reduceIte, reduceDIte, if_pos rfl, Int.reduceLT, Int.reduceLE, Int.reduceEq, Int.reduceNeg, Int.reduceAdd, Int.reduceSub, Int.reduceMul, Int.reduceToNat, opLen, undef, g0, k1, body26]
  intro z hz
  rcases hz with ((hz | hz) | hz) | hz
  · have := hB z hz; omega
  · omega
  · omega
  · omega

set_option maxRecDepth 20000 in
theorem n2_some {σ : St} {B : PB} {S : PV} (H : PAt σ B S) {c : Nat} (gc : σ.get c = some (.cells [.pointer (some ⟨B.p, 0, none⟩)] false)) (hc : c < σ.next) {x : Pk} {L : List Pk} (h : S.V.L = x :: L) :
    callX Try.prog 107 [.pointer (some ⟨c, 0, none⟩)] σ fun e σ' lg => e = .ret (.tuple ⟨[.agg ⟨(lineOn x).cells⟩, .bool true]⟩) ∧ TakenR σ B S { S with V := { S.V with L := L } } σ' lg := by
  have gp := H.gp
  have hp := H.lt
  have hll := H.l.lt
  have n1 : ¬ σ.next = c := by omega
  have n2 : ¬ σ.next = B.p := by omega
  refine enter (p := q8) Try.func107 rfl stat107 ?_
  simp only [go_sem, Nat.reducePow, Nat.reduceDiv, Nat.reduceMod, Nat.reduceAdd, Nat.reduceSub, Nat.reduceMul, Nat.reduceLeDiff, Nat.reduceLT, Nat.reduceEqDiff, reduceCtorEq, reduceIte, reduceDIte, if_pos rfl, Int.reduceLT, Int.reduceLE, Int.reduceEq, Int.reduceNeg, Int.reduceAdd, Int.reduceSub, Int.reduceMul, Int.reduceToNat, opLen, undef, lineOn, OnV.cells, Try.f107, gc, gp, hc, hp, n1, n2, body108]
  refine callX.hid (ltake_call (H.l.keep (by simp only [go_sem, Nat.reducePow, Nat.reduceDiv, Nat.reduceMod, Nat.reduceAdd, Nat.reduceSub, Nat.reduceMul, Nat.reduceLeDiff, Nat.reduceLT, Nat.reduceEqDiff, reduceCtorEq, reduceIte, reduceDIte, if_pos rfl, Int.reduceLT, Int.reduceLE, Int.reduceEq, Int.reduceNeg, Int.reduceAdd, Int.reduceSub, Int.reduceMul, Int.reduceToNat, opLen]) (by simp only [go_sem, Nat.reducePow, Nat.reduceDiv, Nat.reduceMod, Nat.reduceAdd, Nat.reduceSub, Nat.reduceMul, Nat.reduceLeDiff, Nat.reduceLT, Nat.reduceEqDiff, reduceCtorEq, reduceIte, reduceDIte, if_pos rfl, Int.reduceLT, Int.reduceLE, Int.reduceEq, Int.reduceNeg, Int.reduceAdd, Int.reduceSub, Int.reduceMul, Int.reduceToNat, opLen, hll.1]) (by simp only [go_sem, Nat.reducePow, Nat.reduceDiv, Nat.reduceMod, Nat.reduceAdd, Nat.reduceSub, Nat.reduceMul, Nat.reduceLeDiff, Nat.reduceLT, Nat.reduceEqDiff, reduceCtorEq, reduceIte, reduceDIte, if_pos rfl, Int.reduceLT, Int.reduceLE, Int.reduceEq, Int.reduceNeg, Int.reduceAdd, Int.reduceSub, Int.reduceMul, Int.reduceToNat, opLen, hll.2])) h) ?_
  intro σ1 lg1 hlg1 hA
  obtain ⟨hB, HL⟩ := hA
  have nx := hlg1.1
  simp only [go_sem, Nat.reducePow, Nat.reduceDiv, Nat.reduceMod, Nat.reduceAdd, Nat.reduceSub, Nat.reduceMul, Nat.reduceLeDiff, Nat.reduceLT, Nat.reduceEqDiff, reduceCtorEq, reduceIte, reduceDIte, if_pos rfl, Int.reduceLT, Int.reduceLE, Int.reduceEq, Int.reduceNeg, Int.reduceAdd, Int.reduceSub, Int.reduceMul, Int.reduceToNat, opLen] at nx hB
  have gk : ∀ c, c < σ.next + 1 → c ≠ B.l → σ1.get c = (σ.new (.cells [.int .i64 0, .int .i64 0, .int .i64 0, .bool false, .int .i64 0, .int .i64 0, .int .i64 0, .int .i64 0] false)).get c := fun c hc hn => hlg1.2 c (by simp only [go_sem, Nat.reducePow, Nat.reduceDiv, Nat.reduceMod, Nat.reduceAdd, Nat.reduceSub, Nat.reduceMul, Nat.reduceLeDiff, Nat.reduceLT, Nat.reduceEqDiff, reduceCtorEq, reduceIte, reduceDIte, if_pos rfl, Int.reduceLT, Int.reduceLE, Int.reduceEq, Int.reduceNeg, Int.reduceAdd, Int.reduceSub, Int.reduceMul, Int.reduceToNat, opLen] <;> omega) fun hm => by
    rcases hB c hm with h | h
    · exact hn h
    · omega
  have g0 := gk σ.next (by omega) (by omega)
  simp only [go_sem, Nat.reducePow, Nat.reduceDiv, Nat.reduceMod, Nat.reduceAdd, Nat.reduceSub, Nat.reduceMul, Nat.reduceLeDiff, Nat.reduceLT, Nat.reduceEqDiff, reduceCtorEq, reduceIte, reduceDIte, if_pos rfl, Int.reduceLT, Int.reduceLE, Int.reduceEq, Int.reduceNeg, Int.reduceAdd, Int.reduceSub, Int.reduceMul, Int.reduceToNat, opLen] at g0
  have k1 : σ.next < σ1.next := by omega
  refine ⟨?_⟩
  simp only [go_sem, Nat.reducePow, Nat.reduceDiv, Nat.reduceMod, Nat.reduceAdd, Nat.reduceSub, Nat.reduceMul, Nat.reduceLeDiff, Nat.reduceLT, Nat.reduceEqDiff, reduceCtorEq, reduceIte, reduceDIte, if_pos rfl, Int.reduceLT, Int.reduceLE, Int.reduceEq, Int.reduceNeg, Int.reduceAdd, Int.reduceSub, Int.reduceMul, Int.reduceToNat, opLen, undef, Pk.val, Pk.cells, g0, k1, body108]
  have fin : ∀ c, c < σ.next → ∀ o o' o'', (((σ1.new o).set σ1.next o').set σ.next o'').get c = σ1.get c := fun c hc o o' o'' => by
    rw [St.get_set, if_neg (by omega), St.get_set, if_neg (by omega), St.get_new, if_neg (by omega)]
  refine ⟨fun z hz => ?_, H.line (r' := B.r) (by simp only [go_sem, Nat.reducePow, Nat.reduceDiv, Nat.reduceMod, Nat.reduceAdd, Nat.reduceSub, Nat.reduceMul, Nat.reduceLeDiff, Nat.reduceLT, Nat.reduceEqDiff, reduceCtorEq, reduceIte, reduceDIte, if_pos rfl, Int.reduceLT, Int.reduceLE, Int.reduceEq, Int.reduceNeg, Int.reduceAdd, Int.reduceSub, Int.reduceMul, Int.reduceToNat, opLen, St.next_put] <;> omega) (fun c hc hcl hcr => ?_) (HL.keep (by simp only [go_sem, Nat.reducePow, Nat.reduceDiv, Nat.reduceMod, Nat.reduceAdd, Nat.reduceSub, Nat.reduceMul, Nat.reduceLeDiff, Nat.reduceLT, Nat.reduceEqDiff, reduceCtorEq, reduceIte, reduceDIte, if_pos rfl, Int.reduceLT, Int.reduceLE, Int.reduceEq, Int.reduceNeg, Int.reduceAdd, Int.reduceSub, Int.reduceMul, Int.reduceToNat, opLen, St.next_put] <;> omega) (fin _ hll.1 _ _ _) (fin _ hll.2 _ _ _)) (.inl rfl)⟩
  · simp only [List.mem_append, List.mem_cons, List.not_mem_nil, or_false] at hz
    rcases hz with (hz | hz) | hz
    · rcases hB z hz with h | h
      · exact .inl (.inr (.inl h))
      · exact .inr (by omega)
    · exact .inr (by omega)
    · exact .inr (by omega)
  · rw [fin c hc, gk c (by omega) hcl, St.get_new, if_neg (by omega)]

set_option maxRecDepth 20000 in
theorem n2_none {σ : St} {B : PB} {S : PV} (H : PAt σ B S) {c : Nat} (gc : σ.get c = some (.cells [.pointer (some ⟨B.p, 0, none⟩)] false)) (hc : c < σ.next) (h : S.V.L = []) :
    DCall Try.prog 107 [.pointer (some ⟨c, 0, none⟩)] σ (.ret (.tuple ⟨[.agg ⟨(noOn false).cells⟩, .bool false]⟩)) σ [] := by
  have gp := H.gp
  have hp := H.lt
  have hll := H.l.lt
  have n1 : ¬ σ.next = c := by omega
  have n2 : ¬ σ.next = B.p := by omega
  refine pure_call (enter (p := q8) Try.func107 rfl stat107 ?_) rfl
  simp only [go_sem, Nat.reducePow, Nat.reduceDiv, Nat.reduceMod, Nat.reduceAdd, Nat.reduceSub, Nat.reduceMul, Nat.reduceLeDiff, Nat.reduceLT, Nat.reduceEqDiff, reduceCtorEq, reduceIte, reduceDIte, if_pos rfl, Int.reduceLT, Int.reduceLE, Int.reduceEq, Int.reduceNeg, Int.reduceAdd, Int.reduceSub, Int.reduceMul, Int.reduceToNat, opLen, undef, noOn, OnV.cells, Try.f107, gc, gp, hc, hp, n1, n2, body108]
  refine .of (ltake_none (H.l.keep (by simp only [go_sem, Nat.reducePow, Nat.reduceDiv, Nat.reduceMod, Nat.reduceAdd, Nat.reduceSub, Nat.reduceMul, Nat.reduceLeDiff, Nat.reduceLT, Nat.reduceEqDiff, reduceCtorEq, reduceIte, reduceDIte, if_pos rfl, Int.reduceLT, Int.reduceLE, Int.reduceEq, Int.reduceNeg, Int.reduceAdd, Int.reduceSub, Int.reduceMul, Int.reduceToNat, opLen]) (by simp only [go_sem, Nat.reducePow, Nat.reduceDiv, Nat.reduceMod, Nat.reduceAdd, Nat.reduceSub, Nat.reduceMul, Nat.reduceLeDiff, Nat.reduceLT, Nat.reduceEqDiff, reduceCtorEq, reduceIte, reduceDIte, if_pos rfl, Int.reduceLT, Int.reduceLE, Int.reduceEq, Int.reduceNeg, Int.reduceAdd, Int.reduceSub, Int.reduceMul, Int.reduceToNat, opLen, hll.1]) (by simp only [go_sem, Nat.reducePow, Nat.reduceDiv, Nat.reduceMod, Nat.reduceAdd, Nat.reduceSub, Nat.reduceMul, Nat.reduceLeDiff, Nat.reduceLT, Nat.reduceEqDiff, reduceCtorEq, reduceIte, reduceDIte, if_pos rfl, Int.reduceLT, Int.reduceLE, Int.reduceEq, Int.reduceNeg, Int.reduceAdd, Int.reduceSub, Int.reduceMul, Int.reduceToNat, opLen, hll.2])) h) ?_
  simp only [go_sem, Nat.reducePow, Nat.reduceDiv, Nat.reduceMod, Nat.reduceAdd, Nat.reduceSub, Nat.reduceMul, Nat.reduceLeDiff, Nat.reduceLT, Nat.reduceEqDiff, reduceCtorEq, reduceIte, reduceDIte, if_pos rfl, Int.reduceLT, Int.reduceLE, Int.reduceEq, Int.reduceNeg, Int.reduceAdd, Int.reduceSub, Int.reduceMul, Int.reduceToNat, opLen, undef, Pk.val, Pk.cells, Pk.zero, body108]

end Go.Ab

set_option linter.unusedSimpArgs false
set_option linter.unusedVariables false
namespace Go.Ab
open Go.Proofs

/-- What next tells. -/
inductive NextR (S : PV) : OnV → Bool → PV → Prop
  | queue {y : Item} {flow size : Int} {x : FlowV} (h : Head S.Q y flow size x) : NextR S (qOn y flow size) true { S with Q := takeV S.Q y flow size x }
  | line {x : Pk} {L : List Pk} (h : S.Q.L = []) (h' : S.V.L = x :: L) : NextR S (lineOn x) true { S with V := { S.V with L := L } }
  | none (h : S.Q.L = []) (h' : S.V.L = []) : NextR S (noOn false) false S

def FirstR (σ : St) (B : PB) (S S' : PV) (o : OnV) (t : Bool) (e : AE) (σ' : St) (lg : Log) : Prop := e = .ret (.tuple ⟨[.agg ⟨o.cells⟩, .bool t]⟩) ∧ TakenR σ B S S' σ' lg

set_option maxHeartbeats 1600000 in
set_option maxRecDepth 20000 in
theorem first_queue {σ : St} {B : PB} {S : PV} (H : PAt σ B S) {s c : Nat} (gs : σ.get s = some (.cells [.func (.func 106) ⟨[]⟩ ⟨[.pointer (some ⟨c, 0, none⟩)]⟩, .func (.func 107) ⟨[]⟩ ⟨[.pointer (some ⟨c, 0, none⟩)]⟩] false)) (hs : s < σ.next)
    (gc : σ.get c = some (.cells [.pointer (some ⟨B.p, 0, none⟩)] false)) (hc : c < σ.next) {y : Item} {flow size : Int} {x : FlowV} (h : Head S.Q y flow size x) :
    callX Try.prog 105 [.slice (some ⟨s, 0, some 0⟩) 2 2] σ (FirstR σ B S { S with Q := takeV S.Q y flow size x } (qOn y flow size) true) := by
  have n1 : ¬ σ.next = s := by omega
  have n2 : ¬ σ.next = c := by omega
  have kf : ∀ c, PFoot B S.Q c → c < σ.next := fun c hc => H.in_lt hc
  refine enter (p := q8) Try.func105 rfl stat105 ?_
  simp only [go_sem, Nat.reducePow, Nat.reduceDiv, Nat.reduceMod, Nat.reduceAdd, Nat.reduceSub, Nat.reduceMul, Nat.reduceLeDiff, Nat.reduceLT, Nat.reduceEqDiff, reduceCtorEq, reduceIte, reduceDIte, if_pos rfl, Int.reduceLT, Int.reduceLE, Int.reduceEq, Int.reduceNeg, Int.reduceAdd, Int.reduceSub, Int.reduceMul, Int.reduceToNat, opLen, undef, OnV.cells, Try.f105, body106, body107]
  refine turn q8 105 (by kernel_rfl) ?_
  simp only [go_sem, Nat.reducePow, Nat.reduceDiv, Nat.reduceMod, Nat.reduceAdd, Nat.reduceSub, Nat.reduceMul, Nat.reduceLeDiff, Nat.reduceLT, Nat.reduceEqDiff, reduceCtorEq, reduceIte, reduceDIte, if_pos rfl, Int.reduceLT, Int.reduceLE, Int.reduceEq, Int.reduceNeg, Int.reduceAdd, Int.reduceSub, Int.reduceMul, Int.reduceToNat, opLen, undef, gs, hs, n1, body106, body107]
  refine callX.hid (n1_some (c := c) (H.keep (by simp only [go_sem, Nat.reducePow, Nat.reduceDiv, Nat.reduceMod, Nat.reduceAdd, Nat.reduceSub, Nat.reduceMul, Nat.reduceLeDiff, Nat.reduceLT, Nat.reduceEqDiff, reduceCtorEq, reduceIte, reduceDIte, if_pos rfl, Int.reduceLT, Int.reduceLE, Int.reduceEq, Int.reduceNeg, Int.reduceAdd, Int.reduceSub, Int.reduceMul, Int.reduceToNat, opLen]) fun c hc => by have := kf c hc; simp only [go_sem, Nat.reducePow, Nat.reduceDiv, Nat.reduceMod, Nat.reduceAdd, Nat.reduceSub, Nat.reduceMul, Nat.reduceLeDiff, Nat.reduceLT, Nat.reduceEqDiff, reduceCtorEq, reduceIte, reduceDIte, if_pos rfl, Int.reduceLT, Int.reduceLE, Int.reduceEq, Int.reduceNeg, Int.reduceAdd, Int.reduceSub, Int.reduceMul, Int.reduceToNat, opLen, this]) (by simp only [go_sem, Nat.reducePow, Nat.reduceDiv, Nat.reduceMod, Nat.reduceAdd, Nat.reduceSub, Nat.reduceMul, Nat.reduceLeDiff, Nat.reduceLT, Nat.reduceEqDiff, reduceCtorEq, reduceIte, reduceDIte, if_pos rfl, Int.reduceLT, Int.reduceLE, Int.reduceEq, Int.reduceNeg, Int.reduceAdd, Int.reduceSub, Int.reduceMul, Int.reduceToNat, opLen, hc, gc]) (by simp only [go_sem, Nat.reducePow, Nat.reduceDiv, Nat.reduceMod, Nat.reduceAdd, Nat.reduceSub, Nat.reduceMul, Nat.reduceLeDiff, Nat.reduceLT, Nat.reduceEqDiff, reduceCtorEq, reduceIte, reduceDIte, if_pos rfl, Int.reduceLT, Int.reduceLE, Int.reduceEq, Int.reduceNeg, Int.reduceAdd, Int.reduceSub, Int.reduceMul, Int.reduceToNat, opLen] <;> omega) h) ?_
  intro σ1 lg1 hlg1 hA
  obtain ⟨hB, H1⟩ := hA
  have nx := hlg1.1
  simp only [go_sem, Nat.reducePow, Nat.reduceDiv, Nat.reduceMod, Nat.reduceAdd, Nat.reduceSub, Nat.reduceMul, Nat.reduceLeDiff, Nat.reduceLT, Nat.reduceEqDiff, reduceCtorEq, reduceIte, reduceDIte, if_pos rfl, Int.reduceLT, Int.reduceLE, Int.reduceEq, Int.reduceNeg, Int.reduceAdd, Int.reduceSub, Int.reduceMul, Int.reduceToNat, opLen] at nx hB
  have g0 := hlg1.2 σ.next (by simp only [go_sem, Nat.reducePow, Nat.reduceDiv, Nat.reduceMod, Nat.reduceAdd, Nat.reduceSub, Nat.reduceMul, Nat.reduceLeDiff, Nat.reduceLT, Nat.reduceEqDiff, reduceCtorEq, reduceIte, reduceDIte, if_pos rfl, Int.reduceLT, Int.reduceLE, Int.reduceEq, Int.reduceNeg, Int.reduceAdd, Int.reduceSub, Int.reduceMul, Int.reduceToNat, opLen] <;> omega) fun hm => by
    rcases hB _ hm with h | h
    · have := kf _ h; omega
    · omega
  simp only [go_sem, Nat.reducePow, Nat.reduceDiv, Nat.reduceMod, Nat.reduceAdd, Nat.reduceSub, Nat.reduceMul, Nat.reduceLeDiff, Nat.reduceLT, Nat.reduceEqDiff, reduceCtorEq, reduceIte, reduceDIte, if_pos rfl, Int.reduceLT, Int.reduceLE, Int.reduceEq, Int.reduceNeg, Int.reduceAdd, Int.reduceSub, Int.reduceMul, Int.reduceToNat, opLen] at g0
  have k1 : σ.next < σ1.next := by omega
  refine ⟨?_⟩
  simp only [go_sem, Nat.reducePow, Nat.reduceDiv, Nat.reduceMod, Nat.reduceAdd, Nat.reduceSub, Nat.reduceMul, Nat.reduceLeDiff, Nat.reduceLT, Nat.reduceEqDiff, reduceCtorEq, reduceIte, reduceDIte, if_pos rfl, Int.reduceLT, Int.reduceLE, Int.reduceEq, Int.reduceNeg, Int.reduceAdd, Int.reduceSub, Int.reduceMul, Int.reduceToNat, opLen, undef, OnV.cells, qOn, g0, k1, body106, body107]
  have hkf : ∀ c, PFoot B (takeV S.Q y flow size x) c → c < σ.next := fun c hc => kf c (by
    rcases hc with hc | hc | hc | hc | hc
    · exact .inl hc
    · exact .inr (.inl hc)
    · exact .inr (.inr (.inl hc))
    · exact .inr (.inr (.inr (.inl hc)))
    · exact .inr (.inr (.inr (.inr (takeV_foot h hc)))))
  refine ⟨rfl, fun z hz => ?_, H1.keep (by simp only [go_sem, Nat.reducePow, Nat.reduceDiv, Nat.reduceMod, Nat.reduceAdd, Nat.reduceSub, Nat.reduceMul, Nat.reduceLeDiff, Nat.reduceLT, Nat.reduceEqDiff, reduceCtorEq, reduceIte, reduceDIte, if_pos rfl, Int.reduceLT, Int.reduceLE, Int.reduceEq, Int.reduceNeg, Int.reduceAdd, Int.reduceSub, Int.reduceMul, Int.reduceToNat, opLen, St.next_put] <;> omega) fun c hc => ?_⟩
  · simp only [List.mem_append, List.mem_cons, List.not_mem_nil, or_false] at hz
    rcases hz with (hz | hz) | hz
    · rcases hB z hz with h | h
      · exact .inl h
      · exact .inr (by omega)
    · exact .inr (by omega)
    · exact .inr (by omega)
  · have m0 := hkf c hc
    have m1 : ¬ σ.next = c := by omega
    have m2 : c < σ1.next := by omega
    simp only [go_sem, Nat.reducePow, Nat.reduceDiv, Nat.reduceMod, Nat.reduceAdd, Nat.reduceSub, Nat.reduceMul, Nat.reduceLeDiff, Nat.reduceLT, Nat.reduceEqDiff, reduceCtorEq, reduceIte, reduceDIte, if_pos rfl, Int.reduceLT, Int.reduceLE, Int.reduceEq, Int.reduceNeg, Int.reduceAdd, Int.reduceSub, Int.reduceMul, Int.reduceToNat, opLen, m1, m2]

set_option maxHeartbeats 1600000 in
set_option maxRecDepth 20000 in
theorem first_line {σ : St} {B : PB} {S : PV} (H : PAt σ B S) {s c : Nat} (gs : σ.get s = some (.cells [.func (.func 106) ⟨[]⟩ ⟨[.pointer (some ⟨c, 0, none⟩)]⟩, .func (.func 107) ⟨[]⟩ ⟨[.pointer (some ⟨c, 0, none⟩)]⟩] false)) (hs : s < σ.next)
    (gc : σ.get c = some (.cells [.pointer (some ⟨B.p, 0, none⟩)] false)) (hc : c < σ.next) (h0 : S.Q.L = []) {x : Pk} {L : List Pk} (h : S.V.L = x :: L) :
    callX Try.prog 105 [.slice (some ⟨s, 0, some 0⟩) 2 2] σ (FirstR σ B S { S with V := { S.V with L := L } } (lineOn x) true) := by
  have n1 : ¬ σ.next = s := by omega
  have n2 : ¬ σ.next = c := by omega
  have n3 : ¬ σ.next + 1 = s := by omega
  have n4 : ¬ σ.next + 1 = c := by omega
  have kf : ∀ c, PFoot B S.Q c → c < σ.next := fun c hc => H.in_lt hc
  refine enter (p := q8) Try.func105 rfl stat105 ?_
  simp only [go_sem, Nat.reducePow, Nat.reduceDiv, Nat.reduceMod, Nat.reduceAdd, Nat.reduceSub, Nat.reduceMul, Nat.reduceLeDiff, Nat.reduceLT, Nat.reduceEqDiff, reduceCtorEq, reduceIte, reduceDIte, if_pos rfl, Int.reduceLT, Int.reduceLE, Int.reduceEq, Int.reduceNeg, Int.reduceAdd, Int.reduceSub, Int.reduceMul, Int.reduceToNat, opLen, undef, OnV.cells, Try.f105, body106, body107]
  refine turn q8 105 (by kernel_rfl) ?_
  simp only [go_sem, Nat.reducePow, Nat.reduceDiv, Nat.reduceMod, Nat.reduceAdd, Nat.reduceSub, Nat.reduceMul, Nat.reduceLeDiff, Nat.reduceLT, Nat.reduceEqDiff, reduceCtorEq, reduceIte, reduceDIte, if_pos rfl, Int.reduceLT, Int.reduceLE, Int.reduceEq, Int.reduceNeg, Int.reduceAdd, Int.reduceSub, Int.reduceMul, Int.reduceToNat, opLen, undef, gs, hs, n1, body106, body107]
  refine .of (n1_none (c := c) (H.keep (by simp only [go_sem, Nat.reducePow, Nat.reduceDiv, Nat.reduceMod, Nat.reduceAdd, Nat.reduceSub, Nat.reduceMul, Nat.reduceLeDiff, Nat.reduceLT, Nat.reduceEqDiff, reduceCtorEq, reduceIte, reduceDIte, if_pos rfl, Int.reduceLT, Int.reduceLE, Int.reduceEq, Int.reduceNeg, Int.reduceAdd, Int.reduceSub, Int.reduceMul, Int.reduceToNat, opLen]) fun c hc => by have := kf c hc; simp only [go_sem, Nat.reducePow, Nat.reduceDiv, Nat.reduceMod, Nat.reduceAdd, Nat.reduceSub, Nat.reduceMul, Nat.reduceLeDiff, Nat.reduceLT, Nat.reduceEqDiff, reduceCtorEq, reduceIte, reduceDIte, if_pos rfl, Int.reduceLT, Int.reduceLE, Int.reduceEq, Int.reduceNeg, Int.reduceAdd, Int.reduceSub, Int.reduceMul, Int.reduceToNat, opLen, this]) (by simp only [go_sem, Nat.reducePow, Nat.reduceDiv, Nat.reduceMod, Nat.reduceAdd, Nat.reduceSub, Nat.reduceMul, Nat.reduceLeDiff, Nat.reduceLT, Nat.reduceEqDiff, reduceCtorEq, reduceIte, reduceDIte, if_pos rfl, Int.reduceLT, Int.reduceLE, Int.reduceEq, Int.reduceNeg, Int.reduceAdd, Int.reduceSub, Int.reduceMul, Int.reduceToNat, opLen, hc, gc]) (by simp only [go_sem, Nat.reducePow, Nat.reduceDiv, Nat.reduceMod, Nat.reduceAdd, Nat.reduceSub, Nat.reduceMul, Nat.reduceLeDiff, Nat.reduceLT, Nat.reduceEqDiff, reduceCtorEq, reduceIte, reduceDIte, if_pos rfl, Int.reduceLT, Int.reduceLE, Int.reduceEq, Int.reduceNeg, Int.reduceAdd, Int.reduceSub, Int.reduceMul, Int.reduceToNat, opLen] <;> omega) h0) ?_
  simp only [go_sem, Nat.reducePow, Nat.reduceDiv, Nat.reduceMod, Nat.reduceAdd, Nat.reduceSub, Nat.reduceMul, Nat.reduceLeDiff, Nat.reduceLT, Nat.reduceEqDiff, reduceCtorEq, reduceIte, reduceDIte, if_pos rfl, Int.reduceLT, Int.reduceLE, Int.reduceEq, Int.reduceNeg, Int.reduceAdd, Int.reduceSub, Int.reduceMul, Int.reduceToNat, opLen, undef, OnV.cells, noOn, body106, body107]
  refine turn q8 105 (by kernel_rfl) ?_
  simp only [go_sem, Nat.reducePow, Nat.reduceDiv, Nat.reduceMod, Nat.reduceAdd, Nat.reduceSub, Nat.reduceMul, Nat.reduceLeDiff, Nat.reduceLT, Nat.reduceEqDiff, reduceCtorEq, reduceIte, reduceDIte, if_pos rfl, Int.reduceLT, Int.reduceLE, Int.reduceEq, Int.reduceNeg, Int.reduceAdd, Int.reduceSub, Int.reduceMul, Int.reduceToNat, opLen, undef, gs, hs, n1, n3, body106, body107]
  refine callX.hid (n2_some (c := c) (H.keep (by simp only [go_sem, Nat.reducePow, Nat.reduceDiv, Nat.reduceMod, Nat.reduceAdd, Nat.reduceSub, Nat.reduceMul, Nat.reduceLeDiff, Nat.reduceLT, Nat.reduceEqDiff, reduceCtorEq, reduceIte, reduceDIte, if_pos rfl, Int.reduceLT, Int.reduceLE, Int.reduceEq, Int.reduceNeg, Int.reduceAdd, Int.reduceSub, Int.reduceMul, Int.reduceToNat, opLen]) fun c hc => by have := kf c hc; simp only [go_sem, Nat.reducePow, Nat.reduceDiv, Nat.reduceMod, Nat.reduceAdd, Nat.reduceSub, Nat.reduceMul, Nat.reduceLeDiff, Nat.reduceLT, Nat.reduceEqDiff, reduceCtorEq, reduceIte, reduceDIte, if_pos rfl, Int.reduceLT, Int.reduceLE, Int.reduceEq, Int.reduceNeg, Int.reduceAdd, Int.reduceSub, Int.reduceMul, Int.reduceToNat, opLen, this]) (by simp only [go_sem, Nat.reducePow, Nat.reduceDiv, Nat.reduceMod, Nat.reduceAdd, Nat.reduceSub, Nat.reduceMul, Nat.reduceLeDiff, Nat.reduceLT, Nat.reduceEqDiff, reduceCtorEq, reduceIte, reduceDIte, if_pos rfl, Int.reduceLT, Int.reduceLE, Int.reduceEq, Int.reduceNeg, Int.reduceAdd, Int.reduceSub, Int.reduceMul, Int.reduceToNat, opLen, hc, gc]) (by simp only [go_sem, Nat.reducePow, Nat.reduceDiv, Nat.reduceMod, Nat.reduceAdd, Nat.reduceSub, Nat.reduceMul, Nat.reduceLeDiff, Nat.reduceLT, Nat.reduceEqDiff, reduceCtorEq, reduceIte, reduceDIte, if_pos rfl, Int.reduceLT, Int.reduceLE, Int.reduceEq, Int.reduceNeg, Int.reduceAdd, Int.reduceSub, Int.reduceMul, Int.reduceToNat, opLen] <;> omega) h) ?_
  intro σ1 lg1 hlg1 hA
  obtain ⟨hB, H1⟩ := hA
  have nx := hlg1.1
  simp only [go_sem, Nat.reducePow, Nat.reduceDiv, Nat.reduceMod, Nat.reduceAdd, Nat.reduceSub, Nat.reduceMul, Nat.reduceLeDiff, Nat.reduceLT, Nat.reduceEqDiff, reduceCtorEq, reduceIte, reduceDIte, if_pos rfl, Int.reduceLT, Int.reduceLE, Int.reduceEq, Int.reduceNeg, Int.reduceAdd, Int.reduceSub, Int.reduceMul, Int.reduceToNat, opLen] at nx hB
  have g0 := hlg1.2 σ.next (by simp only [go_sem, Nat.reducePow, Nat.reduceDiv, Nat.reduceMod, Nat.reduceAdd, Nat.reduceSub, Nat.reduceMul, Nat.reduceLeDiff, Nat.reduceLT, Nat.reduceEqDiff, reduceCtorEq, reduceIte, reduceDIte, if_pos rfl, Int.reduceLT, Int.reduceLE, Int.reduceEq, Int.reduceNeg, Int.reduceAdd, Int.reduceSub, Int.reduceMul, Int.reduceToNat, opLen] <;> omega) fun hm => by
    rcases hB _ hm with h | h
    · have := kf _ h; omega
    · omega
  simp only [go_sem, Nat.reducePow, Nat.reduceDiv, Nat.reduceMod, Nat.reduceAdd, Nat.reduceSub, Nat.reduceMul, Nat.reduceLeDiff, Nat.reduceLT, Nat.reduceEqDiff, reduceCtorEq, reduceIte, reduceDIte, if_pos rfl, Int.reduceLT, Int.reduceLE, Int.reduceEq, Int.reduceNeg, Int.reduceAdd, Int.reduceSub, Int.reduceMul, Int.reduceToNat, opLen] at g0
  have k1 : σ.next < σ1.next := by omega
  refine ⟨?_⟩
  simp only [go_sem, Nat.reducePow, Nat.reduceDiv, Nat.reduceMod, Nat.reduceAdd, Nat.reduceSub, Nat.reduceMul, Nat.reduceLeDiff, Nat.reduceLT, Nat.reduceEqDiff, reduceCtorEq, reduceIte, reduceDIte, if_pos rfl, Int.reduceLT, Int.reduceLE, Int.reduceEq, Int.reduceNeg, Int.reduceAdd, Int.reduceSub, Int.reduceMul, Int.reduceToNat, opLen, undef, OnV.cells, lineOn, g0, k1, body106, body107]
  have hkf : ∀ c, PFoot B S.Q c → c < σ.next := fun c hc => kf c hc
  refine ⟨rfl, fun z hz => ?_, H1.keep (by simp only [go_sem, Nat.reducePow, Nat.reduceDiv, Nat.reduceMod, Nat.reduceAdd, Nat.reduceSub, Nat.reduceMul, Nat.reduceLeDiff, Nat.reduceLT, Nat.reduceEqDiff, reduceCtorEq, reduceIte, reduceDIte, if_pos rfl, Int.reduceLT, Int.reduceLE, Int.reduceEq, Int.reduceNeg, Int.reduceAdd, Int.reduceSub, Int.reduceMul, Int.reduceToNat, opLen, St.next_put] <;> omega) fun c hc => ?_⟩
  · simp only [List.mem_append, List.mem_cons, List.not_mem_nil, or_false] at hz
    rcases hz with hz | (hz | hz) | hz
    · exact .inr (by omega)
    · rcases hB z hz with h | h
      · exact .inl h
      · exact .inr (by omega)
    · exact .inr (by omega)
    · exact .inr (by omega)
  · have m0 := hkf c hc
    have m1 : ¬ σ.next = c := by omega
    have m2 : c < σ1.next := by omega
    simp only [go_sem, Nat.reducePow, Nat.reduceDiv, Nat.reduceMod, Nat.reduceAdd, Nat.reduceSub, Nat.reduceMul, Nat.reduceLeDiff, Nat.reduceLT, Nat.reduceEqDiff, reduceCtorEq, reduceIte, reduceDIte, if_pos rfl, Int.reduceLT, Int.reduceLE, Int.reduceEq, Int.reduceNeg, Int.reduceAdd, Int.reduceSub, Int.reduceMul, Int.reduceToNat, opLen, m1, m2]

set_option maxHeartbeats 1600000 in
set_option maxRecDepth 20000 in
theorem first_none {σ : St} {B : PB} {S : PV} (H : PAt σ B S) {s c : Nat} (gs : σ.get s = some (.cells [.func (.func 106) ⟨[]⟩ ⟨[.pointer (some ⟨c, 0, none⟩)]⟩, .func (.func 107) ⟨[]⟩ ⟨[.pointer (some ⟨c, 0, none⟩)]⟩] false)) (hs : s < σ.next)
    (gc : σ.get c = some (.cells [.pointer (some ⟨B.p, 0, none⟩)] false)) (hc : c < σ.next) (h0 : S.Q.L = []) (h : S.V.L = []) :
    DCall Try.prog 105 [.slice (some ⟨s, 0, some 0⟩) 2 2] σ (.ret (.tuple ⟨[.agg ⟨(noOn false).cells⟩, .bool false]⟩)) σ [] := by
  have n1 : ¬ σ.next = s := by omega
  have n2 : ¬ σ.next = c := by omega
  have n3 : ¬ σ.next + 1 = s := by omega
  have n4 : ¬ σ.next + 1 = c := by omega
  have kf : ∀ c, PFoot B S.Q c → c < σ.next := fun c hc => H.in_lt hc
  refine pure_call (enter (p := q8) Try.func105 rfl stat105 ?_) rfl
  simp only [go_sem, Nat.reducePow, Nat.reduceDiv, Nat.reduceMod, Nat.reduceAdd, Nat.reduceSub, Nat.reduceMul, Nat.reduceLeDiff, Nat.reduceLT, Nat.reduceEqDiff, reduceCtorEq, reduceIte, reduceDIte, if_pos rfl, Int.reduceLT, Int.reduceLE, Int.reduceEq, Int.reduceNeg, Int.reduceAdd, Int.reduceSub, Int.reduceMul, Int.reduceToNat, opLen, undef, OnV.cells, Try.f105, body106, body107]
  refine turn q8 105 (by kernel_rfl) ?_
  simp only [go_sem, Nat.reducePow, Nat.reduceDiv, Nat.reduceMod, Nat.reduceAdd, Nat.reduceSub, Nat.reduceMul, Nat.reduceLeDiff, Nat.reduceLT, Nat.reduceEqDiff, reduceCtorEq, reduceIte, reduceDIte, if_pos rfl, Int.reduceLT, Int.reduceLE, Int.reduceEq, Int.reduceNeg, Int.reduceAdd, Int.reduceSub, Int.reduceMul, Int.reduceToNat, opLen, undef, gs, hs, n1, body106, body107]
  refine .of (n1_none (c := c) (H.keep (by simp only [go_sem, Nat.reducePow, Nat.reduceDiv, Nat.reduceMod, Nat.reduceAdd, Nat.reduceSub, Nat.reduceMul, Nat.reduceLeDiff, Nat.reduceLT, Nat.reduceEqDiff, reduceCtorEq, reduceIte, reduceDIte, if_pos rfl, Int.reduceLT, Int.reduceLE, Int.reduceEq, Int.reduceNeg, Int.reduceAdd, Int.reduceSub, Int.reduceMul, Int.reduceToNat, opLen]) fun c hc => by have := kf c hc; simp only [go_sem, Nat.reducePow, Nat.reduceDiv, Nat.reduceMod, Nat.reduceAdd, Nat.reduceSub, Nat.reduceMul, Nat.reduceLeDiff, Nat.reduceLT, Nat.reduceEqDiff, reduceCtorEq, reduceIte, reduceDIte, if_pos rfl, Int.reduceLT, Int.reduceLE, Int.reduceEq, Int.reduceNeg, Int.reduceAdd, Int.reduceSub, Int.reduceMul, Int.reduceToNat, opLen, this]) (by simp only [go_sem, Nat.reducePow, Nat.reduceDiv, Nat.reduceMod, Nat.reduceAdd, Nat.reduceSub, Nat.reduceMul, Nat.reduceLeDiff, Nat.reduceLT, Nat.reduceEqDiff, reduceCtorEq, reduceIte, reduceDIte, if_pos rfl, Int.reduceLT, Int.reduceLE, Int.reduceEq, Int.reduceNeg, Int.reduceAdd, Int.reduceSub, Int.reduceMul, Int.reduceToNat, opLen, hc, gc]) (by simp only [go_sem, Nat.reducePow, Nat.reduceDiv, Nat.reduceMod, Nat.reduceAdd, Nat.reduceSub, Nat.reduceMul, Nat.reduceLeDiff, Nat.reduceLT, Nat.reduceEqDiff, reduceCtorEq, reduceIte, reduceDIte, if_pos rfl, Int.reduceLT, Int.reduceLE, Int.reduceEq, Int.reduceNeg, Int.reduceAdd, Int.reduceSub, Int.reduceMul, Int.reduceToNat, opLen] <;> omega) h0) ?_
  simp only [go_sem, Nat.reducePow, Nat.reduceDiv, Nat.reduceMod, Nat.reduceAdd, Nat.reduceSub, Nat.reduceMul, Nat.reduceLeDiff, Nat.reduceLT, Nat.reduceEqDiff, reduceCtorEq, reduceIte, reduceDIte, if_pos rfl, Int.reduceLT, Int.reduceLE, Int.reduceEq, Int.reduceNeg, Int.reduceAdd, Int.reduceSub, Int.reduceMul, Int.reduceToNat, opLen, undef, OnV.cells, noOn, body106, body107]
  refine turn q8 105 (by kernel_rfl) ?_
  simp only [go_sem, Nat.reducePow, Nat.reduceDiv, Nat.reduceMod, Nat.reduceAdd, Nat.reduceSub, Nat.reduceMul, Nat.reduceLeDiff, Nat.reduceLT, Nat.reduceEqDiff, reduceCtorEq, reduceIte, reduceDIte, if_pos rfl, Int.reduceLT, Int.reduceLE, Int.reduceEq, Int.reduceNeg, Int.reduceAdd, Int.reduceSub, Int.reduceMul, Int.reduceToNat, opLen, undef, gs, hs, n1, n3, body106, body107]
  refine .of (n2_none (c := c) (H.keep (by simp only [go_sem, Nat.reducePow, Nat.reduceDiv, Nat.reduceMod, Nat.reduceAdd, Nat.reduceSub, Nat.reduceMul, Nat.reduceLeDiff, Nat.reduceLT, Nat.reduceEqDiff, reduceCtorEq, reduceIte, reduceDIte, if_pos rfl, Int.reduceLT, Int.reduceLE, Int.reduceEq, Int.reduceNeg, Int.reduceAdd, Int.reduceSub, Int.reduceMul, Int.reduceToNat, opLen]) fun c hc => by have := kf c hc; simp only [go_sem, Nat.reducePow, Nat.reduceDiv, Nat.reduceMod, Nat.reduceAdd, Nat.reduceSub, Nat.reduceMul, Nat.reduceLeDiff, Nat.reduceLT, Nat.reduceEqDiff, reduceCtorEq, reduceIte, reduceDIte, if_pos rfl, Int.reduceLT, Int.reduceLE, Int.reduceEq, Int.reduceNeg, Int.reduceAdd, Int.reduceSub, Int.reduceMul, Int.reduceToNat, opLen, this]) (by simp only [go_sem, Nat.reducePow, Nat.reduceDiv, Nat.reduceMod, Nat.reduceAdd, Nat.reduceSub, Nat.reduceMul, Nat.reduceLeDiff, Nat.reduceLT, Nat.reduceEqDiff, reduceCtorEq, reduceIte, reduceDIte, if_pos rfl, Int.reduceLT, Int.reduceLE, Int.reduceEq, Int.reduceNeg, Int.reduceAdd, Int.reduceSub, Int.reduceMul, Int.reduceToNat, opLen, hc, gc]) (by simp only [go_sem, Nat.reducePow, Nat.reduceDiv, Nat.reduceMod, Nat.reduceAdd, Nat.reduceSub, Nat.reduceMul, Nat.reduceLeDiff, Nat.reduceLT, Nat.reduceEqDiff, reduceCtorEq, reduceIte, reduceDIte, if_pos rfl, Int.reduceLT, Int.reduceLE, Int.reduceEq, Int.reduceNeg, Int.reduceAdd, Int.reduceSub, Int.reduceMul, Int.reduceToNat, opLen] <;> omega) h) ?_
  simp only [go_sem, Nat.reducePow, Nat.reduceDiv, Nat.reduceMod, Nat.reduceAdd, Nat.reduceSub, Nat.reduceMul, Nat.reduceLeDiff, Nat.reduceLT, Nat.reduceEqDiff, reduceCtorEq, reduceIte, reduceDIte, if_pos rfl, Int.reduceLT, Int.reduceLE, Int.reduceEq, Int.reduceNeg, Int.reduceAdd, Int.reduceSub, Int.reduceMul, Int.reduceToNat, opLen, undef, OnV.cells, noOn, body106, body107]
  refine turn q8 105 (by kernel_rfl) ?_
  simp only [go_sem, Nat.reducePow, Nat.reduceDiv, Nat.reduceMod, Nat.reduceAdd, Nat.reduceSub, Nat.reduceMul, Nat.reduceLeDiff, Nat.reduceLT, Nat.reduceEqDiff, reduceCtorEq, reduceIte, reduceDIte, if_pos rfl, Int.reduceLT, Int.reduceLE, Int.reduceEq, Int.reduceNeg, Int.reduceAdd, Int.reduceSub, Int.reduceMul, Int.reduceToNat, opLen, undef, OnV.cells, noOn, body106, body107]


/-- first, whatever waits. -/
theorem first_call {σ : St} {B : PB} {S S' : PV} {o : OnV} {t : Bool} (H : PAt σ B S) {s c : Nat} (gs : σ.get s = some (.cells [.func (.func 106) ⟨[]⟩ ⟨[.pointer (some ⟨c, 0, none⟩)]⟩, .func (.func 107) ⟨[]⟩ ⟨[.pointer (some ⟨c, 0, none⟩)]⟩] false)) (hs : s < σ.next)
    (gc : σ.get c = some (.cells [.pointer (some ⟨B.p, 0, none⟩)] false)) (hc : c < σ.next) (h : NextR S o t S') : callX Try.prog 105 [.slice (some ⟨s, 0, some 0⟩) 2 2] σ (FirstR σ B S S' o t) := by
  cases h with
  | queue h => exact first_queue H gs hs gc hc h
  | line h h' => exact first_line H gs hs gc hc h h'
  | none h h' => exact .of (first_none H gs hs gc hc h h') ⟨rfl, ⟨fun z hz => absurd hz (by simp), H⟩⟩

theorem NextR.foot {S S' : PV} {o : OnV} {t : Bool} (h : NextR S o t S') {B : PB} {c : Nat} (hc : PFoot B S'.Q c) : PFoot B S.Q c := by
  cases h with
  | queue h =>
    rcases hc with hc | hc | hc | hc | hc
    · exact .inl hc
    · exact .inr (.inl hc)
    · exact .inr (.inr (.inl hc))
    · exact .inr (.inr (.inr (.inl hc)))
    · exact .inr (.inr (.inr (.inr (takeV_foot h hc))))
  | line h h' => exact hc
  | none h h' => exact hc

set_option maxRecDepth 20000 in
theorem next_call {σ : St} {B : PB} {S S' : PV} {o : OnV} {t : Bool} (H : PAt σ B S) (h : NextR S o t S') : callX Try.prog 71 [.pointer (some ⟨B.p, 0, none⟩)] σ fun e σ' lg => e = .ret (.tuple ⟨[.agg ⟨o.cells⟩, .bool t]⟩) ∧ TakenR σ B S S' σ' lg := by
  have kf : ∀ c, PFoot B S.Q c → c < σ.next := fun c hc => H.in_lt hc
  refine enter (p := q8) Try.func71 rfl stat71 ?_
  simp only [go_sem, Nat.reducePow, Nat.reduceDiv, Nat.reduceMod, Nat.reduceAdd, Nat.reduceSub, Nat.reduceMul, Nat.reduceLeDiff, Nat.reduceLT, Nat.reduceEqDiff, reduceCtorEq, reduceIte, reduceDIte, if_pos rfl, Int.reduceLT, Int.reduceLE, Int.reduceEq, Int.reduceNeg, Int.reduceAdd, Int.reduceSub, Int.reduceMul, Int.reduceToNat, opLen, undef, zerosN, Try.f71, body105, body106, body107]
  refine callX.hidE (first_call (c := σ.next) (s := σ.next + 2) (H.keep (by simp only [go_sem, Nat.reducePow, Nat.reduceDiv, Nat.reduceMod, Nat.reduceAdd, Nat.reduceSub, Nat.reduceMul, Nat.reduceLeDiff, Nat.reduceLT, Nat.reduceEqDiff, reduceCtorEq, reduceIte, reduceDIte, if_pos rfl, Int.reduceLT, Int.reduceLE, Int.reduceEq, Int.reduceNeg, Int.reduceAdd, Int.reduceSub, Int.reduceMul, Int.reduceToNat, opLen]) fun c hc => by have := kf c hc; simp only [go_sem, Nat.reducePow, Nat.reduceDiv, Nat.reduceMod, Nat.reduceAdd, Nat.reduceSub, Nat.reduceMul, Nat.reduceLeDiff, Nat.reduceLT, Nat.reduceEqDiff, reduceCtorEq, reduceIte, reduceDIte, if_pos rfl, Int.reduceLT, Int.reduceLE, Int.reduceEq, Int.reduceNeg, Int.reduceAdd, Int.reduceSub, Int.reduceMul, Int.reduceToNat, opLen, this]) (by simp only [go_sem, Nat.reducePow, Nat.reduceDiv, Nat.reduceMod, Nat.reduceAdd, Nat.reduceSub, Nat.reduceMul, Nat.reduceLeDiff, Nat.reduceLT, Nat.reduceEqDiff, reduceCtorEq, reduceIte, reduceDIte, if_pos rfl, Int.reduceLT, Int.reduceLE, Int.reduceEq, Int.reduceNeg, Int.reduceAdd, Int.reduceSub, Int.reduceMul, Int.reduceToNat, opLen]) (by simp only [go_sem, Nat.reducePow, Nat.reduceDiv, Nat.reduceMod, Nat.reduceAdd, Nat.reduceSub, Nat.reduceMul, Nat.reduceLeDiff, Nat.reduceLT, Nat.reduceEqDiff, reduceCtorEq, reduceIte, reduceDIte, if_pos rfl, Int.reduceLT, Int.reduceLE, Int.reduceEq, Int.reduceNeg, Int.reduceAdd, Int.reduceSub, Int.reduceMul, Int.reduceToNat, opLen] <;> omega) (by simp only [go_sem, Nat.reducePow, Nat.reduceDiv, Nat.reduceMod, Nat.reduceAdd, Nat.reduceSub, Nat.reduceMul, Nat.reduceLeDiff, Nat.reduceLT, Nat.reduceEqDiff, reduceCtorEq, reduceIte, reduceDIte, if_pos rfl, Int.reduceLT, Int.reduceLE, Int.reduceEq, Int.reduceNeg, Int.reduceAdd, Int.reduceSub, Int.reduceMul, Int.reduceToNat, opLen]) (by simp only [go_sem, Nat.reducePow, Nat.reduceDiv, Nat.reduceMod, Nat.reduceAdd, Nat.reduceSub, Nat.reduceMul, Nat.reduceLeDiff, Nat.reduceLT, Nat.reduceEqDiff, reduceCtorEq, reduceIte, reduceDIte, if_pos rfl, Int.reduceLT, Int.reduceLE, Int.reduceEq, Int.reduceNeg, Int.reduceAdd, Int.reduceSub, Int.reduceMul, Int.reduceToNat, opLen] <;> omega) h) ?_
  intro e σ1 lg1 hlg1 hA
  obtain ⟨rfl, hB, H1⟩ := hA
  have nx := hlg1.1
  simp only [go_sem, Nat.reducePow, Nat.reduceDiv, Nat.reduceMod, Nat.reduceAdd, Nat.reduceSub, Nat.reduceMul, Nat.reduceLeDiff, Nat.reduceLT, Nat.reduceEqDiff, reduceCtorEq, reduceIte, reduceDIte, if_pos rfl, Int.reduceLT, Int.reduceLE, Int.reduceEq, Int.reduceNeg, Int.reduceAdd, Int.reduceSub, Int.reduceMul, Int.reduceToNat, opLen] at nx hB
  have g0 := hlg1.2 (σ.next + 1) (by simp only [go_sem, Nat.reducePow, Nat.reduceDiv, Nat.reduceMod, Nat.reduceAdd, Nat.reduceSub, Nat.reduceMul, Nat.reduceLeDiff, Nat.reduceLT, Nat.reduceEqDiff, reduceCtorEq, reduceIte, reduceDIte, if_pos rfl, Int.reduceLT, Int.reduceLE, Int.reduceEq, Int.reduceNeg, Int.reduceAdd, Int.reduceSub, Int.reduceMul, Int.reduceToNat, opLen] <;> omega) fun hm => by
    rcases hB _ hm with h | h
    · have := kf _ h; omega
    · omega
  simp only [go_sem, Nat.reducePow, Nat.reduceDiv, Nat.reduceMod, Nat.reduceAdd, Nat.reduceSub, Nat.reduceMul, Nat.reduceLeDiff, Nat.reduceLT, Nat.reduceEqDiff, reduceCtorEq, reduceIte, reduceDIte, if_pos rfl, Int.reduceLT, Int.reduceLE, Int.reduceEq, Int.reduceNeg, Int.reduceAdd, Int.reduceSub, Int.reduceMul, Int.reduceToNat, opLen] at g0
  have k1 : σ.next + 1 < σ1.next := by omega
  refine ⟨?_⟩
  simp only [go_sem, Nat.reducePow, Nat.reduceDiv, Nat.reduceMod, Nat.reduceAdd, Nat.reduceSub, Nat.reduceMul, Nat.reduceLeDiff, Nat.reduceLT, Nat.reduceEqDiff, reduceCtorEq, reduceIte, reduceDIte, if_pos rfl, Int.reduceLT, Int.reduceLE, Int.reduceEq, Int.reduceNeg, Int.reduceAdd, Int.reduceSub, Int.reduceMul, Int.reduceToNat, opLen, undef, OnV.cells, g0, k1, body105, body106, body107]
  refine ⟨fun z hz => ?_, H1.keep (by simp only [go_sem, Nat.reducePow, Nat.reduceDiv, Nat.reduceMod, Nat.reduceAdd, Nat.reduceSub, Nat.reduceMul, Nat.reduceLeDiff, Nat.reduceLT, Nat.reduceEqDiff, reduceCtorEq, reduceIte, reduceDIte, if_pos rfl, Int.reduceLT, Int.reduceLE, Int.reduceEq, Int.reduceNeg, Int.reduceAdd, Int.reduceSub, Int.reduceMul, Int.reduceToNat, opLen, St.next_put] <;> omega) fun c hc => ?_⟩
  · rcases List.mem_append.1 hz with hz | hz
    · rcases hB z hz with h | h
      · exact .inl h
      · exact .inr (by omega)
    · simp at hz; exact .inr (by omega)
  · have m0 := kf c (h.foot hc)
    rw [St.get_set, if_neg (by omega)]

end Go.Ab

set_option linter.unusedSimpArgs false
set_option linter.unusedVariables false
namespace Go.Ab
open Go.Proofs

/-- What a queue gives, one by one. -/
def Drains : List OnV → QV → Prop
  | [], Q => Q.L = []
  | o :: os, Q => ∃ y flow size x, Head Q y flow size x ∧ o = qOn y flow size ∧ Drains os (takeV Q y flow size x)

/-- The cells of what was sent. -/
def OnV.sent (o : OnV) : List Value := [.int .i64 o.pk.id, .int .i64 o.pk.flow, .int .i64 o.pk.size, .bool o.prom, .int .i64 o.n, .int .i64 o.d, .int .i64 o.fin]
def cellsO : List OnV → List Value
  | [] => []
  | x :: xs => x.sent ++ cellsO xs

theorem cellsO_length : ∀ L : List OnV, (cellsO L).length = 7 * L.length
  | [] => rfl
  | x :: xs => by simp [cellsO, OnV.sent, cellsO_length xs]; omega

theorem cellsO_append : ∀ (L L' : List OnV), cellsO (L ++ L') = cellsO L ++ cellsO L'
  | [], _ => rfl
  | x :: xs, L' => by simp [cellsO, cellsO_append xs L']

/-- A slice of what was sent, in a block from lo on. -/
def SoS (lo : Nat) (σ : St) (v : Value) (L : List OnV) : Prop := (v = .slice none 0 0 ∧ L = []) ∨ ∃ a, v = .slice (some ⟨a, 0, some 9⟩) L.length L.length ∧ σ.get a = some (.cells (cellsO L) false) ∧ lo ≤ a ∧ a < σ.next ∧ L ≠ []

theorem SoS.keep {lo : Nat} {σ σ' : St} {v : Value} {L : List OnV} (h : SoS lo σ v L) (hn : σ.next ≤ σ'.next) (hg : ∀ a, lo ≤ a → a < σ.next → σ'.get a = σ.get a) : SoS lo σ' v L := by
  rcases h with h | ⟨a, h1, h2, h3, h4, h5⟩
  · exact .inl h
  · exact .inr ⟨a, h1, (hg a h3 h4).trans h2, h3, by omega, h5⟩

theorem und80 : (cP Try.prog).T.und 80 = some (.slice 88) := (cx_und 80).trans Try.underlying80
theorem inf88 : (cP Try.prog).T.info 88 = some Try.t88 := (cx_info 88).trans info88

theorem so_first {σ : St} {b : Nat} {x : OnV} (hg : σ.get b = some (.cells x.sent false)) :
    opAppend (cP Try.prog).T σ 80 80 (.slice none 0 0) (.slice (some ⟨b, 0, some 0⟩) 1 1) = some (.new (.cells x.sent false) (.slice (some ⟨σ.next, 0, some 9⟩) 1 1) [b]) := by
  simp only [OnV.sent] at hg ⊢
  simp only [opAppend, und80, inf88, srcLen, Try.t88, srcCells, hg]
  simp [isSeqD, oneCells, plain, plainL, vcells]

theorem so_more {σ : St} {a b : Nat} {L : List OnV} {x : OnV} (ha : σ.get a = some (.cells (cellsO L) false)) (hg : σ.get b = some (.cells x.sent false)) (sm : L.length ≤ 1000000) :
    opAppend (cP Try.prog).T σ 80 80 (.slice (some ⟨a, 0, some 9⟩) L.length L.length) (.slice (some ⟨b, 0, some 0⟩) 1 1) =
      some (.eff (.slice (some ⟨σ.next, 0, some 9⟩) (L.length + 1) (L.length + 1)) ((σ.new (.cells (cellsO (L ++ [x])) false)).put a none) [a]) := by
  have l3 : ¬ 4294967296 ≤ L.length := by omega
  have tk : (cellsO L).take (L.length * 7) = cellsO L := List.take_of_length_le (by rw [cellsO_length]; omega)
  have ap : cellsO (L ++ [x]) = cellsO L ++ x.sent := by rw [cellsO_append]; simp [cellsO]
  rw [ap]
  simp only [OnV.sent] at hg ⊢
  simp only [opAppend, und80, inf88, srcLen, Try.t88, srcCells, hg, ha]
  simp [isSeqD, oneCells, plain, plainL, vcells, l3, tk, cellsO_length]
  omega

noncomputable def serveB : Code := loopOf (Try.f36.body.getD .skip)

/-- The frame of Serve, in its loop. -/
structure FS (ts : List Value) (p : Nat) (v : Value) (bytes : Int) : Prop where
  size : ts.length = 106
  t0 : lget ts 0 = .pointer (some ⟨p, 0, none⟩)
  t4 : lget ts 4 = v
  t5 : lget ts 5 = .int .i64 bytes

end Go.Ab

set_option linter.unusedSimpArgs false
set_option linter.unusedVariables false
namespace Go.Ab
open Go.Proofs

noncomputable def serveX : Code := blockOf (dropC 1 serveB)
noncomputable def serveT : Code := dropC 1 serveX

theorem serveB_is : serveB = (nthC 0 serveB).seq (Code.block 2 ((nthC 0 serveX).seq serveT)) := by rfl

/-- What lies below. -/
structure Low (B : PB) (Q : QV) (lo : Nat) : Prop where
  p : B.p < lo
  l : B.l < lo
  r : B.r < lo
  f : ∀ c, Foot B.b Q c → c < lo

/-- A port whose packet under way turned, or ended: the port's block and the packet's are laid anew. -/
theorem PAt.turn {σ σ' : St} {B : PB} {S : PV} (H : PAt σ B S) {lo : Nat} (hl : Low B S.Q lo) (hn : σ.next ≤ σ'.next) {o' : Option Nat} {on' : Option OnV}
    (hg : ∀ c, c < lo → c ≠ B.p → B.o ≠ some c → σ'.get c = σ.get c)
    (gp : σ'.get B.p = some (.cells [.pointer (some ⟨B.b.q, 0, none⟩), .pointer (some ⟨B.l, 0, none⟩), .int .i64 S.rate, .int .i64 S.most, .int .i64 S.now, onPtr o'] false)) (hon : OnAt σ' { B with o := o' } S.Q on') :
    PAt σ' { B with o := o' } { S with on := on' } := by
  have no : ∀ c, PFoot B S.Q c → B.o ≠ some c ∨ (c ≠ B.l ∧ c ≠ B.r ∧ ¬ Foot B.b S.Q c) := fun c _ => by
    by_cases e : B.o = some c
    · have := H.on.has
      rw [e] at this
      cases hx : S.on with
      | none => rw [hx] at this; cases this
      | some x =>
        obtain ⟨_, _, _, h1, h2, h3⟩ := H.on.get c x e hx
        exact .inr ⟨h1, h2, h3⟩
    · exact .inl e
  have nl : B.o ≠ some B.l := fun e => by
    rcases no B.l (.inr (.inl rfl)) with h | h
    · exact h e
    · exact h.1 rfl
  have nr : B.o ≠ some B.r := fun e => by
    rcases no B.r (.inr (.inr (.inl rfl))) with h | h
    · exact h e
    · exact h.2.1 rfl
  have nf : ∀ c, Foot B.b S.Q c → B.o ≠ some c := fun c hc e => by
    rcases no c (.inr (.inr (.inr (.inr hc)))) with h | h
    · exact h e
    · exact h.2.2 hc
  exact { gp := gp
          q := H.q.keep hn fun c hc => hg c (hl.f c hc) (fun e => H.pf (e ▸ hc)) (nf c hc)
          l := H.l.keep hn (hg _ hl.l (fun e => H.pl e.symm) nl) (hg _ hl.r (fun e => H.pr e.symm) nr)
          on := hon
          lt := by have := H.lt; show B.p < _; omega
          pl := H.pl
          pr := H.pr
          pf := H.pf
          lf := H.lf
          rf := H.rf }

set_option maxHeartbeats 1600000 in
set_option maxRecDepth 20000 in
theorem tail_part {σ : St} {B : PB} {S : PV} {lo o : Nat} {ts : List Value} {v : Value} {bytes : Int} {x : OnV} {K : RR → Prop} (H : PAt σ B S) (hl : Low B S.Q lo) (F : FS ts B.p v bytes) (ho : B.o = some o) (hx : S.on = some x) (hb : 0 < bytes ∧ bytes ≤ 1000000) (hx1 : x.left ≤ 2000) (h : bytes < x.left)
    (k : ∀ ts' σ', FS ts' B.p v 0 → PAt σ' B { S with on := some { x with left := x.left - bytes } } → σ'.next = σ.next → (∀ c, c ≠ o → σ'.get c = σ.get c) → K ⟨.norm, ⟨ts', []⟩, σ', [o]⟩) :
    wp (cP Try.prog) q8 (btAll 36) false serveT ⟨ts, []⟩ σ K := by
  have e0 := F.t0
  have e4 := F.t4
  have e5 := F.t5
  have el := F.size
  have gp := H.gp
  have hp := H.lt
  rw [ho] at gp
  simp only [onPtr] at gp
  obtain ⟨go, hol, hop, ho2, ho3, ho4⟩ := H.on.get o x ho hx
  simp only [OnV.cells] at go
  have n1 : ¬ B.p = o := fun e => hop e.symm
  have c1 : ¬ x.left < bytes := by omega
  have w1 : IntKind.i64.wrap (bytes - bytes) = 0 := by rw [Int.sub_self]; decide
  have w2 : IntKind.i64.wrap (x.left - bytes) = x.left - bytes := wrapI (by omega) (by omega)
  have z1 : (x.left - bytes == 0) = false := by rw [beq_eq_false_iff_ne]; omega
  have q1 : ¬ σ.next ≤ B.p := by omega
  have q2 : ¬ σ.next ≤ o := by omega
  simp only [go_sem, Nat.reducePow, Nat.reduceDiv, Nat.reduceMod, Nat.reduceAdd, Nat.reduceSub, Nat.reduceMul, Nat.reduceLeDiff, Nat.reduceLT, Nat.reduceEqDiff, reduceCtorEq, reduceIte, reduceDIte, if_pos rfl, Int.reduceLT, Int.reduceLE, Int.reduceEq, Int.reduceNeg, Int.reduceAdd, Int.reduceSub, Int.reduceMul, Int.reduceToNat, opLen, undef, opMin, serveT, serveX, serveB, blockOf, dropC, nthC, loopOf, Try.f36, Option.getD, e0, e4, e5, el, gp, hp, go, hol, hop, n1, c1, w1, w2, z1, q1, q2]
  refine k _ _ ⟨by simp only [List.length_set, el], by simp only [go_sem, Nat.reducePow, Nat.reduceDiv, Nat.reduceMod, Nat.reduceAdd, Nat.reduceSub, Nat.reduceMul, Nat.reduceLeDiff, Nat.reduceLT, Nat.reduceEqDiff, reduceCtorEq, reduceIte, reduceDIte, if_pos rfl, Int.reduceLT, Int.reduceLE, Int.reduceEq, Int.reduceNeg, Int.reduceAdd, Int.reduceSub, Int.reduceMul, Int.reduceToNat, opLen, el, e0], by simp only [go_sem, Nat.reducePow, Nat.reduceDiv, Nat.reduceMod, Nat.reduceAdd, Nat.reduceSub, Nat.reduceMul, Nat.reduceLeDiff, Nat.reduceLT, Nat.reduceEqDiff, reduceCtorEq, reduceIte, reduceDIte, if_pos rfl, Int.reduceLT, Int.reduceLE, Int.reduceEq, Int.reduceNeg, Int.reduceAdd, Int.reduceSub, Int.reduceMul, Int.reduceToNat, opLen, el, e4], by simp only [go_sem, Nat.reducePow, Nat.reduceDiv, Nat.reduceMod, Nat.reduceAdd, Nat.reduceSub, Nat.reduceMul, Nat.reduceLeDiff, Nat.reduceLT, Nat.reduceEqDiff, reduceCtorEq, reduceIte, reduceDIte, if_pos rfl, Int.reduceLT, Int.reduceLE, Int.reduceEq, Int.reduceNeg, Int.reduceAdd, Int.reduceSub, Int.reduceMul, Int.reduceToNat, opLen, el]⟩ ?_ rfl fun c hc => by rw [St.get_set, if_neg (Ne.symm hc)]
  have hB : ({ B with o := some o } : PB) = B := by cases B; simp only at ho; subst ho; rfl
  have T := H.turn (σ' := σ.set o (.cells [.int .i64 x.pk.id, .int .i64 x.pk.flow, .int .i64 x.pk.size, .bool x.prom, .int .i64 x.n, .int .i64 x.d, .int .i64 x.fin, .int .i64 (x.left - bytes)] false)) (o' := some o) (on' := some { x with left := x.left - bytes }) hl (Nat.le_refl _) (fun c _ _ h2 => by rw [St.get_set, if_neg fun e => h2 (by rw [ho, e])]) (by rw [St.get_set, if_neg hop]; exact gp) ⟨rfl, fun o' x' h1 h2 => by
    cases h1
    cases h2
    exact ⟨by rw [St.get_set, if_pos rfl]; rfl, hol, hop, ho2, ho3, ho4⟩⟩
  rw [hB] at T
  exact T

def FullR (σ : St) (B : PB) (S : PV) (o lo : Nat) (v' : Value) (acc : List OnV) (x : OnV) (σ' : St) (lg : Log) : Prop :=
  PAt σ' { B with o := none } { S with on := none } ∧ SoS lo σ' v' (acc ++ [{ x with fin := S.now, left := 0 }]) ∧ σ.next ≤ σ'.next ∧ (∀ z ∈ lg, z = o ∨ z = B.p ∨ lo ≤ z)

set_option maxHeartbeats 3200000 in
set_option maxRecDepth 20000 in
theorem tail_full {σ : St} {B : PB} {S : PV} {lo o : Nat} {ts : List Value} {v : Value} {acc : List OnV} {bytes : Int} {x : OnV} {K : RR → Prop} (H : PAt σ B S) (hl : Low B S.Q lo) (hlo : lo ≤ σ.next) (F : FS ts B.p v bytes) (ho : B.o = some o) (hx : S.on = some x) (hb : 0 < bytes ∧ bytes ≤ 1000000) (hx1 : 1 ≤ x.left ∧ x.left ≤ 2000) (h : x.left ≤ bytes)
    (hv : SoS lo σ v acc) (hav : ∀ a n m, v = .slice (some ⟨a, 0, some 9⟩) n m → a ≠ o) (hacc : acc.length ≤ 1000000)
    (k : ∀ ts' v' σ' lg, FS ts' B.p v' (bytes - x.left) → FullR σ B S o lo v' acc x σ' lg → K ⟨.norm, ⟨ts', []⟩, σ', lg⟩) :
    wp (cP Try.prog) q8 (btAll 36) false serveT ⟨ts, []⟩ σ K := by
  have e0 := F.t0
  have e4 := F.t4
  have e5 := F.t5
  have el := F.size
  have gp := H.gp
  have hp := H.lt
  rw [ho] at gp
  simp only [onPtr] at gp
  obtain ⟨go, hol, hop, ho2, ho3, ho4⟩ := H.on.get o x ho hx
  simp only [OnV.cells] at go
  have n1 : ¬ B.p = o := fun e => hop e.symm
  have n2 : ¬ σ.next = B.p := by omega
  have n3 : ¬ σ.next = o := by omega
  have n4 : ¬ σ.next + 1 = B.p := by omega
  have hmin : (if x.left < bytes then x.left else bytes) = x.left := by
    split
    · rfl
    · omega
  have hmin' : opMin (.int .i64 bytes) (.int .i64 x.left) = some (.val (.int .i64 x.left) []) := by simp only [opMin, hmin]
  have w1 : IntKind.i64.wrap (bytes - x.left) = bytes - x.left := wrapI (by omega) (by omega)
  have w2 : IntKind.i64.wrap (x.left - x.left) = 0 := by rw [Int.sub_self]; decide
  have q1 : ¬ σ.next ≤ B.p := by omega
  have q2 : ¬ σ.next ≤ o := by omega
  have nf : ∀ c, c < lo → Foot B.b S.Q c → c ≠ B.p ∧ c ≠ o := fun c _ hc => ⟨fun e => H.pf (e ▸ hc), fun e => ho4 (e ▸ hc)⟩
  have hB' : ∀ σ' : St, σ.next ≤ σ'.next → (∀ c, c < lo → c ≠ B.p → c ≠ o → σ'.get c = σ.get c) → σ'.get B.p = some (.cells [.pointer (some ⟨B.b.q, 0, none⟩), .pointer (some ⟨B.l, 0, none⟩), .int .i64 S.rate, .int .i64 S.most, .int .i64 S.now, .pointer none] false) → PAt σ' { B with o := none } { S with on := none } := fun σ' h1 h2 h3 =>
    H.turn hl h1 (fun c hc hcp hco => h2 c hc hcp fun e => hco (by rw [ho, e])) h3 ⟨rfl, fun o' x' h => by cases h⟩
  rcases hv with ⟨rfl, rfl⟩ | ⟨a, rfl, ga, ha1, ha2, hne⟩
  · have hap : ∀ σ : St, ∀ b, σ.get b = some (.cells ({ x with fin := S.now, left := 0 } : OnV).sent false) → opAppend (cP Try.prog).T σ 80 80 (.slice none 0 0) (.slice (some ⟨b, 0, some 0⟩) 1 1) = some (.new (.cells ({ x with fin := S.now, left := 0 } : OnV).sent false) (.slice (some ⟨σ.next, 0, some 9⟩) 1 1) [b]) := fun σ b h => so_first h
    simp only [OnV.sent] at hap
    simp only [go_sem, Nat.reducePow, Nat.reduceDiv, Nat.reduceMod, Nat.reduceAdd, Nat.reduceSub, Nat.reduceMul, Nat.reduceLeDiff, Nat.reduceLT, Nat.reduceEqDiff, reduceCtorEq, reduceIte, reduceDIte, if_pos rfl, Int.reduceLT, Int.reduceLE, Int.reduceEq, Int.reduceNeg, Int.reduceAdd, Int.reduceSub, Int.reduceMul, Int.reduceToNat, opLen, undef, zerosN, serveT, serveX, serveB, blockOf, dropC, nthC, loopOf, Try.f36, Option.getD, e0, e4, e5, el, gp, hp, go, hol, hop, n1, n2, n3, n4, hmin', w1, w2, q1, q2, hap]
    refine k _ (.slice (some ⟨σ.next + 1, 0, some 9⟩) 1 1) _ _ ⟨by simp only [List.length_set, el], by simp only [go_sem, Nat.reducePow, Nat.reduceDiv, Nat.reduceMod, Nat.reduceAdd, Nat.reduceSub, Nat.reduceMul, Nat.reduceLeDiff, Nat.reduceLT, Nat.reduceEqDiff, reduceCtorEq, reduceIte, reduceDIte, if_pos rfl, Int.reduceLT, Int.reduceLE, Int.reduceEq, Int.reduceNeg, Int.reduceAdd, Int.reduceSub, Int.reduceMul, Int.reduceToNat, opLen, el, e0], by simp only [go_sem, Nat.reducePow, Nat.reduceDiv, Nat.reduceMod, Nat.reduceAdd, Nat.reduceSub, Nat.reduceMul, Nat.reduceLeDiff, Nat.reduceLT, Nat.reduceEqDiff, reduceCtorEq, reduceIte, reduceDIte, if_pos rfl, Int.reduceLT, Int.reduceLE, Int.reduceEq, Int.reduceNeg, Int.reduceAdd, Int.reduceSub, Int.reduceMul, Int.reduceToNat, opLen, el], by simp only [go_sem, Nat.reducePow, Nat.reduceDiv, Nat.reduceMod, Nat.reduceAdd, Nat.reduceSub, Nat.reduceMul, Nat.reduceLeDiff, Nat.reduceLT, Nat.reduceEqDiff, reduceCtorEq, reduceIte, reduceDIte, if_pos rfl, Int.reduceLT, Int.reduceLE, Int.reduceEq, Int.reduceNeg, Int.reduceAdd, Int.reduceSub, Int.reduceMul, Int.reduceToNat, opLen, el]⟩ ⟨hB' _ (by simp only [go_sem, Nat.reducePow, Nat.reduceDiv, Nat.reduceMod, Nat.reduceAdd, Nat.reduceSub, Nat.reduceMul, Nat.reduceLeDiff, Nat.reduceLT, Nat.reduceEqDiff, reduceCtorEq, reduceIte, reduceDIte, if_pos rfl, Int.reduceLT, Int.reduceLE, Int.reduceEq, Int.reduceNeg, Int.reduceAdd, Int.reduceSub, Int.reduceMul, Int.reduceToNat, opLen, St.next_put] <;> omega) (fun c h1 h2 h3 => ?_) (by rw [St.get_set, if_pos rfl]), .inr ⟨σ.next + 1, rfl, ?_, by omega, by simp only [go_sem, Nat.reducePow, Nat.reduceDiv, Nat.reduceMod, Nat.reduceAdd, Nat.reduceSub, Nat.reduceMul, Nat.reduceLeDiff, Nat.reduceLT, Nat.reduceEqDiff, reduceCtorEq, reduceIte, reduceDIte, if_pos rfl, Int.reduceLT, Int.reduceLE, Int.reduceEq, Int.reduceNeg, Int.reduceAdd, Int.reduceSub, Int.reduceMul, Int.reduceToNat, opLen, St.next_put] <;> omega, by simp⟩, by simp only [go_sem, Nat.reducePow, Nat.reduceDiv, Nat.reduceMod, Nat.reduceAdd, Nat.reduceSub, Nat.reduceMul, Nat.reduceLeDiff, Nat.reduceLT, Nat.reduceEqDiff, reduceCtorEq, reduceIte, reduceDIte, if_pos rfl, Int.reduceLT, Int.reduceLE, Int.reduceEq, Int.reduceNeg, Int.reduceAdd, Int.reduceSub, Int.reduceMul, Int.reduceToNat, opLen, St.next_put] <;> omega, fun z hz => ?_⟩
    · have z1 : ¬ B.p = c := fun e => h2 e.symm
      have z2 : ¬ o = c := fun e => h3 e.symm
      have z3 : c < σ.next := by omega
      simp only [go_sem, Nat.reducePow, Nat.reduceDiv, Nat.reduceMod, Nat.reduceAdd, Nat.reduceSub, Nat.reduceMul, Nat.reduceLeDiff, Nat.reduceLT, Nat.reduceEqDiff, reduceCtorEq, reduceIte, reduceDIte, if_pos rfl, Int.reduceLT, Int.reduceLE, Int.reduceEq, Int.reduceNeg, Int.reduceAdd, Int.reduceSub, Int.reduceMul, Int.reduceToNat, opLen, z1, z2, z3]
    · have z1 : ¬ B.p = σ.next + 1 := by omega
      simp only [go_sem, Nat.reducePow, Nat.reduceDiv, Nat.reduceMod, Nat.reduceAdd, Nat.reduceSub, Nat.reduceMul, Nat.reduceLeDiff, Nat.reduceLT, Nat.reduceEqDiff, reduceCtorEq, reduceIte, reduceDIte, if_pos rfl, Int.reduceLT, Int.reduceLE, Int.reduceEq, Int.reduceNeg, Int.reduceAdd, Int.reduceSub, Int.reduceMul, Int.reduceToNat, opLen, z1, cellsO, OnV.sent]
    · simp only [List.mem_cons, List.mem_append, List.not_mem_nil, or_false] at hz; omega
  · have hao : ¬ a = o := hav a _ _ rfl
    have hap : ¬ a = B.p := by have := hl.p; omega
    have hapn : ∀ σ : St, ∀ b, σ.get a = some (.cells (cellsO acc) false) → σ.get b = some (.cells ({ x with fin := S.now, left := 0 } : OnV).sent false) → opAppend (cP Try.prog).T σ 80 80 (.slice (some ⟨a, 0, some 9⟩) acc.length acc.length) (.slice (some ⟨b, 0, some 0⟩) 1 1) =
        some (.eff (.slice (some ⟨σ.next, 0, some 9⟩) (acc.length + 1) (acc.length + 1)) ((σ.new (.cells (cellsO (acc ++ [{ x with fin := S.now, left := 0 }])) false)).put a none) [a]) := fun σ b h1 h2 => so_more h1 h2 hacc
    simp only [OnV.sent] at hapn
    have m1 : ¬ B.p = a := fun e => hap e.symm
    have m2 : ¬ o = a := fun e => hao e.symm
    simp only [go_sem, Nat.reducePow, Nat.reduceDiv, Nat.reduceMod, Nat.reduceAdd, Nat.reduceSub, Nat.reduceMul, Nat.reduceLeDiff, Nat.reduceLT, Nat.reduceEqDiff, reduceCtorEq, reduceIte, reduceDIte, if_pos rfl, Int.reduceLT, Int.reduceLE, Int.reduceEq, Int.reduceNeg, Int.reduceAdd, Int.reduceSub, Int.reduceMul, Int.reduceToNat, opLen, undef, zerosN, serveT, serveX, serveB, blockOf, dropC, nthC, loopOf, Try.f36, Option.getD, e0, e4, e5, el, gp, hp, go, hol, hop, ga, ha2, hao, hap, m1, m2, n1, n2, n3, n4, hmin', w1, w2, q1, q2, hapn]
    have hll : (acc ++ [({ x with fin := S.now, left := 0 } : OnV)]).length = acc.length + 1 := by rw [List.length_append]; rfl
    refine k _ (.slice (some ⟨σ.next + 1, 0, some 9⟩) (acc.length + 1) (acc.length + 1)) _ _ ⟨by simp only [List.length_set, el], by simp only [go_sem, Nat.reducePow, Nat.reduceDiv, Nat.reduceMod, Nat.reduceAdd, Nat.reduceSub, Nat.reduceMul, Nat.reduceLeDiff, Nat.reduceLT, Nat.reduceEqDiff, reduceCtorEq, reduceIte, reduceDIte, if_pos rfl, Int.reduceLT, Int.reduceLE, Int.reduceEq, Int.reduceNeg, Int.reduceAdd, Int.reduceSub, Int.reduceMul, Int.reduceToNat, opLen, el, e0], by simp only [go_sem, Nat.reducePow, Nat.reduceDiv, Nat.reduceMod, Nat.reduceAdd, Nat.reduceSub, Nat.reduceMul, Nat.reduceLeDiff, Nat.reduceLT, Nat.reduceEqDiff, reduceCtorEq, reduceIte, reduceDIte, if_pos rfl, Int.reduceLT, Int.reduceLE, Int.reduceEq, Int.reduceNeg, Int.reduceAdd, Int.reduceSub, Int.reduceMul, Int.reduceToNat, opLen, el], by simp only [go_sem, Nat.reducePow, Nat.reduceDiv, Nat.reduceMod, Nat.reduceAdd, Nat.reduceSub, Nat.reduceMul, Nat.reduceLeDiff, Nat.reduceLT, Nat.reduceEqDiff, reduceCtorEq, reduceIte, reduceDIte, if_pos rfl, Int.reduceLT, Int.reduceLE, Int.reduceEq, Int.reduceNeg, Int.reduceAdd, Int.reduceSub, Int.reduceMul, Int.reduceToNat, opLen, el]⟩ ⟨hB' _ (by simp only [go_sem, Nat.reducePow, Nat.reduceDiv, Nat.reduceMod, Nat.reduceAdd, Nat.reduceSub, Nat.reduceMul, Nat.reduceLeDiff, Nat.reduceLT, Nat.reduceEqDiff, reduceCtorEq, reduceIte, reduceDIte, if_pos rfl, Int.reduceLT, Int.reduceLE, Int.reduceEq, Int.reduceNeg, Int.reduceAdd, Int.reduceSub, Int.reduceMul, Int.reduceToNat, opLen, St.next_put] <;> omega) (fun c h1 h2 h3 => ?_) (by rw [St.get_set, if_pos rfl]), .inr ⟨σ.next + 1, by rw [hll], ?_, by omega, by simp only [go_sem, Nat.reducePow, Nat.reduceDiv, Nat.reduceMod, Nat.reduceAdd, Nat.reduceSub, Nat.reduceMul, Nat.reduceLeDiff, Nat.reduceLT, Nat.reduceEqDiff, reduceCtorEq, reduceIte, reduceDIte, if_pos rfl, Int.reduceLT, Int.reduceLE, Int.reduceEq, Int.reduceNeg, Int.reduceAdd, Int.reduceSub, Int.reduceMul, Int.reduceToNat, opLen, St.next_put] <;> omega, by simp⟩, by simp only [go_sem, Nat.reducePow, Nat.reduceDiv, Nat.reduceMod, Nat.reduceAdd, Nat.reduceSub, Nat.reduceMul, Nat.reduceLeDiff, Nat.reduceLT, Nat.reduceEqDiff, reduceCtorEq, reduceIte, reduceDIte, if_pos rfl, Int.reduceLT, Int.reduceLE, Int.reduceEq, Int.reduceNeg, Int.reduceAdd, Int.reduceSub, Int.reduceMul, Int.reduceToNat, opLen, St.next_put] <;> omega, fun z hz => ?_⟩
    · have z1 : ¬ B.p = c := fun e => h2 e.symm
      have z2 : ¬ o = c := fun e => h3 e.symm
      have z3 : c < σ.next := by omega
      have z4 : ¬ a = c := by omega
      simp only [go_sem, Nat.reducePow, Nat.reduceDiv, Nat.reduceMod, Nat.reduceAdd, Nat.reduceSub, Nat.reduceMul, Nat.reduceLeDiff, Nat.reduceLT, Nat.reduceEqDiff, reduceCtorEq, reduceIte, reduceDIte, if_pos rfl, Int.reduceLT, Int.reduceLE, Int.reduceEq, Int.reduceNeg, Int.reduceAdd, Int.reduceSub, Int.reduceMul, Int.reduceToNat, opLen, z1, z2, z3, z4]
    · have z1 : ¬ B.p = σ.next + 1 := by omega
      have z4 : ¬ a = σ.next + 1 := by omega
      simp only [go_sem, Nat.reducePow, Nat.reduceDiv, Nat.reduceMod, Nat.reduceAdd, Nat.reduceSub, Nat.reduceMul, Nat.reduceLeDiff, Nat.reduceLT, Nat.reduceEqDiff, reduceCtorEq, reduceIte, reduceDIte, if_pos rfl, Int.reduceLT, Int.reduceLE, Int.reduceEq, Int.reduceNeg, Int.reduceAdd, Int.reduceSub, Int.reduceMul, Int.reduceToNat, opLen, z1, z4]
    · simp only [List.mem_cons, List.mem_append, List.not_mem_nil, or_false] at hz; omega

attribute [irreducible] serveT

end Go.Ab

set_option linter.unusedSimpArgs false
set_option linter.unusedVariables false
namespace Go.Ab
open Go.Proofs

structure Sizes (on : Option OnV) (qs : List OnV) (L : List Pk) : Prop where
  on : ∀ x, on = some x → 1 ≤ x.left ∧ x.left ≤ 2000
  qs : ∀ x ∈ qs, 1 ≤ x.left ∧ x.left ≤ 2000
  L : ∀ y ∈ L, 1 ≤ y.size ∧ y.size ≤ 2000

/-- What Serve leaves as it was. -/
structure Alike (S S' : PV) : Prop where
  rate : S'.rate = S.rate
  most : S'.most = S.most
  now : S'.now = S.now
  lp : S'.V.lp = S.V.lp
  lb : S'.V.lb = S.V.lb
  room : S'.V.room = S.V.room

theorem Alike.refl (S : PV) : Alike S S := ⟨rfl, rfl, rfl, rfl, rfl, rfl⟩
theorem Alike.trans {S S' S'' : PV} (h : Alike S S') (k : Alike S' S'') : Alike S S'' := ⟨k.rate.trans h.rate, k.most.trans h.most, k.now.trans h.now, k.lp.trans h.lp, k.lb.trans h.lb, k.room.trans h.room⟩

theorem serves_zero {now : Int} {on on' : Option OnV} {qs qs' out : List OnV} {L L' : List Pk} (h : Serves now 0 on qs L out on' qs' L') : out = [] ∧ on' = on ∧ qs' = qs ∧ L' = L := by
  cases h with
  | zero => exact ⟨rfl, rfl, rfl, rfl⟩
  | empty h => omega
  | part h => omega
  | full h => omega
  | nextq h => omega
  | nextl h => omega

/-- A queue, and what is left of it. -/
inductive Took : QV → List OnV → QV → List OnV → Prop
  | refl {Q : QV} {qs : List OnV} : Took Q qs Q qs
  | more {Q Q' : QV} {qs os : List OnV} {y : Item} {flow size : Int} {x : FlowV} (h : Took Q qs Q' (qOn y flow size :: os)) (hh : Head Q' y flow size x) : Took Q qs (takeV Q' y flow size x) os

theorem Took.nil {Q Q' : QV} {qs qs' : List OnV} (h : Took Q qs Q' qs') : qs = [] → Q' = Q ∧ qs' = [] := by
  induction h with
  | refl => exact fun e => ⟨rfl, e⟩
  | more h hh ih =>
    intro e
    have := (ih e).2
    cases this

theorem next_of {S : PV} {qs : List OnV} (hD : Drains qs S.Q) (hS : Sizes S.on qs S.V.L) : (qs = [] ∧ S.V.L = [] ∧ NextR S (noOn false) false S) ∨
    ∃ x S' qs', NextR S x true S' ∧ Drains qs' S'.Q ∧ S'.on = S.on ∧ Alike S S' ∧ Sizes (some x) qs' S'.V.L ∧ (∀ Q0 q0, Took Q0 q0 S.Q qs → Took Q0 q0 S'.Q qs') ∧
      ∀ now b out on' q' L', 0 < b → Serves now b (some x) qs' S'.V.L out on' q' L' → Serves now b none qs S.V.L out on' q' L' := by
  cases qs with
  | nil =>
    have h0 : S.Q.L = [] := hD
    cases hL : S.V.L with
    | nil => exact .inl ⟨rfl, rfl, .none h0 hL⟩
    | cons x L =>
      have hx := hS.L x (by rw [hL]; simp)
      refine .inr ⟨_, _, [], .line h0 hL, h0, rfl, ⟨rfl, rfl, rfl, rfl, rfl, rfl⟩, ⟨fun z hz => by cases hz; exact hx, fun z hz => (by cases hz), fun z hz => hS.L z (by rw [hL]; exact List.mem_cons_of_mem _ hz)⟩, fun _ _ h => h, fun now b out on' q' L' hb h => .nextl hb h⟩
  | cons o os =>
    obtain ⟨y, flow, size, x, hh, rfl, hd⟩ := hD
    have hx := hS.qs _ List.mem_cons_self
    exact .inr ⟨_, _, os, .queue hh, hd, rfl, ⟨rfl, rfl, rfl, rfl, rfl, rfl⟩, ⟨fun z hz => by cases hz; exact hx, fun z hz => hS.qs z (List.mem_cons_of_mem _ hz), hS.L⟩, fun _ _ h => .more h hh, fun now b out on' q' L' hb h => .nextq hb h⟩

/-- The loop of Serve, under way. -/
structure SL (B0 : PB) (S0 : PV) (lo : Nat) (R : Int) (qs0 : List OnV) (σ : St) (v : Value) (m : Nat) (o : Option Nat) (S : PV) (qs acc : List OnV) : Prop where
  hm : m ≤ 1000000
  at' : PAt σ { B0 with o := o } S
  al : Alike S0 S
  low : Low { B0 with o := o } S.Q lo
  hlo : lo ≤ σ.next
  dr : Drains qs S.Q
  sz : Sizes S.on qs S.V.L
  so : SoS lo σ v acc
  av : ∀ a n k, v = .slice (some ⟨a, 0, some 9⟩) n k → o ≠ some a
  len : acc.length + m ≤ 1000000
  ho : ∀ z, o = some z → B0.o = some z ∨ lo ≤ z
  sv : ∀ out on' qs' L', Serves S0.now m S.on qs S.V.L out on' qs' L' → Serves S0.now R S0.on qs0 S0.V.L (acc ++ out) on' qs' L'
  ft : ∀ c, Foot B0.b S.Q c → Foot B0.b S0.Q c
  tk : Took S0.Q qs0 S.Q qs

def IS (B0 : PB) (S0 : PV) (lo : Nat) (R : Int) (qs0 : List OnV) (m : Nat) (fr : Fr) (σ : St) : Prop :=
  ∃ ts v o S qs acc, fr = ⟨ts, []⟩ ∧ FS ts B0.p v (m : Int) ∧ SL B0 S0 lo R qs0 σ v m o S qs acc

def ES (B0 : PB) (S0 : PV) (lo : Nat) (R : Int) (qs0 : List OnV) (x : AX) (fr : Fr) (σ : St) : Prop :=
  x = .exit 1 ∧ ∃ ts v m o S qs acc, fr = ⟨ts, []⟩ ∧ ts.length = 106 ∧ lget ts 4 = v ∧ SL B0 S0 lo R qs0 σ v m o S qs acc ∧ Serves S0.now R S0.on qs0 S0.V.L acc S.on qs S.V.L

/-- A part of the packet under way. -/
theorem SL.part {B0 : PB} {S0 : PV} {lo : Nat} {R : Int} {qs0 : List OnV} {σ σ' : St} {v : Value} {m o : Nat} {S : PV} {qs acc : List OnV} {x : OnV} (H : SL B0 S0 lo R qs0 σ v m (some o) S qs acc) (hx : S.on = some x) (hm : 0 < m) (hlt : (m : Int) < x.left)
    (h1 : PAt σ' { B0 with o := some o } { S with on := some { x with left := x.left - m } }) (hn : σ'.next = σ.next) (hg : ∀ c, c ≠ o → σ'.get c = σ.get c) : SL B0 S0 lo R qs0 σ' v 0 (some o) { S with on := some { x with left := x.left - m } } qs acc :=
  { hm := Nat.zero_le _
    at' := h1
    al := H.al.trans ⟨rfl, rfl, rfl, rfl, rfl, rfl⟩
    low := ⟨H.low.p, H.low.l, H.low.r, H.low.f⟩
    hlo := by have := H.hlo; omega
    dr := H.dr
    sz := ⟨fun z hz => by cases hz; have := (H.sz.on x hx).2; show 1 ≤ x.left - m ∧ x.left - m ≤ 2000; omega, H.sz.qs, H.sz.L⟩
    so := by
      rcases H.so with h | ⟨a, h2, h3, h4, h5, h6⟩
      · exact .inl h
      · exact .inr ⟨a, h2, (hg a fun e => H.av a _ _ h2 (by rw [e])).trans h3, h4, by omega, h6⟩
    av := H.av
    len := by have := H.len; omega
    ho := H.ho
    sv := fun out on' qs' L' h => by
      have h : Serves S0.now 0 (some { x with left := x.left - m }) qs S.V.L out on' qs' L' := h
      obtain ⟨rfl, rfl, rfl, rfl⟩ := serves_zero h
      refine H.sv _ _ _ _ ?_
      rw [hx]
      exact .part (by omega) hlt
    ft := H.ft
    tk := H.tk }

/-- The packet under way, ended. -/
theorem SL.full {B0 : PB} {S0 : PV} {lo : Nat} {R : Int} {qs0 : List OnV} {σ σ' : St} {v v' : Value} {m o : Nat} {S : PV} {qs acc : List OnV} {x : OnV} {lg : Log} (H : SL B0 S0 lo R qs0 σ v m (some o) S qs acc) (hx : S.on = some x) (hm : 0 < m) (hle : x.left ≤ (m : Int))
    (h : FullR σ { B0 with o := some o } S o lo v' acc x σ' lg) : SL B0 S0 lo R qs0 σ' v' (m - x.left.toNat) none { S with on := none } qs (acc ++ [{ x with fin := S.now, left := 0 }]) := by
  have hl := H.sz.on x hx
  have hk : ((m - x.left.toNat : Nat) : Int) = m - x.left := by omega
  have hm1 := H.hm
  exact { hm := by omega
          at' := h.1
          al := H.al.trans ⟨rfl, rfl, rfl, rfl, rfl, rfl⟩
          low := ⟨H.low.p, H.low.l, H.low.r, H.low.f⟩
          hlo := by have := H.hlo; have := h.2.2.1; omega
          dr := H.dr
          sz := ⟨fun z hz => (by cases hz), H.sz.qs, H.sz.L⟩
          so := h.2.1
          av := fun a n k _ e => by cases e
          len := by have := H.len; simp; omega
          ho := fun z hz => by cases hz
          sv := fun out on' qs' L' k => by
            rw [hk] at k
            have k : Serves S0.now (m - x.left) none qs S.V.L out on' qs' L' := k
            rw [List.append_assoc]
            refine H.sv _ _ _ _ ?_
            rw [hx, H.al.now]
            exact .full (by omega) hle k
          ft := H.ft
          tk := H.tk }

end Go.Ab

set_option linter.unusedSimpArgs false
set_option linter.unusedVariables false
namespace Go.Ab
open Go.Proofs

/-- A next packet under way. -/
theorem SL.next {B0 : PB} {S0 : PV} {lo : Nat} {R : Int} {qs0 : List OnV} {σ σ1 σ2 : St} {v : Value} {m : Nat} {S S' : PV} {qs qs' acc : List OnV} {x : OnV} {lg : Log} (H : SL B0 S0 lo R qs0 σ v m none S qs acc) (hx : S.on = none) (hm : 0 < m) (hN : NextR S x true S') (hD : Drains qs' S'.Q) (hon : S'.on = S.on) (hal : Alike S S') (hsz : Sizes (some x) qs' S'.V.L)
    (htk : ∀ Q0 q0, Took Q0 q0 S.Q qs → Took Q0 q0 S'.Q qs') (hsv : ∀ now b out on' q' L', 0 < b → Serves now b (some x) qs' S'.V.L out on' q' L' → Serves now b none qs S.V.L out on' q' L') (hl : Logged σ σ1 lg) (hT : TakenR σ { B0 with o := none } S S' σ1 lg)
    (hn : σ2.next = σ1.next + 1) (hg : ∀ c, c < σ1.next → c ≠ B0.p → σ2.get c = σ1.get c) (g1 : σ2.get σ1.next = some (.cells x.cells false)) (g2 : σ2.get B0.p = some (.cells [.pointer (some ⟨B0.b.q, 0, none⟩), .pointer (some ⟨B0.l, 0, none⟩), .int .i64 S'.rate, .int .i64 S'.most, .int .i64 S'.now, .pointer (some ⟨σ1.next, 0, none⟩)] false)) :
    SL B0 S0 lo R qs0 σ2 v m (some σ1.next) { S' with on := some x } qs' acc := by
  obtain ⟨hB, H1⟩ := hT
  have hlo := H.hlo
  have hnx := hl.1
  have ft : ∀ c, Foot B0.b S'.Q c → Foot B0.b S.Q c := fun c hc => by
    have := hN.foot (B := { B0 with o := none }) (c := c) (.inr (.inr (.inr (.inr hc))))
    rcases this with h | h | h | h | h
    · exact absurd hc (h ▸ H1.pf)
    · exact absurd hc (h ▸ H1.lf)
    · exact absurd hc (h ▸ H1.rf)
    · cases h
    · exact h
  have hp : B0.p < lo := H.low.p
  have hll : B0.l < lo := H.low.l
  have hr : B0.r < lo := H.low.r
  have lw : Low { B0 with o := none } S'.Q lo := ⟨hp, hll, hr, fun c hc => H.low.f c (ft c hc)⟩
  have P2 := H1.turn (σ' := σ2) (o' := some σ1.next) (on' := some x) lw (by omega) (fun c hc hcp _ => hg c (by omega) hcp) g2 ⟨rfl, fun o' x' h1 h2 => by
    cases h1
    cases h2
    exact ⟨g1, by omega, by show σ1.next ≠ B0.p; omega, by show σ1.next ≠ B0.l; omega, by show σ1.next ≠ B0.r; omega, fun h => by have := lw.f _ h; omega⟩⟩
  exact { hm := H.hm
          at' := P2
          al := H.al.trans (hal.trans ⟨rfl, rfl, rfl, rfl, rfl, rfl⟩)
          low := ⟨hp, hll, hr, lw.f⟩
          hlo := by omega
          dr := hD
          sz := hsz
          so := H.so.keep (by omega) fun a h1 h2 => by
            rw [hg a (by omega) (by omega)]
            exact hl.2 a h2 fun hm => by
              rcases hB a hm with h | h
              · rcases h with h | h | h | h | h
                · have h : a = B0.p := h
                  omega
                · have h : a = B0.l := h
                  omega
                · have h : a = B0.r := h
                  omega
                · cases h
                · have := H.low.f a h; omega
              · omega
          av := fun a n k hv e => by
            have e : σ1.next = a := by cases e; rfl
            rcases H.so with ⟨h, _⟩ | ⟨a', h, _, _, h4, _⟩
            · rw [h] at hv; cases hv
            · rw [h] at hv
              have : a' = a := by cases hv; rfl
              omega
          len := H.len
          ho := fun z hz => .inr (by cases hz; omega)
          sv := fun out on' q' L' k => H.sv _ _ _ _ (by rw [hx]; exact hsv _ _ _ _ _ _ (by omega) k)
          ft := fun c hc => H.ft c (ft c hc)
          tk := htk _ _ H.tk }

theorem SL.old {B0 : PB} {S0 : PV} {lo : Nat} {R : Int} {qs0 : List OnV} {σ : St} {v : Value} {m : Nat} {S : PV} {qs acc : List OnV} (H : SL B0 S0 lo R qs0 σ v m none S qs acc) {c : Nat} (h : PFoot { B0 with o := none } S.Q c) : c < lo := by
  rcases h with h | h | h | h | h
  · exact h ▸ H.low.p
  · exact h ▸ H.low.l
  · exact h ▸ H.low.r
  · cases h
  · exact H.low.f c h

theorem SL.keep {B0 : PB} {S0 : PV} {lo : Nat} {R : Int} {qs0 : List OnV} {σ σ' : St} {v : Value} {m : Nat} {o : Option Nat} {S : PV} {qs acc : List OnV} (H : SL B0 S0 lo R qs0 σ v m o S qs acc) (h : PAt σ' { B0 with o := o } S) (hn : σ.next ≤ σ'.next) (hg : ∀ a, lo ≤ a → a < σ.next → σ'.get a = σ.get a) : SL B0 S0 lo R qs0 σ' v m o S qs acc :=
  { H with
    at' := h
    hlo := by have := H.hlo; omega
    so := H.so.keep hn hg }

set_option maxHeartbeats 3200000 in
set_option maxRecDepth 20000 in
theorem serve_loop {B0 : PB} {S0 : PV} {lo : Nat} {R : Int} {qs0 : List OnV} : ∀ m fr σ, IS B0 S0 lo R qs0 m fr σ → loopX Try.prog false serveB fr σ (endL (ES B0 S0 lo R qs0) fun z => PFoot B0 S0.Q z ∨ lo ≤ z) := by
  refine loop_ind q8 36 (by kernel_rfl) _ _ _ ?_
  rintro m fr σ ⟨ts, v, o, S, qs, acc, rfl, F, H⟩
  have e0 := F.t0
  have e4 := F.t4
  have e5 := F.t5
  have el := F.size
  have gp : σ.get B0.p = some (.cells [.pointer (some ⟨B0.b.q, 0, none⟩), .pointer (some ⟨B0.l, 0, none⟩), .int .i64 S.rate, .int .i64 S.most, .int .i64 S.now, onPtr o] false) := H.at'.gp
  have hp : B0.p < σ.next := H.at'.lt
  have hhas : o.isSome = S.on.isSome := H.at'.on.has
  by_cases hm : m = 0
  · subst hm
    have c0 : ¬ (0 : Int) < ((0 : Nat) : Int) := by omega
    simp only [Int.cast_ofNat_Int] at e5 c0
    simp only [go_sem, Nat.reducePow, Nat.reduceDiv, Nat.reduceMod, Nat.reduceAdd, Nat.reduceSub, Nat.reduceMul, Nat.reduceLeDiff, Nat.reduceLT, Nat.reduceEqDiff, reduceCtorEq, reduceIte, reduceDIte, if_pos rfl, Int.reduceLT, Int.reduceLE, Int.reduceEq, Int.reduceNeg, Int.reduceAdd, Int.reduceSub, Int.reduceMul, Int.reduceToNat, opLen, undef, serveB, loopOf, Try.f36, Option.getD, e0, e4, e5, el, c0]
    refine ⟨rfl, _, v, 0, o, S, qs, acc, rfl, by simp only [List.length_set, el], by simp only [go_sem, Nat.reducePow, Nat.reduceDiv, Nat.reduceMod, Nat.reduceAdd, Nat.reduceSub, Nat.reduceMul, Nat.reduceLeDiff, Nat.reduceLT, Nat.reduceEqDiff, reduceCtorEq, reduceIte, reduceDIte, if_pos rfl, Int.reduceLT, Int.reduceLE, Int.reduceEq, Int.reduceNeg, Int.reduceAdd, Int.reduceSub, Int.reduceMul, Int.reduceToNat, opLen, el, e4], H, ?_⟩
    have := H.sv [] S.on qs S.V.L .zero
    rw [List.append_nil] at this
    exact this
  have hm0 : 0 < m := by omega
  have hm1 := H.hm
  have c0 : (0 : Int) < (m : Int) := by omega
  have hB1 : ∀ z, o = some z → PFoot B0 S0.Q z ∨ lo ≤ z := fun z hz => (H.ho z hz).imp (fun h => .inr (.inr (.inr (.inl h)))) id
  cases hon : S.on with
  | some x =>
    obtain ⟨o', rfl⟩ : ∃ o', o = some o' := by
      rw [hon] at hhas
      exact Option.isSome_iff_exists.1 hhas
    simp only [onPtr] at gp
    have hsx := H.sz.on x hon
    by_cases hlt : (m : Int) < x.left
    · rw [serveB_is]
      simp only [go_sem, Nat.reducePow, Nat.reduceDiv, Nat.reduceMod, Nat.reduceAdd, Nat.reduceSub, Nat.reduceMul, Nat.reduceLeDiff, Nat.reduceLT, Nat.reduceEqDiff, reduceCtorEq, reduceIte, reduceDIte, if_pos rfl, Int.reduceLT, Int.reduceLE, Int.reduceEq, Int.reduceNeg, Int.reduceAdd, Int.reduceSub, Int.reduceMul, Int.reduceToNat, opLen, undef, nthC, serveX, serveB, blockOf, dropC, loopOf, Try.f36, Option.getD, e0, e4, e5, el, gp, hp, c0]
      refine tail_part (v := v) (bytes := (m : Int)) H.at' H.low ⟨by simp only [List.length_set, el], by simp only [go_sem, Nat.reducePow, Nat.reduceDiv, Nat.reduceMod, Nat.reduceAdd, Nat.reduceSub, Nat.reduceMul, Nat.reduceLeDiff, Nat.reduceLT, Nat.reduceEqDiff, reduceCtorEq, reduceIte, reduceDIte, if_pos rfl, Int.reduceLT, Int.reduceLE, Int.reduceEq, Int.reduceNeg, Int.reduceAdd, Int.reduceSub, Int.reduceMul, Int.reduceToNat, opLen, el, e0], by simp only [go_sem, Nat.reducePow, Nat.reduceDiv, Nat.reduceMod, Nat.reduceAdd, Nat.reduceSub, Nat.reduceMul, Nat.reduceLeDiff, Nat.reduceLT, Nat.reduceEqDiff, reduceCtorEq, reduceIte, reduceDIte, if_pos rfl, Int.reduceLT, Int.reduceLE, Int.reduceEq, Int.reduceNeg, Int.reduceAdd, Int.reduceSub, Int.reduceMul, Int.reduceToNat, opLen, el, e4], by simp only [go_sem, Nat.reducePow, Nat.reduceDiv, Nat.reduceMod, Nat.reduceAdd, Nat.reduceSub, Nat.reduceMul, Nat.reduceLeDiff, Nat.reduceLT, Nat.reduceEqDiff, reduceCtorEq, reduceIte, reduceDIte, if_pos rfl, Int.reduceLT, Int.reduceLE, Int.reduceEq, Int.reduceNeg, Int.reduceAdd, Int.reduceSub, Int.reduceMul, Int.reduceToNat, opLen, el, e5]⟩ rfl hon (by omega) (by omega) hlt ?_
      intro ts' σ' F1 P1 hn hg
      have H' := H.part hon hm0 hlt P1 hn hg
      have hz := hB1 o' rfl
      simp only [go_sem, Nat.reducePow, Nat.reduceDiv, Nat.reduceMod, Nat.reduceAdd, Nat.reduceSub, Nat.reduceMul, Nat.reduceLeDiff, Nat.reduceLT, Nat.reduceEqDiff, reduceCtorEq, reduceIte, reduceDIte, if_pos rfl, Int.reduceLT, Int.reduceLE, Int.reduceEq, Int.reduceNeg, Int.reduceAdd, Int.reduceSub, Int.reduceMul, Int.reduceToNat, opLen]
      exact ⟨hz, 0, hm0, ts', v, some o', _, qs, acc, rfl, F1, H'⟩
    · rw [serveB_is]
      simp only [go_sem, Nat.reducePow, Nat.reduceDiv, Nat.reduceMod, Nat.reduceAdd, Nat.reduceSub, Nat.reduceMul, Nat.reduceLeDiff, Nat.reduceLT, Nat.reduceEqDiff, reduceCtorEq, reduceIte, reduceDIte, if_pos rfl, Int.reduceLT, Int.reduceLE, Int.reduceEq, Int.reduceNeg, Int.reduceAdd, Int.reduceSub, Int.reduceMul, Int.reduceToNat, opLen, undef, nthC, serveX, serveB, blockOf, dropC, loopOf, Try.f36, Option.getD, e0, e4, e5, el, gp, hp, c0]
      refine tail_full (v := v) (bytes := (m : Int)) H.at' H.low H.hlo ⟨by simp only [List.length_set, el], by simp only [go_sem, Nat.reducePow, Nat.reduceDiv, Nat.reduceMod, Nat.reduceAdd, Nat.reduceSub, Nat.reduceMul, Nat.reduceLeDiff, Nat.reduceLT, Nat.reduceEqDiff, reduceCtorEq, reduceIte, reduceDIte, if_pos rfl, Int.reduceLT, Int.reduceLE, Int.reduceEq, Int.reduceNeg, Int.reduceAdd, Int.reduceSub, Int.reduceMul, Int.reduceToNat, opLen, el, e0], by simp only [go_sem, Nat.reducePow, Nat.reduceDiv, Nat.reduceMod, Nat.reduceAdd, Nat.reduceSub, Nat.reduceMul, Nat.reduceLeDiff, Nat.reduceLT, Nat.reduceEqDiff, reduceCtorEq, reduceIte, reduceDIte, if_pos rfl, Int.reduceLT, Int.reduceLE, Int.reduceEq, Int.reduceNeg, Int.reduceAdd, Int.reduceSub, Int.reduceMul, Int.reduceToNat, opLen, el, e4], by simp only [go_sem, Nat.reducePow, Nat.reduceDiv, Nat.reduceMod, Nat.reduceAdd, Nat.reduceSub, Nat.reduceMul, Nat.reduceLeDiff, Nat.reduceLT, Nat.reduceEqDiff, reduceCtorEq, reduceIte, reduceDIte, if_pos rfl, Int.reduceLT, Int.reduceLE, Int.reduceEq, Int.reduceNeg, Int.reduceAdd, Int.reduceSub, Int.reduceMul, Int.reduceToNat, opLen, el, e5]⟩ rfl hon (by omega) (by omega) (by omega) H.so (fun a n k hv e => H.av a n k hv (by rw [e])) (by have := H.len; omega) ?_
      intro ts' v' σ' lg F1 hfl
      have H' := H.full hon hm0 (by omega) hfl
      have hz : ∀ z ∈ lg, PFoot B0 S0.Q z ∨ lo ≤ z := fun z hz => by
        rcases hfl.2.2.2 z hz with h | h | h
        · exact hB1 z (by rw [h])
        · exact .inl (.inl h)
        · exact .inr h
      have hk : ((m - x.left.toNat : Nat) : Int) = m - x.left := by omega
      rw [← hk] at F1
      simp only [go_sem, Nat.reducePow, Nat.reduceDiv, Nat.reduceMod, Nat.reduceAdd, Nat.reduceSub, Nat.reduceMul, Nat.reduceLeDiff, Nat.reduceLT, Nat.reduceEqDiff, reduceCtorEq, reduceIte, reduceDIte, if_pos rfl, Int.reduceLT, Int.reduceLE, Int.reduceEq, Int.reduceNeg, Int.reduceAdd, Int.reduceSub, Int.reduceMul, Int.reduceToNat, opLen]
      exact ⟨hz, m - x.left.toNat, by omega, ts', v', none, _, qs, _, rfl, F1, H'⟩
  | none =>
    obtain rfl : o = none := by
      rw [hon] at hhas
      cases o with
      | none => rfl
      | some o => cases hhas
    simp only [onPtr] at gp
    rcases next_of H.dr H.sz with ⟨rfl, hL, hN⟩ | ⟨x, S', qs', hN, hD, hon', hal, hsz, htk, hsv⟩
    · rw [serveB_is]
      simp only [go_sem, Nat.reducePow, Nat.reduceDiv, Nat.reduceMod, Nat.reduceAdd, Nat.reduceSub, Nat.reduceMul, Nat.reduceLeDiff, Nat.reduceLT, Nat.reduceEqDiff, reduceCtorEq, reduceIte, reduceDIte, if_pos rfl, Int.reduceLT, Int.reduceLE, Int.reduceEq, Int.reduceNeg, Int.reduceAdd, Int.reduceSub, Int.reduceMul, Int.reduceToNat, opLen, undef, nthC, serveX, serveB, blockOf, dropC, loopOf, Try.f36, Option.getD, e0, e4, e5, el, gp, hp, c0, body71]
      refine callX.hid (next_call (B := { B0 with o := none }) H.at' hN) ?_
      intro σ1 lg1 hlg1 hA
      refine ⟨?_⟩
      simp only [go_sem, Nat.reducePow, Nat.reduceDiv, Nat.reduceMod, Nat.reduceAdd, Nat.reduceSub, Nat.reduceMul, Nat.reduceLeDiff, Nat.reduceLT, Nat.reduceEqDiff, reduceCtorEq, reduceIte, reduceDIte, if_pos rfl, Int.reduceLT, Int.reduceLE, Int.reduceEq, Int.reduceNeg, Int.reduceAdd, Int.reduceSub, Int.reduceMul, Int.reduceToNat, opLen, undef, noOn, OnV.cells, e0, e4, e5, el, body71]
      have hB := hA.1
      have nx := hlg1.1
      have hlo := H.hlo
      have hz : ∀ z ∈ lg1, PFoot B0 S0.Q z ∨ lo ≤ z := fun z hz => by
        rcases hB z hz with h | h
        · rcases h with h | h | h | h | h
          · exact .inl (.inl h)
          · exact .inl (.inr (.inl h))
          · exact .inl (.inr (.inr (.inl h)))
          · cases h
          · exact .inl (.inr (.inr (.inr (.inr (H.ft z h)))))
        · exact .inr (by omega)
      refine ⟨fun z hz' => hz'.elim (hz z) fun e => .inr (by omega), rfl, _, v, m, none, S, [], acc, rfl, by simp only [List.length_set, el], by simp only [go_sem, Nat.reducePow, Nat.reduceDiv, Nat.reduceMod, Nat.reduceAdd, Nat.reduceSub, Nat.reduceMul, Nat.reduceLeDiff, Nat.reduceLT, Nat.reduceEqDiff, reduceCtorEq, reduceIte, reduceDIte, if_pos rfl, Int.reduceLT, Int.reduceLE, Int.reduceEq, Int.reduceNeg, Int.reduceAdd, Int.reduceSub, Int.reduceMul, Int.reduceToNat, opLen, el, e4], ?_, ?_⟩
      · refine H.keep (hA.2.keep (by simp only [go_sem, Nat.reducePow, Nat.reduceDiv, Nat.reduceMod, Nat.reduceAdd, Nat.reduceSub, Nat.reduceMul, Nat.reduceLeDiff, Nat.reduceLT, Nat.reduceEqDiff, reduceCtorEq, reduceIte, reduceDIte, if_pos rfl, Int.reduceLT, Int.reduceLE, Int.reduceEq, Int.reduceNeg, Int.reduceAdd, Int.reduceSub, Int.reduceMul, Int.reduceToNat, opLen, St.next_put] <;> omega) fun c hc => ?_) (by simp only [go_sem, Nat.reducePow, Nat.reduceDiv, Nat.reduceMod, Nat.reduceAdd, Nat.reduceSub, Nat.reduceMul, Nat.reduceLeDiff, Nat.reduceLT, Nat.reduceEqDiff, reduceCtorEq, reduceIte, reduceDIte, if_pos rfl, Int.reduceLT, Int.reduceLE, Int.reduceEq, Int.reduceNeg, Int.reduceAdd, Int.reduceSub, Int.reduceMul, Int.reduceToNat, opLen, St.next_put] <;> omega) fun a h1 h2 => ?_
        · have := hA.2.in_lt hc
          simp only [go_sem, Nat.reducePow, Nat.reduceDiv, Nat.reduceMod, Nat.reduceAdd, Nat.reduceSub, Nat.reduceMul, Nat.reduceLeDiff, Nat.reduceLT, Nat.reduceEqDiff, reduceCtorEq, reduceIte, reduceDIte, if_pos rfl, Int.reduceLT, Int.reduceLE, Int.reduceEq, Int.reduceNeg, Int.reduceAdd, Int.reduceSub, Int.reduceMul, Int.reduceToNat, opLen, this]
        · have h3 : a < σ1.next := by omega
          simp only [go_sem, Nat.reducePow, Nat.reduceDiv, Nat.reduceMod, Nat.reduceAdd, Nat.reduceSub, Nat.reduceMul, Nat.reduceLeDiff, Nat.reduceLT, Nat.reduceEqDiff, reduceCtorEq, reduceIte, reduceDIte, if_pos rfl, Int.reduceLT, Int.reduceLE, Int.reduceEq, Int.reduceNeg, Int.reduceAdd, Int.reduceSub, Int.reduceMul, Int.reduceToNat, opLen, h3]
          exact hlg1.2 a h2 fun hm => by
            rcases hB a hm with h | h
            · have := H.old h; omega
            · omega
      · have := H.sv [] none [] [] (by rw [hon, hL]; exact .empty c0)
        rw [List.append_nil] at this
        rw [hon, hL]
        exact this
    · by_cases hlt : (m : Int) < x.left
      · rw [serveB_is]
        simp only [go_sem, Nat.reducePow, Nat.reduceDiv, Nat.reduceMod, Nat.reduceAdd, Nat.reduceSub, Nat.reduceMul, Nat.reduceLeDiff, Nat.reduceLT, Nat.reduceEqDiff, reduceCtorEq, reduceIte, reduceDIte, if_pos rfl, Int.reduceLT, Int.reduceLE, Int.reduceEq, Int.reduceNeg, Int.reduceAdd, Int.reduceSub, Int.reduceMul, Int.reduceToNat, opLen, undef, nthC, serveX, serveB, blockOf, dropC, loopOf, Try.f36, Option.getD, e0, e4, e5, el, gp, hp, c0, body71]
        refine callX.hid (next_call (B := { B0 with o := none }) H.at' hN) ?_
        intro σ1 lg1 hlg1 hA
        have gp1 : σ1.get B0.p = some (.cells [.pointer (some ⟨B0.b.q, 0, none⟩), .pointer (some ⟨B0.l, 0, none⟩), .int .i64 S'.rate, .int .i64 S'.most, .int .i64 S'.now, .pointer none] false) := hA.2.gp
        have hp1 : B0.p < σ1.next := hA.2.lt
        have n1 : ¬ σ1.next = B0.p := by omega
        have hB := hA.1
        have hlo := H.hlo
        have nx := hlg1.1
        have hz1 : ∀ z ∈ lg1, PFoot B0 S0.Q z ∨ lo ≤ z := fun z hz => by
          rcases hB z hz with h | h
          · rcases h with h | h | h | h | h
            · exact .inl (.inl h)
            · exact .inl (.inr (.inl h))
            · exact .inl (.inr (.inr (.inl h)))
            · cases h
            · exact .inl (.inr (.inr (.inr (.inr (H.ft z h)))))
          · exact .inr (by omega)
        have H2 := H.next (σ2 := (((σ1.new (.cells [.int .i64 0, .int .i64 0, .int .i64 0, .bool false, .int .i64 0, .int .i64 0, .int .i64 0, .int .i64 0] false)).set σ1.next (.cells x.cells false)).set B0.p (.cells [.pointer (some ⟨B0.b.q, 0, none⟩), .pointer (some ⟨B0.l, 0, none⟩), .int .i64 S'.rate, .int .i64 S'.most, .int .i64 S'.now, .pointer (some ⟨σ1.next, 0, none⟩)] false))) hon hm0 hN hD hon' hal hsz htk hsv hlg1 hA
          (by simp only [go_sem, Nat.reducePow, Nat.reduceDiv, Nat.reduceMod, Nat.reduceAdd, Nat.reduceSub, Nat.reduceMul, Nat.reduceLeDiff, Nat.reduceLT, Nat.reduceEqDiff, reduceCtorEq, reduceIte, reduceDIte, if_pos rfl, Int.reduceLT, Int.reduceLE, Int.reduceEq, Int.reduceNeg, Int.reduceAdd, Int.reduceSub, Int.reduceMul, Int.reduceToNat, opLen]) (fun c h1 h2 => by have h2 : ¬ B0.p = c := fun e => h2 e.symm; simp only [go_sem, Nat.reducePow, Nat.reduceDiv, Nat.reduceMod, Nat.reduceAdd, Nat.reduceSub, Nat.reduceMul, Nat.reduceLeDiff, Nat.reduceLT, Nat.reduceEqDiff, reduceCtorEq, reduceIte, reduceDIte, if_pos rfl, Int.reduceLT, Int.reduceLE, Int.reduceEq, Int.reduceNeg, Int.reduceAdd, Int.reduceSub, Int.reduceMul, Int.reduceToNat, opLen, h1, h2]) (by have h2 : ¬ B0.p = σ1.next := (by omega); simp only [go_sem, Nat.reducePow, Nat.reduceDiv, Nat.reduceMod, Nat.reduceAdd, Nat.reduceSub, Nat.reduceMul, Nat.reduceLeDiff, Nat.reduceLT, Nat.reduceEqDiff, reduceCtorEq, reduceIte, reduceDIte, if_pos rfl, Int.reduceLT, Int.reduceLE, Int.reduceEq, Int.reduceNeg, Int.reduceAdd, Int.reduceSub, Int.reduceMul, Int.reduceToNat, opLen, h2]) (by rw [St.get_set, if_pos rfl])
        have hsx := hsz.on x rfl
        refine ⟨?_⟩
        simp only [go_sem, Nat.reducePow, Nat.reduceDiv, Nat.reduceMod, Nat.reduceAdd, Nat.reduceSub, Nat.reduceMul, Nat.reduceLeDiff, Nat.reduceLT, Nat.reduceEqDiff, reduceCtorEq, reduceIte, reduceDIte, if_pos rfl, Int.reduceLT, Int.reduceLE, Int.reduceEq, Int.reduceNeg, Int.reduceAdd, Int.reduceSub, Int.reduceMul, Int.reduceToNat, opLen, undef, OnV.cells, gp1, hp1, n1, e0, e4, e5, el, body71]
        refine tail_part (v := v) (bytes := (m : Int)) H2.at' H2.low ⟨by simp only [List.length_set, el], by simp only [go_sem, Nat.reducePow, Nat.reduceDiv, Nat.reduceMod, Nat.reduceAdd, Nat.reduceSub, Nat.reduceMul, Nat.reduceLeDiff, Nat.reduceLT, Nat.reduceEqDiff, reduceCtorEq, reduceIte, reduceDIte, if_pos rfl, Int.reduceLT, Int.reduceLE, Int.reduceEq, Int.reduceNeg, Int.reduceAdd, Int.reduceSub, Int.reduceMul, Int.reduceToNat, opLen, el, e0], by simp only [go_sem, Nat.reducePow, Nat.reduceDiv, Nat.reduceMod, Nat.reduceAdd, Nat.reduceSub, Nat.reduceMul, Nat.reduceLeDiff, Nat.reduceLT, Nat.reduceEqDiff, reduceCtorEq, reduceIte, reduceDIte, if_pos rfl, Int.reduceLT, Int.reduceLE, Int.reduceEq, Int.reduceNeg, Int.reduceAdd, Int.reduceSub, Int.reduceMul, Int.reduceToNat, opLen, el, e4], by simp only [go_sem, Nat.reducePow, Nat.reduceDiv, Nat.reduceMod, Nat.reduceAdd, Nat.reduceSub, Nat.reduceMul, Nat.reduceLeDiff, Nat.reduceLT, Nat.reduceEqDiff, reduceCtorEq, reduceIte, reduceDIte, if_pos rfl, Int.reduceLT, Int.reduceLE, Int.reduceEq, Int.reduceNeg, Int.reduceAdd, Int.reduceSub, Int.reduceMul, Int.reduceToNat, opLen, el, e5]⟩ rfl rfl (by omega) (by omega) hlt ?_
        intro ts' σ' F1 P1 hn hg
        have H' := H2.part rfl hm0 hlt P1 hn hg
        simp only [go_sem, Nat.reducePow, Nat.reduceDiv, Nat.reduceMod, Nat.reduceAdd, Nat.reduceSub, Nat.reduceMul, Nat.reduceLeDiff, Nat.reduceLT, Nat.reduceEqDiff, reduceCtorEq, reduceIte, reduceDIte, if_pos rfl, Int.reduceLT, Int.reduceLE, Int.reduceEq, Int.reduceNeg, Int.reduceAdd, Int.reduceSub, Int.reduceMul, Int.reduceToNat, opLen]
        refine ⟨fun z hz => ?_, 0, hm0, ts', v, some σ1.next, _, qs', acc, rfl, F1, H'⟩
        rcases hz with ((hz | hz) | hz) | hz
        · exact hz1 z hz
        · exact .inr (by omega)
        · exact .inl (.inl hz)
        · exact .inr (by omega)
      · rw [serveB_is]
        simp only [go_sem, Nat.reducePow, Nat.reduceDiv, Nat.reduceMod, Nat.reduceAdd, Nat.reduceSub, Nat.reduceMul, Nat.reduceLeDiff, Nat.reduceLT, Nat.reduceEqDiff, reduceCtorEq, reduceIte, reduceDIte, if_pos rfl, Int.reduceLT, Int.reduceLE, Int.reduceEq, Int.reduceNeg, Int.reduceAdd, Int.reduceSub, Int.reduceMul, Int.reduceToNat, opLen, undef, nthC, serveX, serveB, blockOf, dropC, loopOf, Try.f36, Option.getD, e0, e4, e5, el, gp, hp, c0, body71]
        refine callX.hid (next_call (B := { B0 with o := none }) H.at' hN) ?_
        intro σ1 lg1 hlg1 hA
        have gp1 : σ1.get B0.p = some (.cells [.pointer (some ⟨B0.b.q, 0, none⟩), .pointer (some ⟨B0.l, 0, none⟩), .int .i64 S'.rate, .int .i64 S'.most, .int .i64 S'.now, .pointer none] false) := hA.2.gp
        have hp1 : B0.p < σ1.next := hA.2.lt
        have n1 : ¬ σ1.next = B0.p := by omega
        have hB := hA.1
        have hlo := H.hlo
        have nx := hlg1.1
        have hz1 : ∀ z ∈ lg1, PFoot B0 S0.Q z ∨ lo ≤ z := fun z hz => by
          rcases hB z hz with h | h
          · rcases h with h | h | h | h | h
            · exact .inl (.inl h)
            · exact .inl (.inr (.inl h))
            · exact .inl (.inr (.inr (.inl h)))
            · cases h
            · exact .inl (.inr (.inr (.inr (.inr (H.ft z h)))))
          · exact .inr (by omega)
        have H2 := H.next (σ2 := (((σ1.new (.cells [.int .i64 0, .int .i64 0, .int .i64 0, .bool false, .int .i64 0, .int .i64 0, .int .i64 0, .int .i64 0] false)).set σ1.next (.cells x.cells false)).set B0.p (.cells [.pointer (some ⟨B0.b.q, 0, none⟩), .pointer (some ⟨B0.l, 0, none⟩), .int .i64 S'.rate, .int .i64 S'.most, .int .i64 S'.now, .pointer (some ⟨σ1.next, 0, none⟩)] false))) hon hm0 hN hD hon' hal hsz htk hsv hlg1 hA
          (by simp only [go_sem, Nat.reducePow, Nat.reduceDiv, Nat.reduceMod, Nat.reduceAdd, Nat.reduceSub, Nat.reduceMul, Nat.reduceLeDiff, Nat.reduceLT, Nat.reduceEqDiff, reduceCtorEq, reduceIte, reduceDIte, if_pos rfl, Int.reduceLT, Int.reduceLE, Int.reduceEq, Int.reduceNeg, Int.reduceAdd, Int.reduceSub, Int.reduceMul, Int.reduceToNat, opLen]) (fun c h1 h2 => by have h2 : ¬ B0.p = c := fun e => h2 e.symm; simp only [go_sem, Nat.reducePow, Nat.reduceDiv, Nat.reduceMod, Nat.reduceAdd, Nat.reduceSub, Nat.reduceMul, Nat.reduceLeDiff, Nat.reduceLT, Nat.reduceEqDiff, reduceCtorEq, reduceIte, reduceDIte, if_pos rfl, Int.reduceLT, Int.reduceLE, Int.reduceEq, Int.reduceNeg, Int.reduceAdd, Int.reduceSub, Int.reduceMul, Int.reduceToNat, opLen, h1, h2]) (by have h2 : ¬ B0.p = σ1.next := (by omega); simp only [go_sem, Nat.reducePow, Nat.reduceDiv, Nat.reduceMod, Nat.reduceAdd, Nat.reduceSub, Nat.reduceMul, Nat.reduceLeDiff, Nat.reduceLT, Nat.reduceEqDiff, reduceCtorEq, reduceIte, reduceDIte, if_pos rfl, Int.reduceLT, Int.reduceLE, Int.reduceEq, Int.reduceNeg, Int.reduceAdd, Int.reduceSub, Int.reduceMul, Int.reduceToNat, opLen, h2]) (by rw [St.get_set, if_pos rfl])
        have hsx := hsz.on x rfl
        refine ⟨?_⟩
        simp only [go_sem, Nat.reducePow, Nat.reduceDiv, Nat.reduceMod, Nat.reduceAdd, Nat.reduceSub, Nat.reduceMul, Nat.reduceLeDiff, Nat.reduceLT, Nat.reduceEqDiff, reduceCtorEq, reduceIte, reduceDIte, if_pos rfl, Int.reduceLT, Int.reduceLE, Int.reduceEq, Int.reduceNeg, Int.reduceAdd, Int.reduceSub, Int.reduceMul, Int.reduceToNat, opLen, undef, OnV.cells, gp1, hp1, n1, e0, e4, e5, el, body71]
        refine tail_full (v := v) (bytes := (m : Int)) H2.at' H2.low H2.hlo ⟨by simp only [List.length_set, el], by simp only [go_sem, Nat.reducePow, Nat.reduceDiv, Nat.reduceMod, Nat.reduceAdd, Nat.reduceSub, Nat.reduceMul, Nat.reduceLeDiff, Nat.reduceLT, Nat.reduceEqDiff, reduceCtorEq, reduceIte, reduceDIte, if_pos rfl, Int.reduceLT, Int.reduceLE, Int.reduceEq, Int.reduceNeg, Int.reduceAdd, Int.reduceSub, Int.reduceMul, Int.reduceToNat, opLen, el, e0], by simp only [go_sem, Nat.reducePow, Nat.reduceDiv, Nat.reduceMod, Nat.reduceAdd, Nat.reduceSub, Nat.reduceMul, Nat.reduceLeDiff, Nat.reduceLT, Nat.reduceEqDiff, reduceCtorEq, reduceIte, reduceDIte, if_pos rfl, Int.reduceLT, Int.reduceLE, Int.reduceEq, Int.reduceNeg, Int.reduceAdd, Int.reduceSub, Int.reduceMul, Int.reduceToNat, opLen, el, e4], by simp only [go_sem, Nat.reducePow, Nat.reduceDiv, Nat.reduceMod, Nat.reduceAdd, Nat.reduceSub, Nat.reduceMul, Nat.reduceLeDiff, Nat.reduceLT, Nat.reduceEqDiff, reduceCtorEq, reduceIte, reduceDIte, if_pos rfl, Int.reduceLT, Int.reduceLE, Int.reduceEq, Int.reduceNeg, Int.reduceAdd, Int.reduceSub, Int.reduceMul, Int.reduceToNat, opLen, el, e5]⟩ rfl rfl (by omega) (by omega) (by omega) H2.so (fun a n k hv e => H2.av a n k hv (by rw [e])) (by have := H.len; omega) ?_
        intro ts' v' σ' lg F1 hfl
        have H' := H2.full rfl hm0 (by omega) hfl
        have hk : ((m - x.left.toNat : Nat) : Int) = m - x.left := by omega
        rw [← hk] at F1
        simp only [go_sem, Nat.reducePow, Nat.reduceDiv, Nat.reduceMod, Nat.reduceAdd, Nat.reduceSub, Nat.reduceMul, Nat.reduceLeDiff, Nat.reduceLT, Nat.reduceEqDiff, reduceCtorEq, reduceIte, reduceDIte, if_pos rfl, Int.reduceLT, Int.reduceLE, Int.reduceEq, Int.reduceNeg, Int.reduceAdd, Int.reduceSub, Int.reduceMul, Int.reduceToNat, opLen]
        refine ⟨fun z hz => ?_, m - x.left.toNat, by omega, ts', v', none, _, qs', _, rfl, F1, H'⟩
        rcases hz with ((hz | hz) | hz) | hz
        · exact hz1 z hz
        · exact .inr (by omega)
        · exact .inl (.inl hz)
        · rcases hfl.2.2.2 z hz with h | h | h
          · exact .inr (by omega)
          · exact .inl (.inl h)
          · exact .inr h

end Go.Ab

set_option linter.unusedSimpArgs false
set_option linter.unusedVariables false
namespace Go.Ab
open Go.Proofs

def tick (S : PV) : PV := { S with now := S.now + 1 }

/-- What Serve leaves. -/
structure Served (σ : St) (B : PB) (S : PV) (qs : List OnV) (σ' : St) (v : Value) (o : Option Nat) (S' : PV) (qs' out : List OnV) : Prop where
  at' : PAt σ' { B with o := o } S'
  al : Alike (tick S) S'
  dr : Drains qs' S'.Q
  sz : Sizes S'.on qs' S'.V.L
  so : SoS σ.next σ' v out
  av : ∀ a n k, v = .slice (some ⟨a, 0, some 9⟩) n k → o ≠ some a
  sv : Serves (S.now + 1) S.rate S.on qs S.V.L out S'.on qs' S'.V.L
  o : ∀ z, o = some z → B.o = some z ∨ σ.next ≤ z
  ft : ∀ c, Foot B.b S'.Q c → Foot B.b S.Q c
  tk : Took S.Q qs S'.Q qs'

def ServedR (σ : St) (B : PB) (S : PV) (qs : List OnV) (e : AE) (σ' : St) (lg : Log) : Prop :=
  ∃ v o S' qs' out, e = .ret (.tuple ⟨[v, .int .i64 0]⟩) ∧ (∀ z ∈ lg, PFoot B S.Q z ∨ σ.next ≤ z) ∧ Served σ B S qs σ' v o S' qs' out

theorem PAt.now {σ σ' : St} {B : PB} {S : PV} (H : PAt σ B S) (k : Int) (hn : σ.next ≤ σ'.next) (hg : ∀ c, c < σ.next → c ≠ B.p → σ'.get c = σ.get c)
    (gp : σ'.get B.p = some (.cells [.pointer (some ⟨B.b.q, 0, none⟩), .pointer (some ⟨B.l, 0, none⟩), .int .i64 S.rate, .int .i64 S.most, .int .i64 k, onPtr B.o] false)) : PAt σ' B { S with now := k } :=
  { gp := gp
    q := H.q.keep hn fun c hc => hg c (H.q.in_lt hc) fun e => H.pf (e ▸ hc)
    l := H.l.keep hn (hg _ H.l.lt.1 fun e => H.pl e.symm) (hg _ H.l.lt.2 fun e => H.pr e.symm)
    on := ⟨H.on.has, fun o x h1 h2 => by
      obtain ⟨a, b, c1, c2⟩ := H.on.get o x h1 h2
      exact ⟨(hg o b c1).trans a, by omega, c1, c2⟩⟩
    lt := by have := H.lt; omega
    pl := H.pl
    pr := H.pr
    pf := H.pf
    lf := H.lf
    rf := H.rf }

set_option maxHeartbeats 1600000 in
set_option maxRecDepth 20000 in
theorem serve_call {σ : St} {B : PB} {S : PV} {qs : List OnV} (H : PAt σ B S) (hD : Drains qs S.Q) (hS : Sizes S.on qs S.V.L) (hnow : 0 ≤ S.now ∧ S.now < 2147483647) (hr : 0 ≤ S.rate ∧ S.rate ≤ 1000000) : callX Try.prog 36 [.pointer (some ⟨B.p, 0, none⟩)] σ (ServedR σ B S qs) := by
  have gp := H.gp
  have hp := H.lt
  have c1 : ¬ (2147483647 : Int) ≤ S.now := by omega
  have w1 : IntKind.i64.wrap (S.now + 1) = S.now + 1 := wrapI (by omega) (by omega)
  have hR : ((S.rate.toNat : Nat) : Int) = S.rate := by omega
  refine enter (p := q8) Try.func36 rfl stat36 ?_
  simp only [go_sem, Nat.reducePow, Nat.reduceDiv, Nat.reduceMod, Nat.reduceAdd, Nat.reduceSub, Nat.reduceMul, Nat.reduceLeDiff, Nat.reduceLT, Nat.reduceEqDiff, reduceCtorEq, reduceIte, reduceDIte, if_pos rfl, Int.reduceLT, Int.reduceLE, Int.reduceEq, Int.reduceNeg, Int.reduceAdd, Int.reduceSub, Int.reduceMul, Int.reduceToNat, opLen, undef, Try.f36, body69]
  refine enscope q8 36 (by kernel_rfl) ?_
  simp only [go_sem, Nat.reducePow, Nat.reduceDiv, Nat.reduceMod, Nat.reduceAdd, Nat.reduceSub, Nat.reduceMul, Nat.reduceLeDiff, Nat.reduceLT, Nat.reduceEqDiff, reduceCtorEq, reduceIte, reduceDIte, if_pos rfl, Int.reduceLT, Int.reduceLE, Int.reduceEq, Int.reduceNeg, Int.reduceAdd, Int.reduceSub, Int.reduceMul, Int.reduceToNat, opLen, undef, body69]
  refine .of (pnone_call gp) ?_
  simp only [go_sem, Nat.reducePow, Nat.reduceDiv, Nat.reduceMod, Nat.reduceAdd, Nat.reduceSub, Nat.reduceMul, Nat.reduceLeDiff, Nat.reduceLT, Nat.reduceEqDiff, reduceCtorEq, reduceIte, reduceDIte, if_pos rfl, Int.reduceLT, Int.reduceLE, Int.reduceEq, Int.reduceNeg, Int.reduceAdd, Int.reduceSub, Int.reduceMul, Int.reduceToNat, opLen, undef, gp, hp, c1, w1, body69]
  have H1 := H.now (σ' := σ.set B.p (.cells [.pointer (some ⟨B.b.q, 0, none⟩), .pointer (some ⟨B.l, 0, none⟩), .int .i64 S.rate, .int .i64 S.most, .int .i64 (S.now + 1), onPtr B.o] false)) (S.now + 1) (Nat.le_refl _) (fun c _ h => by rw [St.get_set, if_neg (Ne.symm h)]) (by rw [St.get_set, if_pos rfl])
  refine loop_then (serve_loop (B0 := B) (S0 := tick S) (lo := σ.next) (R := S.rate) (qs0 := qs) S.rate.toNat _ _ ⟨_, .slice none 0 0, B.o, tick S, qs, [], rfl, ⟨rfl, rfl, rfl, by rw [hR]; rfl⟩, ?_⟩) ?_
  · exact { hm := by omega
            at' := H1
            al := Alike.refl _
            low := ⟨H.lt, H.l.lt.1, H.l.lt.2, fun c hc => H.q.in_lt hc⟩
            hlo := Nat.le_refl _
            dr := hD
            sz := hS
            so := .inl ⟨rfl, rfl⟩
            av := fun a n k h => by cases h
            len := by show 0 + S.rate.toNat ≤ 1000000; omega
            ho := fun z hz => .inl hz
            sv := fun out on' qs' L' h => by rw [hR] at h; exact h
            ft := fun c h => h
            tk := .refl }
  · intro x fr' σ' lg hlg hB h
    obtain ⟨rfl, ts, v, m, o, S', qs', acc, rfl, el, e4, HL, hs⟩ := h
    simp only [go_sem, Nat.reducePow, Nat.reduceDiv, Nat.reduceMod, Nat.reduceAdd, Nat.reduceSub, Nat.reduceMul, Nat.reduceLeDiff, Nat.reduceLT, Nat.reduceEqDiff, reduceCtorEq, reduceIte, reduceDIte, if_pos rfl, Int.reduceLT, Int.reduceLE, Int.reduceEq, Int.reduceNeg, Int.reduceAdd, Int.reduceSub, Int.reduceMul, Int.reduceToNat, opLen, undef, e4, el, body69]
    refine ⟨v, o, S', qs', acc, rfl, fun z hz => ?_, ⟨HL.at', HL.al, HL.dr, HL.sz, HL.so, HL.av, hs, HL.ho, HL.ft, HL.tk⟩⟩
    rcases List.mem_cons.1 hz with h | h
    · exact .inl (.inl h)
    · exact hB z h

end Go.Ab

set_option linter.unusedSimpArgs false
set_option linter.unusedVariables false
namespace Go.Ab
open Go.Proofs

noncomputable def pfBody : Code := Try.f9.body.getD .skip
noncomputable def pfPut : Code := loopOf (nthC 4 pfBody)
noncomputable def pfAhead : Code := loopOf (nthC 5 pfBody)

def pksOf (Z : Nat → Int) (n : Nat) : List Pk := (List.range n).map fun j => ⟨(j : Nat), 0, Z j + 1⟩

theorem pksOf_succ (Z : Nat → Int) (n : Nat) : pksOf Z (n + 1) = pksOf Z n ++ [⟨(n : Nat), 0, Z n + 1⟩] := by simp [pksOf, List.range_succ]
theorem pksOf_len (Z : Nat → Int) (n : Nat) : (pksOf Z n).length = n := by simp [pksOf]
theorem pksOf_mem {Z : Nat → Int} {n : Nat} {y : Pk} (h : y ∈ pksOf Z n) : ∃ j, j < n ∧ y = ⟨(j : Nat), 0, Z j + 1⟩ := by
  simp only [pksOf, List.mem_map, List.mem_range] at h
  obtain ⟨j, h1, h2⟩ := h
  exact ⟨j, h1, h2.symm⟩

/-- What stands of a port, from lo on. -/
structure W9 (σ : St) (B : PB) (S : PV) (lo : Nat) (rate : Int) : Prop where
  at' : PAt σ B S
  foot : ∀ c, PFoot B S.Q c → lo ≤ c
  lo : lo ≤ σ.next
  rate : S.rate = rate
  most : S.most = 2000
  room : S.V.room = 1000000

/-- A queue with flow 1 alone. -/
def Q1 (blk : Nat) : QV := { Q0 with F := updF Q0.F 1 (some ⟨blk, 1, 1000000, 0, 0, 1⟩), nf := 1 }

structure G9 (ts : List Value) (sa : Option Addr) (len cap : Nat) (ahead : Int) (p : Nat) : Prop where
  size : ts.length = 168
  t1 : lget ts 1 = .slice sa len cap
  t2 : lget ts 2 = .int .i64 ahead
  t7 : lget ts 7 = .pointer (some ⟨p, 0, none⟩)

def I9A (sa : Option Addr) (len cap : Nat) (ahead : Int) (g0 : Option AObj) (Z : Nat → Int) (rate : Int) (lo m : Nat) (fr : Fr) (σ : St) : Prop :=
  ∃ ts B S blk, ∃ i : Nat, fr = ⟨ts, []⟩ ∧ G9 ts sa len cap ahead B.p ∧ lget ts 9 = .int .i64 i ∧ m + i = len ∧ W9 σ B S lo rate ∧ S.on = none ∧ S.now = 0 ∧ S.Q = Q1 blk ∧ S.V.L = pksOf Z i ∧ σ.get 0 = g0

def E9A (sa : Option Addr) (len cap : Nat) (ahead : Int) (g0 : Option AObj) (Z : Nat → Int) (rate : Int) (lo : Nat) (x : AX) (fr : Fr) (σ : St) : Prop :=
  x = .exit 0 ∧ ∃ ts B S blk, fr = ⟨ts, []⟩ ∧ G9 ts sa len cap ahead B.p ∧ W9 σ B S lo rate ∧ S.on = none ∧ S.now = 0 ∧ S.Q = Q1 blk ∧ S.V.L = pksOf Z len ∧ σ.get 0 = g0

theorem pfoot_r {B : PB} {Q : QV} {r' c : Nat} (h : PFoot { B with r := r' } Q c) : c = r' ∨ PFoot B Q c := by
  rcases h with h | h | h | h | h
  · exact .inr (.inl h)
  · exact .inr (.inr (.inl h))
  · exact .inl h
  · exact .inr (.inr (.inr (.inr (.inl h))))
  · exact .inr (.inr (.inr (.inr (.inr h))))

set_option maxHeartbeats 1000000 in
set_option maxRecDepth 20000 in
theorem pf_puts {sa : Option Addr} {len cap : Nat} {ahead : Int} {Z : Nat → Int} {rate : Int} {lo : Nat} {vs : List Value} {g0 : Option AObj} (hol : ∀ σ, opLen (cP Try.prog).T σ 73 (.slice sa len cap) = some (.val (.int .i64 (len : Int)) []))
    (hlen : len ≤ 20) (hsa : 0 < len → sa = some ⟨0, 0, some 0⟩) (hg : 0 < len → g0 = some (.cells vs true)) (h0 : 0 < len → 0 < lo) (hZ : ∀ i, i < len → lget? vs i = some (.int .u8 (Z i)) ∧ 0 ≤ Z i ∧ Z i ≤ 255) :
    ∀ m fr σ, I9A sa len cap ahead g0 Z rate lo m fr σ → loopX Try.prog false pfPut fr σ (endL (E9A sa len cap ahead g0 Z rate lo) fun c => lo ≤ c) := by
  refine loop_ind q8 9 (by kernel_rfl) _ _ _ ?_
  rintro m fr σ ⟨ts, B, S, blk, i, rfl, F, h9, hmi, W, hon, hnow, hQ, hL, h00⟩
  have e1 := F.t1
  have e2 := F.t2
  have e7 := F.t7
  have el := F.size
  by_cases hi : i < len
  · obtain rfl := hsa (by omega)
    obtain rfl := hg (by omega)
    obtain ⟨hz, hz0, hz1⟩ := hZ i hi
    have c0 : (i : Int) < (len : Int) := by omega
    have c1 : (0 : Int) ≤ (i : Int) := by omega
    have hn : 0 < σ.next := by have := W.lo; have := h0 (by omega); omega
    have nz : ¬ σ.next = 0 := by omega
    have w1 : IntKind.i64.wrap (Z i) = Z i := wrapI (by omega) (by omega)
    have w2 : IntKind.i64.wrap (Z i + 1) = Z i + 1 := wrapI (by omega) (by omega)
    have w3 : IntKind.i64.wrap ((i : Int) + 1) = ((i + 1 : Nat) : Int) := by
      have : (i : Int) + 1 = ((i + 1 : Nat) : Int) := by omega
      rw [this]; exact wrapIN (by omega)
    have hs : ∀ y ∈ S.V.L, 0 ≤ y.size ∧ y.size ≤ 2000 := fun y hy => by
      rw [hL] at hy
      obtain ⟨j, hj, rfl⟩ := pksOf_mem hy
      have := (hZ j (by omega)).2
      show 0 ≤ Z j + 1 ∧ Z j + 1 ≤ 2000
      omega
    have hsum := sumP_bound S.V.L hs
    have hll : S.V.L.length = i := by rw [hL, pksOf_len]
    simp only [go_sem, Nat.reducePow, Nat.reduceDiv, Nat.reduceMod, Nat.reduceAdd, Nat.reduceSub, Nat.reduceMul, Nat.reduceLeDiff, Nat.reduceLT, Nat.reduceEqDiff, reduceCtorEq, reduceIte, reduceDIte, if_pos rfl, Int.reduceLT, Int.reduceLE, Int.reduceEq, Int.reduceNeg, Int.reduceAdd, Int.reduceSub, Int.reduceMul, Int.reduceToNat, undef, pfPut, pfBody, nthC, loopOf, Try.f9, Option.getD, Int.toNat_natCast, Nat.mul_one, e1, e2, e7, el, h9, h00, hol, hn, nz, c0, c1, hz, w1, w2, w3, body35]
    refine callX.hid (pput_call W.at' (x := ⟨(i : Nat), 0, Z i + 1⟩) ⟨c1, by show (i : Int) ≤ _; omega⟩ ⟨Int.le_refl _, by show (0 : Int) ≤ 2147483647; decide⟩ ⟨by show 1 ≤ Z i + 1; omega, by show Z i + 1 ≤ 2000; omega⟩ (by show Z i + 1 ≤ S.most; rw [W.most]; omega) hs (by show Z i + 1 ≤ S.V.room - sumP S.V.L; rw [W.room]; omega) (by rw [W.room]; omega) (by omega)) ?_
    intro σ1 lg1 hlg1 hA
    obtain ⟨hB, r', hr', P1⟩ := hA
    have nx := hlg1.1
    have hlo := W.lo
    have hz : ∀ z ∈ lg1, lo ≤ z := fun z hz => by
      rcases hB z hz with h | h
      · exact W.foot z h
      · omega
    have g0' : σ1.get 0 = some (.cells vs true) := (hlg1.2 0 hn fun hm => by have := hz 0 hm; have := h0 (by omega); omega).trans h00
    have W1 : W9 σ1 { B with r := r' } { S with V := { S.V with L := S.V.L ++ [⟨(i : Nat), 0, Z i + 1⟩] } } lo rate := ⟨P1, fun c hc => by
      rcases pfoot_r hc with h | h
      · rcases hr' with e | e
        · exact W.foot c (.inr (.inr (.inl (h.trans e))))
        · omega
      · exact W.foot c h, by omega, W.rate, W.most, W.room⟩
    refine ⟨?_⟩
    simp only [go_sem, Nat.reducePow, Nat.reduceDiv, Nat.reduceMod, Nat.reduceAdd, Nat.reduceSub, Nat.reduceMul, Nat.reduceLeDiff, Nat.reduceLT, Nat.reduceEqDiff, reduceCtorEq, reduceIte, reduceDIte, if_pos rfl, Int.reduceLT, Int.reduceLE, Int.reduceEq, Int.reduceNeg, Int.reduceAdd, Int.reduceSub, Int.reduceMul, Int.reduceToNat, undef, e1, e2, e7, el, h9, w3, body35]
    exact ⟨hz, m - 1, by omega, _, { B with r := r' }, _, blk, i + 1, rfl, ⟨by simp only [List.length_set, el], by simp only [go_sem, Nat.reducePow, Nat.reduceDiv, Nat.reduceMod, Nat.reduceAdd, Nat.reduceSub, Nat.reduceMul, Nat.reduceLeDiff, Nat.reduceLT, Nat.reduceEqDiff, reduceCtorEq, reduceIte, reduceDIte, if_pos rfl, Int.reduceLT, Int.reduceLE, Int.reduceEq, Int.reduceNeg, Int.reduceAdd, Int.reduceSub, Int.reduceMul, Int.reduceToNat, el, e1], by simp only [go_sem, Nat.reducePow, Nat.reduceDiv, Nat.reduceMod, Nat.reduceAdd, Nat.reduceSub, Nat.reduceMul, Nat.reduceLeDiff, Nat.reduceLT, Nat.reduceEqDiff, reduceCtorEq, reduceIte, reduceDIte, if_pos rfl, Int.reduceLT, Int.reduceLE, Int.reduceEq, Int.reduceNeg, Int.reduceAdd, Int.reduceSub, Int.reduceMul, Int.reduceToNat, el, e2], by simp only [go_sem, Nat.reducePow, Nat.reduceDiv, Nat.reduceMod, Nat.reduceAdd, Nat.reduceSub, Nat.reduceMul, Nat.reduceLeDiff, Nat.reduceLT, Nat.reduceEqDiff, reduceCtorEq, reduceIte, reduceDIte, if_pos rfl, Int.reduceLT, Int.reduceLE, Int.reduceEq, Int.reduceNeg, Int.reduceAdd, Int.reduceSub, Int.reduceMul, Int.reduceToNat, el, e7]⟩, by simp only [go_sem, Nat.reducePow, Nat.reduceDiv, Nat.reduceMod, Nat.reduceAdd, Nat.reduceSub, Nat.reduceMul, Nat.reduceLeDiff, Nat.reduceLT, Nat.reduceEqDiff, reduceCtorEq, reduceIte, reduceDIte, if_pos rfl, Int.reduceLT, Int.reduceLE, Int.reduceEq, Int.reduceNeg, Int.reduceAdd, Int.reduceSub, Int.reduceMul, Int.reduceToNat, el], by omega, W1, hon, hnow, hQ, by show S.V.L ++ _ = _; rw [hL, pksOf_succ], g0'⟩
  · have c0 : ¬ (i : Int) < (len : Int) := by omega
    obtain rfl : i = len := by omega
    simp only [go_sem, Nat.reducePow, Nat.reduceDiv, Nat.reduceMod, Nat.reduceAdd, Nat.reduceSub, Nat.reduceMul, Nat.reduceLeDiff, Nat.reduceLT, Nat.reduceEqDiff, reduceCtorEq, reduceIte, reduceDIte, if_pos rfl, Int.reduceLT, Int.reduceLE, Int.reduceEq, Int.reduceNeg, Int.reduceAdd, Int.reduceSub, Int.reduceMul, Int.reduceToNat, undef, pfPut, pfBody, nthC, loopOf, Try.f9, Option.getD, e1, e2, e7, el, h9, hol, c0]
    exact ⟨rfl, _, B, S, blk, rfl, ⟨by simp only [List.length_set, el], by simp only [go_sem, Nat.reducePow, Nat.reduceDiv, Nat.reduceMod, Nat.reduceAdd, Nat.reduceSub, Nat.reduceMul, Nat.reduceLeDiff, Nat.reduceLT, Nat.reduceEqDiff, reduceCtorEq, reduceIte, reduceDIte, if_pos rfl, Int.reduceLT, Int.reduceLE, Int.reduceEq, Int.reduceNeg, Int.reduceAdd, Int.reduceSub, Int.reduceMul, Int.reduceToNat, el, e1], by simp only [go_sem, Nat.reducePow, Nat.reduceDiv, Nat.reduceMod, Nat.reduceAdd, Nat.reduceSub, Nat.reduceMul, Nat.reduceLeDiff, Nat.reduceLT, Nat.reduceEqDiff, reduceCtorEq, reduceIte, reduceDIte, if_pos rfl, Int.reduceLT, Int.reduceLE, Int.reduceEq, Int.reduceNeg, Int.reduceAdd, Int.reduceSub, Int.reduceMul, Int.reduceToNat, el, e2], by simp only [go_sem, Nat.reducePow, Nat.reduceDiv, Nat.reduceMod, Nat.reduceAdd, Nat.reduceSub, Nat.reduceMul, Nat.reduceLeDiff, Nat.reduceLT, Nat.reduceEqDiff, reduceCtorEq, reduceIte, reduceDIte, if_pos rfl, Int.reduceLT, Int.reduceLE, Int.reduceEq, Int.reduceNeg, Int.reduceAdd, Int.reduceSub, Int.reduceMul, Int.reduceToNat, el, e7]⟩, W, hon, hnow, hQ, hL, h00⟩


def NoC (on : Option OnV) (L : List Pk) : Prop := (∀ x, on = some x → x.pk.id ≠ 100) ∧ ∀ y ∈ L, y.id ≠ 100

def I9B (sa : Option Addr) (len cap a : Nat) (rate : Int) (lo m : Nat) (fr : Fr) (σ : St) : Prop :=
  ∃ ts B S blk, ∃ i : Nat, fr = ⟨ts, []⟩ ∧ G9 ts sa len cap (a : Nat) B.p ∧ lget ts 10 = .int .i64 i ∧ m + i = a ∧ W9 σ B S lo rate ∧ S.now = i ∧ S.Q = Q1 blk ∧ Sizes S.on [] S.V.L ∧ NoC S.on S.V.L

def E9B (sa : Option Addr) (len cap a : Nat) (rate : Int) (lo : Nat) (x : AX) (fr : Fr) (σ : St) : Prop :=
  x = .exit 2 ∧ ∃ ts B S blk, fr = ⟨ts, []⟩ ∧ G9 ts sa len cap (a : Nat) B.p ∧ W9 σ B S lo rate ∧ S.now = (a : Nat) ∧ S.Q = Q1 blk ∧ Sizes S.on [] S.V.L ∧ NoC S.on S.V.L

theorem Served.w9 {σ σ' : St} {B : PB} {S S' : PV} {qs qs' out : List OnV} {v : Value} {o : Option Nat} {lo : Nat} {rate : Int} {lg : Log} (W : W9 σ B S lo rate) (h : Served σ B S qs σ' v o S' qs' out) (hl : Logged σ σ' lg) : W9 σ' { B with o := o } S' lo rate :=
  ⟨h.at', fun c hc => by
    rcases hc with hc | hc | hc | hc | hc
    · exact W.foot c (.inl hc)
    · exact W.foot c (.inr (.inl hc))
    · exact W.foot c (.inr (.inr (.inl hc)))
    · rcases h.o c hc with h' | h'
      · exact W.foot c (.inr (.inr (.inr (.inl h'))))
      · have := W.lo; omega
    · exact W.foot c (.inr (.inr (.inr (.inr (h.ft c hc))))), by have := W.lo; have := hl.1; omega, h.al.rate.trans W.rate, h.al.most.trans W.most, h.al.room.trans W.room⟩

set_option maxHeartbeats 1000000 in
set_option maxRecDepth 20000 in
theorem pf_ahead {sa : Option Addr} {len cap a : Nat} {rate : Int} {lo : Nat} (ha : a ≤ 5) (hr : 1 ≤ rate ∧ rate ≤ 3000) :
    ∀ m fr σ, I9B sa len cap a rate lo m fr σ → loopX Try.prog false pfAhead fr σ (endL (E9B sa len cap a rate lo) fun c => lo ≤ c) := by
  refine loop_ind q8 9 (by kernel_rfl) _ _ _ ?_
  rintro m fr σ ⟨ts, B, S, blk, i, rfl, F, h9, hmi, W, hnow, hQ, hsz, hno⟩
  have e1 := F.t1
  have e2 := F.t2
  have e7 := F.t7
  have el := F.size
  by_cases hi : i < a
  · have c0 : (i : Int) < (a : Int) := by omega
    have w3 : IntKind.i64.wrap ((i : Int) + 1) = ((i + 1 : Nat) : Int) := by
      have : (i : Int) + 1 = ((i + 1 : Nat) : Int) := by omega
      rw [this]; exact wrapIN (by omega)
    have hD : Drains [] S.Q := by rw [hQ]; rfl
    simp only [go_sem, Nat.reducePow, Nat.reduceDiv, Nat.reduceMod, Nat.reduceAdd, Nat.reduceSub, Nat.reduceMul, Nat.reduceLeDiff, Nat.reduceLT, Nat.reduceEqDiff, reduceCtorEq, reduceIte, reduceDIte, if_pos rfl, Int.reduceLT, Int.reduceLE, Int.reduceEq, Int.reduceNeg, Int.reduceAdd, Int.reduceSub, Int.reduceMul, Int.reduceToNat, undef, pfAhead, pfBody, nthC, loopOf, Try.f9, Option.getD, e1, e2, e7, el, h9, c0, w3, body36]
    refine callX.hidE (serve_call W.at' hD hsz (by omega) (by rw [W.rate]; omega)) ?_
    intro e σ1 lg1 hlg1 hA
    obtain ⟨v, o, S', qs', out, rfl, hB, hV⟩ := hA
    obtain ⟨hQ', rfl⟩ := hV.tk.nil rfl
    have hlo := W.lo
    have hz : ∀ z ∈ lg1, lo ≤ z := fun z hz => by
      rcases hB z hz with h | h
      · exact W.foot z h
      · omega
    have W1 := hV.w9 W hlg1
    have hal := hV.sv.all (p := fun y => y.id ≠ 100) hno.1 (fun x hx => absurd hx (by simp)) hno.2
    refine ⟨?_⟩
    simp only [go_sem, Nat.reducePow, Nat.reduceDiv, Nat.reduceMod, Nat.reduceAdd, Nat.reduceSub, Nat.reduceMul, Nat.reduceLeDiff, Nat.reduceLT, Nat.reduceEqDiff, reduceCtorEq, reduceIte, reduceDIte, if_pos rfl, Int.reduceLT, Int.reduceLE, Int.reduceEq, Int.reduceNeg, Int.reduceAdd, Int.reduceSub, Int.reduceMul, Int.reduceToNat, undef, e1, e2, e7, el, h9, w3, body36]
    exact ⟨hz, m - 1, by omega, _, { B with o := o }, S', blk, i + 1, rfl, ⟨by simp only [List.length_set, el], by simp only [go_sem, Nat.reducePow, Nat.reduceDiv, Nat.reduceMod, Nat.reduceAdd, Nat.reduceSub, Nat.reduceMul, Nat.reduceLeDiff, Nat.reduceLT, Nat.reduceEqDiff, reduceCtorEq, reduceIte, reduceDIte, if_pos rfl, Int.reduceLT, Int.reduceLE, Int.reduceEq, Int.reduceNeg, Int.reduceAdd, Int.reduceSub, Int.reduceMul, Int.reduceToNat, el, e1], by simp only [go_sem, Nat.reducePow, Nat.reduceDiv, Nat.reduceMod, Nat.reduceAdd, Nat.reduceSub, Nat.reduceMul, Nat.reduceLeDiff, Nat.reduceLT, Nat.reduceEqDiff, reduceCtorEq, reduceIte, reduceDIte, if_pos rfl, Int.reduceLT, Int.reduceLE, Int.reduceEq, Int.reduceNeg, Int.reduceAdd, Int.reduceSub, Int.reduceMul, Int.reduceToNat, el, e2], by simp only [go_sem, Nat.reducePow, Nat.reduceDiv, Nat.reduceMod, Nat.reduceAdd, Nat.reduceSub, Nat.reduceMul, Nat.reduceLeDiff, Nat.reduceLT, Nat.reduceEqDiff, reduceCtorEq, reduceIte, reduceDIte, if_pos rfl, Int.reduceLT, Int.reduceLE, Int.reduceEq, Int.reduceNeg, Int.reduceAdd, Int.reduceSub, Int.reduceMul, Int.reduceToNat, el, e7]⟩, by simp only [go_sem, Nat.reducePow, Nat.reduceDiv, Nat.reduceMod, Nat.reduceAdd, Nat.reduceSub, Nat.reduceMul, Nat.reduceLeDiff, Nat.reduceLT, Nat.reduceEqDiff, reduceCtorEq, reduceIte, reduceDIte, if_pos rfl, Int.reduceLT, Int.reduceLE, Int.reduceEq, Int.reduceNeg, Int.reduceAdd, Int.reduceSub, Int.reduceMul, Int.reduceToNat, el], by omega, W1, by rw [hV.al.now]; show S.now + 1 = _; omega, hQ'.trans hQ, hV.sz, hal.2.1, hal.2.2.2⟩
  · have c0 : ¬ (i : Int) < (a : Int) := by omega
    obtain rfl : i = a := by omega
    simp only [go_sem, Nat.reducePow, Nat.reduceDiv, Nat.reduceMod, Nat.reduceAdd, Nat.reduceSub, Nat.reduceMul, Nat.reduceLeDiff, Nat.reduceLT, Nat.reduceEqDiff, reduceCtorEq, reduceIte, reduceDIte, if_pos rfl, Int.reduceLT, Int.reduceLE, Int.reduceEq, Int.reduceNeg, Int.reduceAdd, Int.reduceSub, Int.reduceMul, Int.reduceToNat, undef, pfAhead, pfBody, nthC, loopOf, Try.f9, Option.getD, e1, e2, e7, el, h9, c0]
    exact ⟨rfl, _, B, S, blk, rfl, ⟨by simp only [List.length_set, el], by simp only [go_sem, Nat.reducePow, Nat.reduceDiv, Nat.reduceMod, Nat.reduceAdd, Nat.reduceSub, Nat.reduceMul, Nat.reduceLeDiff, Nat.reduceLT, Nat.reduceEqDiff, reduceCtorEq, reduceIte, reduceDIte, if_pos rfl, Int.reduceLT, Int.reduceLE, Int.reduceEq, Int.reduceNeg, Int.reduceAdd, Int.reduceSub, Int.reduceMul, Int.reduceToNat, el, e1], by simp only [go_sem, Nat.reducePow, Nat.reduceDiv, Nat.reduceMod, Nat.reduceAdd, Nat.reduceSub, Nat.reduceMul, Nat.reduceLeDiff, Nat.reduceLT, Nat.reduceEqDiff, reduceCtorEq, reduceIte, reduceDIte, if_pos rfl, Int.reduceLT, Int.reduceLE, Int.reduceEq, Int.reduceNeg, Int.reduceAdd, Int.reduceSub, Int.reduceMul, Int.reduceToNat, el, e2], by simp only [go_sem, Nat.reducePow, Nat.reduceDiv, Nat.reduceMod, Nat.reduceAdd, Nat.reduceSub, Nat.reduceMul, Nat.reduceLeDiff, Nat.reduceLT, Nat.reduceEqDiff, reduceCtorEq, reduceIte, reduceDIte, if_pos rfl, Int.reduceLT, Int.reduceLE, Int.reduceEq, Int.reduceNeg, Int.reduceAdd, Int.reduceSub, Int.reduceMul, Int.reduceToNat, el, e7]⟩, W, hnow, hQ, hsz, hno⟩

end Go.Ab

set_option linter.unusedSimpArgs false
set_option linter.unusedVariables false
namespace Go.Ab
open Go.Proofs

noncomputable def pfOut : Code := loopOf (nthC 9 pfBody)

/-- How far it has come: what is under way, what waits in the queue, what was noted. -/
inductive Ph9 (isOn : Bool) (xid : Int) : Option OnV → List OnV → List Int → Nat → Prop
  | A {x c : OnV} (h : isOn = true) (h1 : x.pk.id = xid) (h2 : xid ≠ 100) (h3 : is100 c) (h4 : 1 ≤ x.left) : Ph9 isOn xid (some x) [c] [] (x.left.toNat + 60)
  | B {c : OnV} (h3 : is100 c) (h4 : isOn = true → xid ≠ 100) : Ph9 isOn xid none [c] (if isOn then [xid] else []) 55
  | C {c : OnV} (h3 : is100 c) (h4 : isOn = true → xid ≠ 100) : Ph9 isOn xid (some c) [] (if isOn then [xid] else []) c.left.toNat

/-- What a tick brings. -/
inductive Out9 (isOn : Bool) (xid : Int) (m : Nat) (ids : List Int) (on' : Option OnV) (qs' : List OnV) : List OnV → Prop
  | none {m' : Nat} (h : m' < m) (k : Ph9 isOn xid on' qs' ids m') : Out9 isOn xid m ids on' qs' []
  | one {o : OnV} {m' : Nat} (h : m' < m) (h0 : ids = []) (h1 : o.pk.id ≠ 100) (k : Ph9 isOn xid on' qs' [o.pk.id] m') : Out9 isOn xid m ids on' qs' [o]
  | last {o : OnV} {rest : List OnV} (h1 : o.pk.id = 100) (h2 : ids = if isOn then [xid] else []) : Out9 isOn xid m ids on' qs' (o :: rest)
  | both {o o' : OnV} {rest : List OnV} (h : isOn = true) (h0 : ids = []) (h1 : o.pk.id = xid) (h2 : xid ≠ 100) (h3 : o'.pk.id = 100) : Out9 isOn xid m ids on' qs' (o :: o' :: rest)

theorem Ph9.step {isOn : Bool} {xid : Int} {on on' : Option OnV} {qs qs' out : List OnV} {ids : List Int} {m : Nat} {L L' : List Pk} {now b : Int} (h : Ph9 isOn xid on qs ids m) (hb : 1 ≤ b) (hs : Serves now b on qs L out on' qs' L') : Out9 isOn xid m ids on' qs' out := by
  cases h with
  | @A x c h h1 h2 h3 h4 =>
    rcases serves_A hb h3 hs with ⟨rfl, rfl, rfl, hlt⟩ | ⟨o, rfl, ho, ⟨rfl, rfl⟩ | ⟨rfl, c', rfl, hc'⟩⟩ | ⟨o, o', rest, rfl, ho, ho'⟩
    · exact .none (m' := (x.left - b).toNat + 60) (by omega) (.A (x := { x with left := x.left - b }) h h1 h2 h3 (by show 1 ≤ x.left - b; omega))
    · refine .one (m' := 55) (by omega) rfl (by rw [ho, h1]; exact h2) ?_
      have := Ph9.B (isOn := isOn) (xid := xid) h3 fun _ => h2
      rw [h] at this
      rw [ho, h1, h]
      exact this
    · refine .one (m' := c'.left.toNat) (by have := hc'.2.2; omega) rfl (by rw [ho, h1]; exact h2) ?_
      have := Ph9.C (isOn := isOn) (xid := xid) hc' fun _ => h2
      rw [h] at this
      rw [ho, h1, h]
      exact this
    · exact .both h rfl (ho.trans h1) h2 ho'
  | @B c h3 h4 =>
    rcases serves_B hb h3 hs with ⟨rfl, rfl, c', rfl, hc', hlt⟩ | ⟨o, rest, rfl, ho⟩
    · exact .none (m' := c'.left.toNat) (by have := hc'.2.2; omega) (.C hc' h4)
    · exact .last ho rfl
  | @C c h3 h4 =>
    rcases serves_C hb h3 hs with ⟨rfl, rfl, c', rfl, hc', hlt⟩ | ⟨o, rest, rfl, ho⟩
    · exact .none (m' := c'.left.toNat) (by have := hc'.2.1; have := h3.2.1; omega) (.C hc' h4)
    · exact .last ho rfl

theorem Ph9.ids {isOn : Bool} {xid : Int} {on : Option OnV} {qs : List OnV} {ids : List Int} {m : Nat} (h : Ph9 isOn xid on qs ids m) : ids = [] ∨ (ids = [xid] ∧ xid ≠ 100 ∧ isOn = true) := by
  cases h with
  | A => exact .inl rfl
  | B h3 h4 =>
    cases isOn with
    | false => exact .inl rfl
    | true => exact .inr ⟨rfl, h4 rfl, rfl⟩
  | C h3 h4 =>
    cases isOn with
    | false => exact .inl rfl
    | true => exact .inr ⟨rfl, h4 rfl, rfl⟩

theorem Ph9.sizes {isOn : Bool} {xid : Int} {on : Option OnV} {qs : List OnV} {ids : List Int} {m : Nat} (h : Ph9 isOn xid on qs ids m) : 1 ≤ m := by
  cases h with
  | A => omega
  | B => omega
  | C h3 h4 => have := h3.2.1; omega

end Go.Ab

set_option linter.unusedSimpArgs false
set_option linter.unusedVariables false
namespace Go.Ab
open Go.Proofs

theorem und86 : (cP Try.prog).T.und 86 = some (.slice 2) := (cx_und 86).trans Try.underlying86
theorem inf2 : (cP Try.prog).T.info 2 = some Try.t2 := (cx_info 2).trans info2

theorem no_first {σ : St} {a b : Nat} {k : Int} (ha : σ.get a = some (.cells [] false)) (hg : σ.get b = some (.cells [.int .i64 k] false)) :
    opAppend (cP Try.prog).T σ 86 86 (.slice (some ⟨a, 0, some 0⟩) 0 0) (.slice (some ⟨b, 0, some 0⟩) 1 1) = some (.new (.cells [.int .i64 k] false) (.slice (some ⟨σ.next, 0, some 3⟩) 1 1) [a, b]) := by
  simp only [opAppend, und86, inf2, srcLen, Try.t2, srcCells, hg, ha]
  simp [isSeqD, oneCells, plain, plainL, vcells]

theorem no_more {σ : St} {a b : Nat} {x k : Int} (ha : σ.get a = some (.cells [.int .i64 x] false)) (hg : σ.get b = some (.cells [.int .i64 k] false)) :
    opAppend (cP Try.prog).T σ 86 86 (.slice (some ⟨a, 0, some 3⟩) 1 1) (.slice (some ⟨b, 0, some 0⟩) 1 1) =
      some (.eff (.slice (some ⟨σ.next, 0, some 3⟩) 2 2) ((σ.new (.cells [.int .i64 x, .int .i64 k] false)).put a none) [a]) := by
  simp only [opAppend, und86, inf2, srcLen, Try.t2, srcCells, hg, ha]
  simp [isSeqD, oneCells, plain, plainL, vcells]

def ints (l : List Int) : List Value := l.map fun k => .int .i64 k

/-- What was noted: a slice of at most two numbers. -/
structure Noted (σ : St) (v : Value) (ids : List Int) (a : Nat) : Prop where
  get : σ.get a = some (.cells (ints ids) false)
  val : v = .slice (some ⟨a, 0, some (if ids = [] then 0 else 3)⟩) ids.length ids.length

structure FO (ts : List Value) (p xb : Nat) (isOn : Bool) (v : Value) (i : Nat) : Prop where
  size : ts.length = 168
  t7 : lget ts 7 = .pointer (some ⟨p, 0, none⟩)
  t11 : lget ts 11 = .pointer (some ⟨xb, 0, none⟩)
  t13 : lget ts 13 = .bool isOn
  t16 : lget ts 16 = v
  t17 : lget ts 17 = .int .i64 i

/-- Where the loop stands, but for what was noted. -/
structure O9 (σ : St) (B : PB) (S : PV) (lo : Nat) (rate : Int) (xb ao : Nat) (xc : List Value) : Prop where
  w : W9 σ B S lo rate
  xg : σ.get xb = some (.cells xc false)
  lt : xb < σ.next ∧ ao < σ.next
  lo : lo ≤ xb ∧ lo ≤ ao
  ne : xb ≠ ao
  nx : ¬ PFoot B S.Q xb
  na : ¬ PFoot B S.Q ao

def I9O (lo xb : Nat) (rate : Int) (isOn : Bool) (xid : Int) (xc : List Value) (m : Nat) (fr : Fr) (σ : St) : Prop :=
  ∃ ts v B S ao ids, ∃ i : Nat, fr = ⟨ts, []⟩ ∧ FO ts B.p xb isOn v i ∧ O9 σ B S lo rate xb ao xc ∧ Noted σ v ids ao ∧ i + m ≤ 3000 ∧ (0 ≤ S.now ∧ S.now + m ≤ 4000) ∧
    ((m = 0 ∧ ids = (if isOn then [xid] else []) ++ [100]) ∨ ∃ qs, Ph9 isOn xid S.on qs ids m ∧ Drains qs S.Q ∧ Sizes S.on qs S.V.L)

def E9O (lo xb : Nat) (isOn : Bool) (xid : Int) (xc : List Value) (x : AX) (fr : Fr) (σ : St) : Prop :=
  x = .exit 4 ∧ ∃ ts v ao, fr = ⟨ts, []⟩ ∧ ts.length = 168 ∧ lget ts 11 = .pointer (some ⟨xb, 0, none⟩) ∧ lget ts 13 = .bool isOn ∧ lget ts 16 = v ∧ Noted σ v ((if isOn then [xid] else []) ++ [100]) ao ∧ σ.get xb = some (.cells xc false) ∧ xb < σ.next ∧ ao < σ.next

/-- A tick leaves what was noted. -/
theorem O9.tick {σ σ1 : St} {B : PB} {S S' : PV} {lo : Nat} {rate : Int} {xb ao : Nat} {xc : List Value} {qs qs' out : List OnV} {v : Value} {o : Option Nat} {lg : Log} (H : O9 σ B S lo rate xb ao xc) (h : Served σ B S qs σ1 v o S' qs' out) (hl : Logged σ σ1 lg) (hB : ∀ z ∈ lg, PFoot B S.Q z ∨ σ.next ≤ z) :
    O9 σ1 { B with o := o } S' lo rate xb ao xc ∧ σ1.get ao = σ.get ao ∧ (∀ z ∈ lg, lo ≤ z) := by
  have hnx := hl.1
  have hlt := H.lt
  have hlo := H.w.lo
  have no : ∀ c, c < σ.next → ¬ PFoot B S.Q c → ¬ PFoot { B with o := o } S'.Q c := fun c hc hn h' => by
    rcases h' with h' | h' | h' | h' | h'
    · exact hn (.inl h')
    · exact hn (.inr (.inl h'))
    · exact hn (.inr (.inr (.inl h')))
    · rcases h.o c h' with k | k
      · exact hn (.inr (.inr (.inr (.inl k))))
      · omega
    · exact hn (.inr (.inr (.inr (.inr (h.ft c h')))))
  have kp : ∀ c, c < σ.next → ¬ PFoot B S.Q c → σ1.get c = σ.get c := fun c hc hn => hl.2 c hc fun hm => by
    rcases hB c hm with k | k
    · exact hn k
    · omega
  exact ⟨⟨h.w9 H.w hl, (kp xb hlt.1 H.nx).trans H.xg, by omega, H.lo, H.ne, no _ hlt.1 H.nx, no _ hlt.2 H.na⟩, kp ao hlt.2 H.na, fun z hz => by
    rcases hB z hz with k | k
    · exact H.w.foot z k
    · omega⟩

/-- What was noted, laid anew. -/
theorem O9.grow {σ σ' : St} {B : PB} {S : PV} {lo : Nat} {rate : Int} {xb ao ao' : Nat} {xc : List Value} (H : O9 σ B S lo rate xb ao xc) (hn : σ.next ≤ σ'.next) (hg : ∀ c, c < σ.next → c ≠ ao → σ'.get c = σ.get c) (h1 : σ.next ≤ ao') (h2 : ao' < σ'.next) : O9 σ' B S lo rate xb ao' xc := by
  have hlo := H.w.lo
  have hlt := H.lt
  refine ⟨⟨H.w.at'.keep hn fun c hc => hg c (H.w.at'.in_lt hc) fun e => H.na (e ▸ hc), H.w.foot, by omega, H.w.rate, H.w.most, H.w.room⟩, (hg xb hlt.1 H.ne).trans H.xg, by omega, ⟨H.lo.1, by omega⟩, by omega, H.nx, fun h => by have := H.w.at'.in_lt h; omega⟩

end Go.Ab

set_option linter.unusedSimpArgs false
set_option linter.unusedVariables false
namespace Go.Ab
open Go.Proofs

set_option maxHeartbeats 1600000 in
set_option maxRecDepth 20000 in
/-- Nothing was noted yet. -/
theorem pf_none {lo xb : Nat} {rate : Int} {isOn : Bool} {xid : Int} {xc : List Value} (hr : 1 ≤ rate ∧ rate ≤ 3000) {ts : List Value} {v : Value} {B : PB} {S : PV} {ao i m : Nat} {σ : St} {qs : List OnV}
    (F : FO ts B.p xb isOn v i) (H : O9 σ B S lo rate xb ao xc) (N : Noted σ v [] ao) (him : i + m ≤ 3000) (hnow : 0 ≤ S.now ∧ S.now + m ≤ 4000) (hP : Ph9 isOn xid S.on qs [] m) (hD : Drains qs S.Q) (hS : Sizes S.on qs S.V.L) :
    wp (cP Try.prog) q8 (btAll 9) false pfOut ⟨ts, []⟩ σ (stepW (I9O lo xb rate isOn xid xc) (E9O lo xb isOn xid xc) (fun c => lo ≤ c) m) := by
  have e7 := F.t7
  have e11 := F.t11
  have e13 := F.t13
  have e16 := F.t16
  have e17 := F.t17
  have el := F.size
  have hv := N.val
  subst hv
  simp only [if_true, List.length_nil] at e16
  have hm := hP.sizes
  have c0 : (i : Int) < 6000 := by omega
  have hlt := H.lt
  simp only [go_sem, Nat.reducePow, Nat.reduceDiv, Nat.reduceMod, Nat.reduceAdd, Nat.reduceSub, Nat.reduceMul, Nat.reduceLeDiff, Nat.reduceLT, Nat.reduceEqDiff, reduceCtorEq, reduceIte, reduceDIte, if_pos rfl, Int.reduceLT, Int.reduceLE, Int.reduceEq, Int.reduceNeg, Int.reduceAdd, Int.reduceSub, Int.reduceMul, Int.reduceToNat, opLen, undef, pfOut, pfBody, nthC, loopOf, Try.f9, Option.getD, e7, e11, e13, e16, e17, el, c0, body36]
  refine callX.hidE (serve_call H.w.at' hD hS (by omega) (by rw [H.w.rate]; omega)) ?_
  intro e σ1 lg1 hlg1 hA
  obtain ⟨v', o, S', qs', out, rfl, hB, hV⟩ := hA
  obtain ⟨H1, gao, hz⟩ := H.tick hV hlg1 hB
  have hsv := hV.sv
  rw [H.w.rate] at hsv
  have hO := hP.step hr.1 hsv
  have hn' : S'.now = S.now + 1 := hV.al.now
  have nx := hlg1.1
  have so := hV.so
  have w3 : IntKind.i64.wrap ((i : Int) + 1) = ((i + 1 : Nat) : Int) := by
    have : (i : Int) + 1 = ((i + 1 : Nat) : Int) := by omega
    rw [this]; exact wrapIN (by omega)
  have ga := N.get
  rw [← gao] at ga
  simp only [ints, List.map_nil] at ga
  have hla : ao < σ1.next := by omega
  have hlx : xb < σ1.next := by omega
  have w1 : IntKind.i64.wrap (0 + 1) = 1 := by decide
  cases hO with
  | none hlt' k =>
    obtain rfl : v' = .slice none 0 0 := by
      rcases so with ⟨h, _⟩ | ⟨a, _, _, _, _, h⟩
      · exact h
      · exact absurd rfl h
    refine ⟨?_⟩
    simp only [go_sem, Nat.reducePow, Nat.reduceDiv, Nat.reduceMod, Nat.reduceAdd, Nat.reduceSub, Nat.reduceMul, Nat.reduceLeDiff, Nat.reduceLT, Nat.reduceEqDiff, reduceCtorEq, reduceIte, reduceDIte, if_pos rfl, Int.reduceLT, Int.reduceLE, Int.reduceEq, Int.reduceNeg, Int.reduceAdd, Int.reduceSub, Int.reduceMul, Int.reduceToNat, opLen, undef, e7, e11, e13, e16, e17, el, w3, body36]
    refine turn q8 9 (by kernel_rfl) ?_
    simp only [go_sem, Nat.reducePow, Nat.reduceDiv, Nat.reduceMod, Nat.reduceAdd, Nat.reduceSub, Nat.reduceMul, Nat.reduceLeDiff, Nat.reduceLT, Nat.reduceEqDiff, reduceCtorEq, reduceIte, reduceDIte, if_pos rfl, Int.reduceLT, Int.reduceLE, Int.reduceEq, Int.reduceNeg, Int.reduceAdd, Int.reduceSub, Int.reduceMul, Int.reduceToNat, opLen, undef, e7, e11, e13, e16, e17, el, w3, body36]
    exact ⟨hz, _, hlt', _, .slice (some ⟨ao, 0, some 0⟩) 0 0, { B with o := o }, S', ao, [], i + 1, rfl, ⟨by simp only [List.length_set, el], by simp only [go_sem, Nat.reducePow, Nat.reduceDiv, Nat.reduceMod, Nat.reduceAdd, Nat.reduceSub, Nat.reduceMul, Nat.reduceLeDiff, Nat.reduceLT, Nat.reduceEqDiff, reduceCtorEq, reduceIte, reduceDIte, if_pos rfl, Int.reduceLT, Int.reduceLE, Int.reduceEq, Int.reduceNeg, Int.reduceAdd, Int.reduceSub, Int.reduceMul, Int.reduceToNat, opLen, el, e7], by simp only [go_sem, Nat.reducePow, Nat.reduceDiv, Nat.reduceMod, Nat.reduceAdd, Nat.reduceSub, Nat.reduceMul, Nat.reduceLeDiff, Nat.reduceLT, Nat.reduceEqDiff, reduceCtorEq, reduceIte, reduceDIte, if_pos rfl, Int.reduceLT, Int.reduceLE, Int.reduceEq, Int.reduceNeg, Int.reduceAdd, Int.reduceSub, Int.reduceMul, Int.reduceToNat, opLen, el, e11], by simp only [go_sem, Nat.reducePow, Nat.reduceDiv, Nat.reduceMod, Nat.reduceAdd, Nat.reduceSub, Nat.reduceMul, Nat.reduceLeDiff, Nat.reduceLT, Nat.reduceEqDiff, reduceCtorEq, reduceIte, reduceDIte, if_pos rfl, Int.reduceLT, Int.reduceLE, Int.reduceEq, Int.reduceNeg, Int.reduceAdd, Int.reduceSub, Int.reduceMul, Int.reduceToNat, opLen, el, e13], by simp only [go_sem, Nat.reducePow, Nat.reduceDiv, Nat.reduceMod, Nat.reduceAdd, Nat.reduceSub, Nat.reduceMul, Nat.reduceLeDiff, Nat.reduceLT, Nat.reduceEqDiff, reduceCtorEq, reduceIte, reduceDIte, if_pos rfl, Int.reduceLT, Int.reduceLE, Int.reduceEq, Int.reduceNeg, Int.reduceAdd, Int.reduceSub, Int.reduceMul, Int.reduceToNat, opLen, el, e16], by simp only [go_sem, Nat.reducePow, Nat.reduceDiv, Nat.reduceMod, Nat.reduceAdd, Nat.reduceSub, Nat.reduceMul, Nat.reduceLeDiff, Nat.reduceLT, Nat.reduceEqDiff, reduceCtorEq, reduceIte, reduceDIte, if_pos rfl, Int.reduceLT, Int.reduceLE, Int.reduceEq, Int.reduceNeg, Int.reduceAdd, Int.reduceSub, Int.reduceMul, Int.reduceToNat, opLen, el]⟩, H1, ⟨ga, rfl⟩, by omega, by rw [hn']; omega, .inr ⟨qs', k, hV.dr, hV.sz⟩⟩
  | @one o1 m' hlt' h0 h1 k =>
    obtain ⟨al, rfl, gl, hal, hal2⟩ : ∃ al, v' = .slice (some ⟨al, 0, some 9⟩) 1 1 ∧ σ1.get al = some (.cells o1.sent false) ∧ σ.next ≤ al ∧ al < σ1.next := by
      rcases so with ⟨_, h⟩ | ⟨a, h, h2, h3, h4, _⟩
      · cases h
      · exact ⟨a, h, by simpa [cellsO] using h2, h3, h4⟩
    simp only [OnV.sent] at gl
    have b1 : (o1.pk.id == 100) = false := by rw [beq_eq_false_iff_ne]; exact h1
    have hap : ∀ σ : St, ∀ b, σ.get ao = some (.cells [] false) → σ.get b = some (.cells [.int .i64 o1.pk.id] false) → opAppend (cP Try.prog).T σ 86 86 (.slice (some ⟨ao, 0, some 0⟩) 0 0) (.slice (some ⟨b, 0, some 0⟩) 1 1) = some (.new (.cells [.int .i64 o1.pk.id] false) (.slice (some ⟨σ.next, 0, some 3⟩) 1 1) [ao, b]) := fun σ b h1 h2 => no_first h1 h2
    refine ⟨?_⟩
    simp only [go_sem, Nat.reducePow, Nat.reduceDiv, Nat.reduceMod, Nat.reduceAdd, Nat.reduceSub, Nat.reduceMul, Nat.reduceLeDiff, Nat.reduceLT, Nat.reduceEqDiff, reduceCtorEq, reduceIte, reduceDIte, if_pos rfl, Int.reduceLT, Int.reduceLE, Int.reduceEq, Int.reduceNeg, Int.reduceAdd, Int.reduceSub, Int.reduceMul, Int.reduceToNat, opLen, undef, e7, e11, e13, e16, e17, el, w3, body36]
    refine turn q8 9 (by kernel_rfl) ?_
    simp only [go_sem, Nat.reducePow, Nat.reduceDiv, Nat.reduceMod, Nat.reduceAdd, Nat.reduceSub, Nat.reduceMul, Nat.reduceLeDiff, Nat.reduceLT, Nat.reduceEqDiff, reduceCtorEq, reduceIte, reduceDIte, if_pos rfl, Int.reduceLT, Int.reduceLE, Int.reduceEq, Int.reduceNeg, Int.reduceAdd, Int.reduceSub, Int.reduceMul, Int.reduceToNat, opLen, undef, zerosN, e7, e11, e13, e16, e17, el, w1, w3, ga, gl, hal2, hla, b1, hap, body36]
    refine turn q8 9 (by kernel_rfl) ?_
    simp only [go_sem, Nat.reducePow, Nat.reduceDiv, Nat.reduceMod, Nat.reduceAdd, Nat.reduceSub, Nat.reduceMul, Nat.reduceLeDiff, Nat.reduceLT, Nat.reduceEqDiff, reduceCtorEq, reduceIte, reduceDIte, if_pos rfl, Int.reduceLT, Int.reduceLE, Int.reduceEq, Int.reduceNeg, Int.reduceAdd, Int.reduceSub, Int.reduceMul, Int.reduceToNat, opLen, undef, e7, e11, e13, e16, e17, el, w1, w3, body36]
    exact ⟨hz, m', hlt', _, .slice (some ⟨σ1.next + 1, 0, some 3⟩) 1 1, { B with o := o }, S', σ1.next + 1, [o1.pk.id], i + 1, rfl, ⟨by simp only [List.length_set, el], by simp only [go_sem, Nat.reducePow, Nat.reduceDiv, Nat.reduceMod, Nat.reduceAdd, Nat.reduceSub, Nat.reduceMul, Nat.reduceLeDiff, Nat.reduceLT, Nat.reduceEqDiff, reduceCtorEq, reduceIte, reduceDIte, if_pos rfl, Int.reduceLT, Int.reduceLE, Int.reduceEq, Int.reduceNeg, Int.reduceAdd, Int.reduceSub, Int.reduceMul, Int.reduceToNat, opLen, el, e7], by simp only [go_sem, Nat.reducePow, Nat.reduceDiv, Nat.reduceMod, Nat.reduceAdd, Nat.reduceSub, Nat.reduceMul, Nat.reduceLeDiff, Nat.reduceLT, Nat.reduceEqDiff, reduceCtorEq, reduceIte, reduceDIte, if_pos rfl, Int.reduceLT, Int.reduceLE, Int.reduceEq, Int.reduceNeg, Int.reduceAdd, Int.reduceSub, Int.reduceMul, Int.reduceToNat, opLen, el, e11], by simp only [go_sem, Nat.reducePow, Nat.reduceDiv, Nat.reduceMod, Nat.reduceAdd, Nat.reduceSub, Nat.reduceMul, Nat.reduceLeDiff, Nat.reduceLT, Nat.reduceEqDiff, reduceCtorEq, reduceIte, reduceDIte, if_pos rfl, Int.reduceLT, Int.reduceLE, Int.reduceEq, Int.reduceNeg, Int.reduceAdd, Int.reduceSub, Int.reduceMul, Int.reduceToNat, opLen, el, e13], by simp only [go_sem, Nat.reducePow, Nat.reduceDiv, Nat.reduceMod, Nat.reduceAdd, Nat.reduceSub, Nat.reduceMul, Nat.reduceLeDiff, Nat.reduceLT, Nat.reduceEqDiff, reduceCtorEq, reduceIte, reduceDIte, if_pos rfl, Int.reduceLT, Int.reduceLE, Int.reduceEq, Int.reduceNeg, Int.reduceAdd, Int.reduceSub, Int.reduceMul, Int.reduceToNat, opLen, el, e16], by simp only [go_sem, Nat.reducePow, Nat.reduceDiv, Nat.reduceMod, Nat.reduceAdd, Nat.reduceSub, Nat.reduceMul, Nat.reduceLeDiff, Nat.reduceLT, Nat.reduceEqDiff, reduceCtorEq, reduceIte, reduceDIte, if_pos rfl, Int.reduceLT, Int.reduceLE, Int.reduceEq, Int.reduceNeg, Int.reduceAdd, Int.reduceSub, Int.reduceMul, Int.reduceToNat, opLen, el]⟩, H1.grow (ao' := σ1.next + 1) (by simp only [go_sem, Nat.reducePow, Nat.reduceDiv, Nat.reduceMod, Nat.reduceAdd, Nat.reduceSub, Nat.reduceMul, Nat.reduceLeDiff, Nat.reduceLT, Nat.reduceEqDiff, reduceCtorEq, reduceIte, reduceDIte, if_pos rfl, Int.reduceLT, Int.reduceLE, Int.reduceEq, Int.reduceNeg, Int.reduceAdd, Int.reduceSub, Int.reduceMul, Int.reduceToNat, opLen, St.next_put] <;> omega) (fun c h1 h2 => by simp only [go_sem, Nat.reducePow, Nat.reduceDiv, Nat.reduceMod, Nat.reduceAdd, Nat.reduceSub, Nat.reduceMul, Nat.reduceLeDiff, Nat.reduceLT, Nat.reduceEqDiff, reduceCtorEq, reduceIte, reduceDIte, if_pos rfl, Int.reduceLT, Int.reduceLE, Int.reduceEq, Int.reduceNeg, Int.reduceAdd, Int.reduceSub, Int.reduceMul, Int.reduceToNat, opLen, h1]) (by omega) (by simp only [go_sem, Nat.reducePow, Nat.reduceDiv, Nat.reduceMod, Nat.reduceAdd, Nat.reduceSub, Nat.reduceMul, Nat.reduceLeDiff, Nat.reduceLT, Nat.reduceEqDiff, reduceCtorEq, reduceIte, reduceDIte, if_pos rfl, Int.reduceLT, Int.reduceLE, Int.reduceEq, Int.reduceNeg, Int.reduceAdd, Int.reduceSub, Int.reduceMul, Int.reduceToNat, opLen, St.next_put] <;> omega), ⟨by simp only [go_sem, Nat.reducePow, Nat.reduceDiv, Nat.reduceMod, Nat.reduceAdd, Nat.reduceSub, Nat.reduceMul, Nat.reduceLeDiff, Nat.reduceLT, Nat.reduceEqDiff, reduceCtorEq, reduceIte, reduceDIte, if_pos rfl, Int.reduceLT, Int.reduceLE, Int.reduceEq, Int.reduceNeg, Int.reduceAdd, Int.reduceSub, Int.reduceMul, Int.reduceToNat, opLen]; rfl, rfl⟩, by omega, by rw [hn']; omega, .inr ⟨qs', k, hV.dr, hV.sz⟩⟩
  | @last o1 rest h1 h2 =>
    obtain ⟨al, rfl, gl, hal, hal2⟩ : ∃ al, v' = .slice (some ⟨al, 0, some 9⟩) (rest.length + 1) (rest.length + 1) ∧ σ1.get al = some (.cells (o1.sent ++ cellsO rest) false) ∧ σ.next ≤ al ∧ al < σ1.next := by
      rcases so with ⟨_, h⟩ | ⟨a, h, h2, h3, h4, _⟩
      · cases h
      · exact ⟨a, h, h2, h3, h4⟩
    simp only [OnV.sent, h1] at gl
    have c1 : (0 : Int) < ((rest.length + 1 : Nat) : Int) := by omega
    have hap : ∀ σ : St, ∀ b, σ.get ao = some (.cells [] false) → σ.get b = some (.cells [.int .i64 100] false) → opAppend (cP Try.prog).T σ 86 86 (.slice (some ⟨ao, 0, some 0⟩) 0 0) (.slice (some ⟨b, 0, some 0⟩) 1 1) = some (.new (.cells [.int .i64 100] false) (.slice (some ⟨σ.next, 0, some 3⟩) 1 1) [ao, b]) := fun σ b h1 h2 => no_first h1 h2
    refine ⟨?_⟩
    simp only [go_sem, Nat.reducePow, Nat.reduceDiv, Nat.reduceMod, Nat.reduceAdd, Nat.reduceSub, Nat.reduceMul, Nat.reduceLeDiff, Nat.reduceLT, Nat.reduceEqDiff, reduceCtorEq, reduceIte, reduceDIte, if_pos rfl, Int.reduceLT, Int.reduceLE, Int.reduceEq, Int.reduceNeg, Int.reduceAdd, Int.reduceSub, Int.reduceMul, Int.reduceToNat, opLen, undef, e7, e11, e13, e16, e17, el, w3, body36]
    refine turn q8 9 (by kernel_rfl) ?_
    simp only [go_sem, Nat.reducePow, Nat.reduceDiv, Nat.reduceMod, Nat.reduceAdd, Nat.reduceSub, Nat.reduceMul, Nat.reduceLeDiff, Nat.reduceLT, Nat.reduceEqDiff, reduceCtorEq, reduceIte, reduceDIte, if_pos rfl, Int.reduceLT, Int.reduceLE, Int.reduceEq, Int.reduceNeg, Int.reduceAdd, Int.reduceSub, Int.reduceMul, Int.reduceToNat, opLen, undef, zerosN, e7, e11, e13, e16, e17, el, c1, w1, w3, ga, gl, hal2, hla, hap, body36]
    exact ⟨hz, 0, by omega, _, .slice (some ⟨σ1.next + 1, 0, some 3⟩) 1 1, { B with o := o }, S', σ1.next + 1, [100], i + 1, rfl, ⟨by simp only [List.length_set, el], by simp only [go_sem, Nat.reducePow, Nat.reduceDiv, Nat.reduceMod, Nat.reduceAdd, Nat.reduceSub, Nat.reduceMul, Nat.reduceLeDiff, Nat.reduceLT, Nat.reduceEqDiff, reduceCtorEq, reduceIte, reduceDIte, if_pos rfl, Int.reduceLT, Int.reduceLE, Int.reduceEq, Int.reduceNeg, Int.reduceAdd, Int.reduceSub, Int.reduceMul, Int.reduceToNat, opLen, el, e7], by simp only [go_sem, Nat.reducePow, Nat.reduceDiv, Nat.reduceMod, Nat.reduceAdd, Nat.reduceSub, Nat.reduceMul, Nat.reduceLeDiff, Nat.reduceLT, Nat.reduceEqDiff, reduceCtorEq, reduceIte, reduceDIte, if_pos rfl, Int.reduceLT, Int.reduceLE, Int.reduceEq, Int.reduceNeg, Int.reduceAdd, Int.reduceSub, Int.reduceMul, Int.reduceToNat, opLen, el, e11], by simp only [go_sem, Nat.reducePow, Nat.reduceDiv, Nat.reduceMod, Nat.reduceAdd, Nat.reduceSub, Nat.reduceMul, Nat.reduceLeDiff, Nat.reduceLT, Nat.reduceEqDiff, reduceCtorEq, reduceIte, reduceDIte, if_pos rfl, Int.reduceLT, Int.reduceLE, Int.reduceEq, Int.reduceNeg, Int.reduceAdd, Int.reduceSub, Int.reduceMul, Int.reduceToNat, opLen, el, e13], by simp only [go_sem, Nat.reducePow, Nat.reduceDiv, Nat.reduceMod, Nat.reduceAdd, Nat.reduceSub, Nat.reduceMul, Nat.reduceLeDiff, Nat.reduceLT, Nat.reduceEqDiff, reduceCtorEq, reduceIte, reduceDIte, if_pos rfl, Int.reduceLT, Int.reduceLE, Int.reduceEq, Int.reduceNeg, Int.reduceAdd, Int.reduceSub, Int.reduceMul, Int.reduceToNat, opLen, el, e16], by simp only [go_sem, Nat.reducePow, Nat.reduceDiv, Nat.reduceMod, Nat.reduceAdd, Nat.reduceSub, Nat.reduceMul, Nat.reduceLeDiff, Nat.reduceLT, Nat.reduceEqDiff, reduceCtorEq, reduceIte, reduceDIte, if_pos rfl, Int.reduceLT, Int.reduceLE, Int.reduceEq, Int.reduceNeg, Int.reduceAdd, Int.reduceSub, Int.reduceMul, Int.reduceToNat, opLen, el]⟩, H1.grow (ao' := σ1.next + 1) (by simp only [go_sem, Nat.reducePow, Nat.reduceDiv, Nat.reduceMod, Nat.reduceAdd, Nat.reduceSub, Nat.reduceMul, Nat.reduceLeDiff, Nat.reduceLT, Nat.reduceEqDiff, reduceCtorEq, reduceIte, reduceDIte, if_pos rfl, Int.reduceLT, Int.reduceLE, Int.reduceEq, Int.reduceNeg, Int.reduceAdd, Int.reduceSub, Int.reduceMul, Int.reduceToNat, opLen, St.next_put] <;> omega) (fun c h1 h2 => by simp only [go_sem, Nat.reducePow, Nat.reduceDiv, Nat.reduceMod, Nat.reduceAdd, Nat.reduceSub, Nat.reduceMul, Nat.reduceLeDiff, Nat.reduceLT, Nat.reduceEqDiff, reduceCtorEq, reduceIte, reduceDIte, if_pos rfl, Int.reduceLT, Int.reduceLE, Int.reduceEq, Int.reduceNeg, Int.reduceAdd, Int.reduceSub, Int.reduceMul, Int.reduceToNat, opLen, h1]) (by omega) (by simp only [go_sem, Nat.reducePow, Nat.reduceDiv, Nat.reduceMod, Nat.reduceAdd, Nat.reduceSub, Nat.reduceMul, Nat.reduceLeDiff, Nat.reduceLT, Nat.reduceEqDiff, reduceCtorEq, reduceIte, reduceDIte, if_pos rfl, Int.reduceLT, Int.reduceLE, Int.reduceEq, Int.reduceNeg, Int.reduceAdd, Int.reduceSub, Int.reduceMul, Int.reduceToNat, opLen, St.next_put] <;> omega), ⟨by simp only [go_sem, Nat.reducePow, Nat.reduceDiv, Nat.reduceMod, Nat.reduceAdd, Nat.reduceSub, Nat.reduceMul, Nat.reduceLeDiff, Nat.reduceLT, Nat.reduceEqDiff, reduceCtorEq, reduceIte, reduceDIte, if_pos rfl, Int.reduceLT, Int.reduceLE, Int.reduceEq, Int.reduceNeg, Int.reduceAdd, Int.reduceSub, Int.reduceMul, Int.reduceToNat, opLen]; rfl, rfl⟩, by omega, by rw [hn']; omega, .inl ⟨rfl, by rw [← h2]; rfl⟩⟩
  | @both o1 o2 rest h h0 h1 h2 h3 =>
    obtain ⟨al, rfl, gl, hal, hal2⟩ : ∃ al, v' = .slice (some ⟨al, 0, some 9⟩) (rest.length + 2) (rest.length + 2) ∧ σ1.get al = some (.cells (o1.sent ++ (o2.sent ++ cellsO rest)) false) ∧ σ.next ≤ al ∧ al < σ1.next := by
      rcases so with ⟨_, h⟩ | ⟨a, h, h2, h3, h4, _⟩
      · cases h
      · exact ⟨a, h, h2, h3, h4⟩
    simp only [OnV.sent, h1, h3] at gl
    have c1 : (0 : Int) < ((rest.length + 2 : Nat) : Int) := by omega
    have c2 : (1 : Int) < ((rest.length + 2 : Nat) : Int) := by omega
    have b1 : (xid == 100) = false := by rw [beq_eq_false_iff_ne]; exact h2
    have w2 : IntKind.i64.wrap (1 + 1) = 2 := by decide
    have hap : ∀ σ : St, ∀ b, σ.get ao = some (.cells [] false) → σ.get b = some (.cells [.int .i64 xid] false) → opAppend (cP Try.prog).T σ 86 86 (.slice (some ⟨ao, 0, some 0⟩) 0 0) (.slice (some ⟨b, 0, some 0⟩) 1 1) = some (.new (.cells [.int .i64 xid] false) (.slice (some ⟨σ.next, 0, some 3⟩) 1 1) [ao, b]) := fun σ b h1 h2 => no_first h1 h2
    have hap2 : ∀ σ : St, ∀ a b, σ.get a = some (.cells [.int .i64 xid] false) → σ.get b = some (.cells [.int .i64 100] false) → opAppend (cP Try.prog).T σ 86 86 (.slice (some ⟨a, 0, some 3⟩) 1 1) (.slice (some ⟨b, 0, some 0⟩) 1 1) =
      some (.eff (.slice (some ⟨σ.next, 0, some 3⟩) 2 2) ((σ.new (.cells [.int .i64 xid, .int .i64 100] false)).put a none) [a]) := fun σ a b h1 h2 => no_more h1 h2
    refine ⟨?_⟩
    simp only [go_sem, Nat.reducePow, Nat.reduceDiv, Nat.reduceMod, Nat.reduceAdd, Nat.reduceSub, Nat.reduceMul, Nat.reduceLeDiff, Nat.reduceLT, Nat.reduceEqDiff, reduceCtorEq, reduceIte, reduceDIte, if_pos rfl, Int.reduceLT, Int.reduceLE, Int.reduceEq, Int.reduceNeg, Int.reduceAdd, Int.reduceSub, Int.reduceMul, Int.reduceToNat, opLen, undef, e7, e11, e13, e16, e17, el, w3, body36]
    refine turn q8 9 (by kernel_rfl) ?_
    simp only [go_sem, Nat.reducePow, Nat.reduceDiv, Nat.reduceMod, Nat.reduceAdd, Nat.reduceSub, Nat.reduceMul, Nat.reduceLeDiff, Nat.reduceLT, Nat.reduceEqDiff, reduceCtorEq, reduceIte, reduceDIte, if_pos rfl, Int.reduceLT, Int.reduceLE, Int.reduceEq, Int.reduceNeg, Int.reduceAdd, Int.reduceSub, Int.reduceMul, Int.reduceToNat, opLen, undef, zerosN, e7, e11, e13, e16, e17, el, c1, w1, w3, ga, gl, hal2, hla, b1, hap, body36]
    refine turn q8 9 (by kernel_rfl) ?_
    simp only [go_sem, Nat.reducePow, Nat.reduceDiv, Nat.reduceMod, Nat.reduceAdd, Nat.reduceSub, Nat.reduceMul, Nat.reduceLeDiff, Nat.reduceLT, Nat.reduceEqDiff, reduceCtorEq, reduceIte, reduceDIte, if_pos rfl, Int.reduceLT, Int.reduceLE, Int.reduceEq, Int.reduceNeg, Int.reduceAdd, Int.reduceSub, Int.reduceMul, Int.reduceToNat, opLen, undef, zerosN, e7, e11, e13, e16, e17, el, c2, w1, w2, w3, ga, gl, hal2, hla, b1, hap2, body36]
    refine ⟨fun c hc => ?_, 0, by omega, _, .slice (some ⟨σ1.next + 3, 0, some 3⟩) 2 2, { B with o := o }, S', σ1.next + 3, [xid, 100], i + 1, rfl, ⟨by simp only [List.length_set, el], by simp only [go_sem, Nat.reducePow, Nat.reduceDiv, Nat.reduceMod, Nat.reduceAdd, Nat.reduceSub, Nat.reduceMul, Nat.reduceLeDiff, Nat.reduceLT, Nat.reduceEqDiff, reduceCtorEq, reduceIte, reduceDIte, if_pos rfl, Int.reduceLT, Int.reduceLE, Int.reduceEq, Int.reduceNeg, Int.reduceAdd, Int.reduceSub, Int.reduceMul, Int.reduceToNat, opLen, el, e7], by simp only [go_sem, Nat.reducePow, Nat.reduceDiv, Nat.reduceMod, Nat.reduceAdd, Nat.reduceSub, Nat.reduceMul, Nat.reduceLeDiff, Nat.reduceLT, Nat.reduceEqDiff, reduceCtorEq, reduceIte, reduceDIte, if_pos rfl, Int.reduceLT, Int.reduceLE, Int.reduceEq, Int.reduceNeg, Int.reduceAdd, Int.reduceSub, Int.reduceMul, Int.reduceToNat, opLen, el, e11], by simp only [go_sem, Nat.reducePow, Nat.reduceDiv, Nat.reduceMod, Nat.reduceAdd, Nat.reduceSub, Nat.reduceMul, Nat.reduceLeDiff, Nat.reduceLT, Nat.reduceEqDiff, reduceCtorEq, reduceIte, reduceDIte, if_pos rfl, Int.reduceLT, Int.reduceLE, Int.reduceEq, Int.reduceNeg, Int.reduceAdd, Int.reduceSub, Int.reduceMul, Int.reduceToNat, opLen, el, e13], by simp only [go_sem, Nat.reducePow, Nat.reduceDiv, Nat.reduceMod, Nat.reduceAdd, Nat.reduceSub, Nat.reduceMul, Nat.reduceLeDiff, Nat.reduceLT, Nat.reduceEqDiff, reduceCtorEq, reduceIte, reduceDIte, if_pos rfl, Int.reduceLT, Int.reduceLE, Int.reduceEq, Int.reduceNeg, Int.reduceAdd, Int.reduceSub, Int.reduceMul, Int.reduceToNat, opLen, el, e16], by simp only [go_sem, Nat.reducePow, Nat.reduceDiv, Nat.reduceMod, Nat.reduceAdd, Nat.reduceSub, Nat.reduceMul, Nat.reduceLeDiff, Nat.reduceLT, Nat.reduceEqDiff, reduceCtorEq, reduceIte, reduceDIte, if_pos rfl, Int.reduceLT, Int.reduceLE, Int.reduceEq, Int.reduceNeg, Int.reduceAdd, Int.reduceSub, Int.reduceMul, Int.reduceToNat, opLen, el]⟩, H1.grow (ao' := σ1.next + 3) (by simp only [go_sem, Nat.reducePow, Nat.reduceDiv, Nat.reduceMod, Nat.reduceAdd, Nat.reduceSub, Nat.reduceMul, Nat.reduceLeDiff, Nat.reduceLT, Nat.reduceEqDiff, reduceCtorEq, reduceIte, reduceDIte, if_pos rfl, Int.reduceLT, Int.reduceLE, Int.reduceEq, Int.reduceNeg, Int.reduceAdd, Int.reduceSub, Int.reduceMul, Int.reduceToNat, opLen, St.next_put] <;> omega) (fun c h1 h2 => ?_) (by omega) (by simp only [go_sem, Nat.reducePow, Nat.reduceDiv, Nat.reduceMod, Nat.reduceAdd, Nat.reduceSub, Nat.reduceMul, Nat.reduceLeDiff, Nat.reduceLT, Nat.reduceEqDiff, reduceCtorEq, reduceIte, reduceDIte, if_pos rfl, Int.reduceLT, Int.reduceLE, Int.reduceEq, Int.reduceNeg, Int.reduceAdd, Int.reduceSub, Int.reduceMul, Int.reduceToNat, opLen, St.next_put] <;> omega), ⟨?_, rfl⟩, by omega, by rw [hn']; omega, .inl ⟨rfl, by rw [h]; rfl⟩⟩
    · rcases hc with hc | hc
      · exact hz c hc
      · have := H1.w.lo; omega
    · have z1 : ¬ σ1.next + 1 = c := by omega
      simp only [go_sem, Nat.reducePow, Nat.reduceDiv, Nat.reduceMod, Nat.reduceAdd, Nat.reduceSub, Nat.reduceMul, Nat.reduceLeDiff, Nat.reduceLT, Nat.reduceEqDiff, reduceCtorEq, reduceIte, reduceDIte, if_pos rfl, Int.reduceLT, Int.reduceLE, Int.reduceEq, Int.reduceNeg, Int.reduceAdd, Int.reduceSub, Int.reduceMul, Int.reduceToNat, opLen, h1, z1]
    · have z1 : ¬ σ1.next + 1 = σ1.next + 3 := by omega
      simp only [go_sem, Nat.reducePow, Nat.reduceDiv, Nat.reduceMod, Nat.reduceAdd, Nat.reduceSub, Nat.reduceMul, Nat.reduceLeDiff, Nat.reduceLT, Nat.reduceEqDiff, reduceCtorEq, reduceIte, reduceDIte, if_pos rfl, Int.reduceLT, Int.reduceLE, Int.reduceEq, Int.reduceNeg, Int.reduceAdd, Int.reduceSub, Int.reduceMul, Int.reduceToNat, opLen, z1]; rfl

set_option maxHeartbeats 1600000 in
set_option maxRecDepth 20000 in
/-- One was noted. -/
theorem pf_one {lo xb : Nat} {rate : Int} {isOn : Bool} {xid : Int} {xc : List Value} (hr : 1 ≤ rate ∧ rate ≤ 3000) {ts : List Value} {v : Value} {B : PB} {S : PV} {ao i m : Nat} {σ : St} {qs : List OnV}
    (F : FO ts B.p xb isOn v i) (H : O9 σ B S lo rate xb ao xc) (N : Noted σ v [xid] ao) (hx : xid ≠ 100) (him : i + m ≤ 3000) (hnow : 0 ≤ S.now ∧ S.now + m ≤ 4000) (hP : Ph9 isOn xid S.on qs [xid] m) (hD : Drains qs S.Q) (hS : Sizes S.on qs S.V.L) :
    wp (cP Try.prog) q8 (btAll 9) false pfOut ⟨ts, []⟩ σ (stepW (I9O lo xb rate isOn xid xc) (E9O lo xb isOn xid xc) (fun c => lo ≤ c) m) := by
  have e7 := F.t7
  have e11 := F.t11
  have e13 := F.t13
  have e16 := F.t16
  have e17 := F.t17
  have el := F.size
  have hv := N.val
  subst hv
  simp only [reduceCtorEq, if_false, List.length_cons, List.length_nil, Nat.zero_add] at e16
  have ga0 := N.get
  simp only [ints, List.map_cons, List.map_nil] at ga0
  have q1 : IntKind.i64.wrap (1 - 1) = 0 := by decide
  have q2 : (xid != 100) = true := by simp [hx]
  have q3 : ((1 : Int) == 0) = false := by decide
  have hm := hP.sizes
  have c0 : (i : Int) < 6000 := by omega
  have hlt := H.lt
  simp only [go_sem, Nat.reducePow, Nat.reduceDiv, Nat.reduceMod, Nat.reduceAdd, Nat.reduceSub, Nat.reduceMul, Nat.reduceLeDiff, Nat.reduceLT, Nat.reduceEqDiff, reduceCtorEq, reduceIte, reduceDIte, if_pos rfl, Int.reduceLT, Int.reduceLE, Int.reduceEq, Int.reduceNeg, Int.reduceAdd, Int.reduceSub, Int.reduceMul, Int.reduceToNat, opLen, undef, pfOut, pfBody, nthC, loopOf, Try.f9, Option.getD, e7, e11, e13, e16, e17, el, c0, ga0, hlt.2, q1, q2, q3, body36]
  refine callX.hidE (serve_call H.w.at' hD hS (by omega) (by rw [H.w.rate]; omega)) ?_
  intro e σ1 lg1 hlg1 hA
  obtain ⟨v', o, S', qs', out, rfl, hB, hV⟩ := hA
  obtain ⟨H1, gao, hz⟩ := H.tick hV hlg1 hB
  have hsv := hV.sv
  rw [H.w.rate] at hsv
  have hO := hP.step hr.1 hsv
  have hn' : S'.now = S.now + 1 := hV.al.now
  have nx := hlg1.1
  have so := hV.so
  have w3 : IntKind.i64.wrap ((i : Int) + 1) = ((i + 1 : Nat) : Int) := by
    have : (i : Int) + 1 = ((i + 1 : Nat) : Int) := by omega
    rw [this]; exact wrapIN (by omega)
  have ga := N.get
  rw [← gao] at ga
  simp only [ints, List.map_cons, List.map_nil] at ga
  have hla : ao < σ1.next := by omega
  have hlx : xb < σ1.next := by omega
  have w1 : IntKind.i64.wrap (0 + 1) = 1 := by decide
  cases hO with
  | none hlt' k =>
    obtain rfl : v' = .slice none 0 0 := by
      rcases so with ⟨h, _⟩ | ⟨a, _, _, _, _, h⟩
      · exact h
      · exact absurd rfl h
    refine ⟨?_⟩
    simp only [go_sem, Nat.reducePow, Nat.reduceDiv, Nat.reduceMod, Nat.reduceAdd, Nat.reduceSub, Nat.reduceMul, Nat.reduceLeDiff, Nat.reduceLT, Nat.reduceEqDiff, reduceCtorEq, reduceIte, reduceDIte, if_pos rfl, Int.reduceLT, Int.reduceLE, Int.reduceEq, Int.reduceNeg, Int.reduceAdd, Int.reduceSub, Int.reduceMul, Int.reduceToNat, opLen, undef, e7, e11, e13, e16, e17, el, w3, body36]
    refine turn q8 9 (by kernel_rfl) ?_
    simp only [go_sem, Nat.reducePow, Nat.reduceDiv, Nat.reduceMod, Nat.reduceAdd, Nat.reduceSub, Nat.reduceMul, Nat.reduceLeDiff, Nat.reduceLT, Nat.reduceEqDiff, reduceCtorEq, reduceIte, reduceDIte, if_pos rfl, Int.reduceLT, Int.reduceLE, Int.reduceEq, Int.reduceNeg, Int.reduceAdd, Int.reduceSub, Int.reduceMul, Int.reduceToNat, opLen, undef, e7, e11, e13, e16, e17, el, w3, body36]
    exact ⟨hz, _, hlt', _, .slice (some ⟨ao, 0, some 3⟩) 1 1, { B with o := o }, S', ao, [xid], i + 1, rfl, ⟨by simp only [List.length_set, el], by simp only [go_sem, Nat.reducePow, Nat.reduceDiv, Nat.reduceMod, Nat.reduceAdd, Nat.reduceSub, Nat.reduceMul, Nat.reduceLeDiff, Nat.reduceLT, Nat.reduceEqDiff, reduceCtorEq, reduceIte, reduceDIte, if_pos rfl, Int.reduceLT, Int.reduceLE, Int.reduceEq, Int.reduceNeg, Int.reduceAdd, Int.reduceSub, Int.reduceMul, Int.reduceToNat, opLen, el, e7], by simp only [go_sem, Nat.reducePow, Nat.reduceDiv, Nat.reduceMod, Nat.reduceAdd, Nat.reduceSub, Nat.reduceMul, Nat.reduceLeDiff, Nat.reduceLT, Nat.reduceEqDiff, reduceCtorEq, reduceIte, reduceDIte, if_pos rfl, Int.reduceLT, Int.reduceLE, Int.reduceEq, Int.reduceNeg, Int.reduceAdd, Int.reduceSub, Int.reduceMul, Int.reduceToNat, opLen, el, e11], by simp only [go_sem, Nat.reducePow, Nat.reduceDiv, Nat.reduceMod, Nat.reduceAdd, Nat.reduceSub, Nat.reduceMul, Nat.reduceLeDiff, Nat.reduceLT, Nat.reduceEqDiff, reduceCtorEq, reduceIte, reduceDIte, if_pos rfl, Int.reduceLT, Int.reduceLE, Int.reduceEq, Int.reduceNeg, Int.reduceAdd, Int.reduceSub, Int.reduceMul, Int.reduceToNat, opLen, el, e13], by simp only [go_sem, Nat.reducePow, Nat.reduceDiv, Nat.reduceMod, Nat.reduceAdd, Nat.reduceSub, Nat.reduceMul, Nat.reduceLeDiff, Nat.reduceLT, Nat.reduceEqDiff, reduceCtorEq, reduceIte, reduceDIte, if_pos rfl, Int.reduceLT, Int.reduceLE, Int.reduceEq, Int.reduceNeg, Int.reduceAdd, Int.reduceSub, Int.reduceMul, Int.reduceToNat, opLen, el, e16], by simp only [go_sem, Nat.reducePow, Nat.reduceDiv, Nat.reduceMod, Nat.reduceAdd, Nat.reduceSub, Nat.reduceMul, Nat.reduceLeDiff, Nat.reduceLT, Nat.reduceEqDiff, reduceCtorEq, reduceIte, reduceDIte, if_pos rfl, Int.reduceLT, Int.reduceLE, Int.reduceEq, Int.reduceNeg, Int.reduceAdd, Int.reduceSub, Int.reduceMul, Int.reduceToNat, opLen, el]⟩, H1, ⟨ga, rfl⟩, by omega, by rw [hn']; omega, .inr ⟨qs', k, hV.dr, hV.sz⟩⟩
  | one hlt' h0 => cases h0
  | both h h0 => cases h0
  | @last o1 rest h1 h2 =>
    obtain ⟨al, rfl, gl, hal, hal2⟩ : ∃ al, v' = .slice (some ⟨al, 0, some 9⟩) (rest.length + 1) (rest.length + 1) ∧ σ1.get al = some (.cells (o1.sent ++ cellsO rest) false) ∧ σ.next ≤ al ∧ al < σ1.next := by
      rcases so with ⟨_, h⟩ | ⟨a, h, h2, h3, h4, _⟩
      · cases h
      · exact ⟨a, h, h2, h3, h4⟩
    simp only [OnV.sent, h1] at gl
    have nal : ¬ ao = al := by omega
    have c1 : (0 : Int) < ((rest.length + 1 : Nat) : Int) := by omega
    have hap : ∀ σ : St, ∀ b, σ.get ao = some (.cells [.int .i64 xid] false) → σ.get b = some (.cells [.int .i64 100] false) → opAppend (cP Try.prog).T σ 86 86 (.slice (some ⟨ao, 0, some 3⟩) 1 1) (.slice (some ⟨b, 0, some 0⟩) 1 1) =
      some (.eff (.slice (some ⟨σ.next, 0, some 3⟩) 2 2) ((σ.new (.cells [.int .i64 xid, .int .i64 100] false)).put ao none) [ao]) := fun σ b h1 h2 => no_more h1 h2
    refine ⟨?_⟩
    simp only [go_sem, Nat.reducePow, Nat.reduceDiv, Nat.reduceMod, Nat.reduceAdd, Nat.reduceSub, Nat.reduceMul, Nat.reduceLeDiff, Nat.reduceLT, Nat.reduceEqDiff, reduceCtorEq, reduceIte, reduceDIte, if_pos rfl, Int.reduceLT, Int.reduceLE, Int.reduceEq, Int.reduceNeg, Int.reduceAdd, Int.reduceSub, Int.reduceMul, Int.reduceToNat, opLen, undef, e7, e11, e13, e16, e17, el, w3, body36]
    refine turn q8 9 (by kernel_rfl) ?_
    simp only [go_sem, Nat.reducePow, Nat.reduceDiv, Nat.reduceMod, Nat.reduceAdd, Nat.reduceSub, Nat.reduceMul, Nat.reduceLeDiff, Nat.reduceLT, Nat.reduceEqDiff, reduceCtorEq, reduceIte, reduceDIte, if_pos rfl, Int.reduceLT, Int.reduceLE, Int.reduceEq, Int.reduceNeg, Int.reduceAdd, Int.reduceSub, Int.reduceMul, Int.reduceToNat, opLen, undef, zerosN, e7, e11, e13, e16, e17, el, c1, w1, w3, ga, gl, hal2, hla, nal, hap, body36]
    refine ⟨fun c hc => ?_, 0, by omega, _, .slice (some ⟨σ1.next + 1, 0, some 3⟩) 2 2, { B with o := o }, S', σ1.next + 1, [xid, 100], i + 1, rfl, ⟨by simp only [List.length_set, el], by simp only [go_sem, Nat.reducePow, Nat.reduceDiv, Nat.reduceMod, Nat.reduceAdd, Nat.reduceSub, Nat.reduceMul, Nat.reduceLeDiff, Nat.reduceLT, Nat.reduceEqDiff, reduceCtorEq, reduceIte, reduceDIte, if_pos rfl, Int.reduceLT, Int.reduceLE, Int.reduceEq, Int.reduceNeg, Int.reduceAdd, Int.reduceSub, Int.reduceMul, Int.reduceToNat, opLen, el, e7], by simp only [go_sem, Nat.reducePow, Nat.reduceDiv, Nat.reduceMod, Nat.reduceAdd, Nat.reduceSub, Nat.reduceMul, Nat.reduceLeDiff, Nat.reduceLT, Nat.reduceEqDiff, reduceCtorEq, reduceIte, reduceDIte, if_pos rfl, Int.reduceLT, Int.reduceLE, Int.reduceEq, Int.reduceNeg, Int.reduceAdd, Int.reduceSub, Int.reduceMul, Int.reduceToNat, opLen, el, e11], by simp only [go_sem, Nat.reducePow, Nat.reduceDiv, Nat.reduceMod, Nat.reduceAdd, Nat.reduceSub, Nat.reduceMul, Nat.reduceLeDiff, Nat.reduceLT, Nat.reduceEqDiff, reduceCtorEq, reduceIte, reduceDIte, if_pos rfl, Int.reduceLT, Int.reduceLE, Int.reduceEq, Int.reduceNeg, Int.reduceAdd, Int.reduceSub, Int.reduceMul, Int.reduceToNat, opLen, el, e13], by simp only [go_sem, Nat.reducePow, Nat.reduceDiv, Nat.reduceMod, Nat.reduceAdd, Nat.reduceSub, Nat.reduceMul, Nat.reduceLeDiff, Nat.reduceLT, Nat.reduceEqDiff, reduceCtorEq, reduceIte, reduceDIte, if_pos rfl, Int.reduceLT, Int.reduceLE, Int.reduceEq, Int.reduceNeg, Int.reduceAdd, Int.reduceSub, Int.reduceMul, Int.reduceToNat, opLen, el, e16], by simp only [go_sem, Nat.reducePow, Nat.reduceDiv, Nat.reduceMod, Nat.reduceAdd, Nat.reduceSub, Nat.reduceMul, Nat.reduceLeDiff, Nat.reduceLT, Nat.reduceEqDiff, reduceCtorEq, reduceIte, reduceDIte, if_pos rfl, Int.reduceLT, Int.reduceLE, Int.reduceEq, Int.reduceNeg, Int.reduceAdd, Int.reduceSub, Int.reduceMul, Int.reduceToNat, opLen, el]⟩, H1.grow (ao' := σ1.next + 1) (by simp only [go_sem, Nat.reducePow, Nat.reduceDiv, Nat.reduceMod, Nat.reduceAdd, Nat.reduceSub, Nat.reduceMul, Nat.reduceLeDiff, Nat.reduceLT, Nat.reduceEqDiff, reduceCtorEq, reduceIte, reduceDIte, if_pos rfl, Int.reduceLT, Int.reduceLE, Int.reduceEq, Int.reduceNeg, Int.reduceAdd, Int.reduceSub, Int.reduceMul, Int.reduceToNat, opLen, St.next_put] <;> omega) (fun c h1 h2 => ?_) (by omega) (by simp only [go_sem, Nat.reducePow, Nat.reduceDiv, Nat.reduceMod, Nat.reduceAdd, Nat.reduceSub, Nat.reduceMul, Nat.reduceLeDiff, Nat.reduceLT, Nat.reduceEqDiff, reduceCtorEq, reduceIte, reduceDIte, if_pos rfl, Int.reduceLT, Int.reduceLE, Int.reduceEq, Int.reduceNeg, Int.reduceAdd, Int.reduceSub, Int.reduceMul, Int.reduceToNat, opLen, St.next_put] <;> omega), ⟨?_, rfl⟩, by omega, by rw [hn']; omega, .inl ⟨rfl, by rw [← h2]; rfl⟩⟩
    · rcases hc with hc | hc
      · exact hz c hc
      · have := H.lo; omega
    · have z1 : ¬ ao = c := fun e => h2 e.symm
      simp only [go_sem, Nat.reducePow, Nat.reduceDiv, Nat.reduceMod, Nat.reduceAdd, Nat.reduceSub, Nat.reduceMul, Nat.reduceLeDiff, Nat.reduceLT, Nat.reduceEqDiff, reduceCtorEq, reduceIte, reduceDIte, if_pos rfl, Int.reduceLT, Int.reduceLE, Int.reduceEq, Int.reduceNeg, Int.reduceAdd, Int.reduceSub, Int.reduceMul, Int.reduceToNat, opLen, h1, z1]
    · have z1 : ¬ ao = σ1.next + 1 := by omega
      simp only [go_sem, Nat.reducePow, Nat.reduceDiv, Nat.reduceMod, Nat.reduceAdd, Nat.reduceSub, Nat.reduceMul, Nat.reduceLeDiff, Nat.reduceLT, Nat.reduceEqDiff, reduceCtorEq, reduceIte, reduceDIte, if_pos rfl, Int.reduceLT, Int.reduceLE, Int.reduceEq, Int.reduceNeg, Int.reduceAdd, Int.reduceSub, Int.reduceMul, Int.reduceToNat, opLen, z1]; rfl

end Go.Ab

set_option linter.unusedSimpArgs false
set_option linter.unusedVariables false
namespace Go.Ab
open Go.Proofs

set_option maxHeartbeats 1600000 in
set_option maxRecDepth 20000 in
theorem pf_out {lo xb : Nat} {rate : Int} {isOn : Bool} {xid : Int} {xc : List Value} (hr : 1 ≤ rate ∧ rate ≤ 3000) :
    ∀ m fr σ, I9O lo xb rate isOn xid xc m fr σ → loopX Try.prog false pfOut fr σ (endL (E9O lo xb isOn xid xc) fun c => lo ≤ c) := by
  refine loop_ind q8 9 (by kernel_rfl) _ _ _ ?_
  rintro m fr σ ⟨ts, v, B, S, ao, ids, i, rfl, F, H, N, him, hnow, ⟨rfl, rfl⟩ | ⟨qs, hP, hD, hS⟩⟩
  · have e7 := F.t7
    have e11 := F.t11
    have e13 := F.t13
    have e16 := F.t16
    have e17 := F.t17
    have el := F.size
    have hv := N.val
    have ga := N.get
    have hlt := H.lt
    have c0 : (i : Int) < 6000 := by omega
    have q1 : IntKind.i64.wrap (1 - 1) = 0 := by decide
    have q2 : IntKind.i64.wrap (2 - 1) = 1 := by decide
    have q3 : ((1 : Int) == 0) = false := by decide
    have q4 : ((2 : Int) == 0) = false := by decide
    have q5 : ((100 : Int) != 100) = false := by decide
    subst hv
    cases isOn with
    | false =>
      simp only [Bool.false_eq_true, if_false, List.nil_append, reduceCtorEq, List.length_cons, List.length_nil, Nat.zero_add] at e16
      simp only [Bool.false_eq_true, if_false, List.nil_append, ints, List.map_cons, List.map_nil] at ga
      simp only [go_sem, Nat.reducePow, Nat.reduceDiv, Nat.reduceMod, Nat.reduceAdd, Nat.reduceSub, Nat.reduceMul, Nat.reduceLeDiff, Nat.reduceLT, Nat.reduceEqDiff, reduceCtorEq, reduceIte, reduceDIte, if_pos rfl, Int.reduceLT, Int.reduceLE, Int.reduceEq, Int.reduceNeg, Int.reduceAdd, Int.reduceSub, Int.reduceMul, Int.reduceToNat, opLen, undef, pfOut, pfBody, nthC, loopOf, Try.f9, Option.getD, e7, e11, e13, e16, e17, el, c0, ga, hlt.2, q1, q2, q3, q4, q5, body36]
      exact ⟨rfl, _, _, ao, rfl, by simp only [List.length_set, el], by simp only [go_sem, Nat.reducePow, Nat.reduceDiv, Nat.reduceMod, Nat.reduceAdd, Nat.reduceSub, Nat.reduceMul, Nat.reduceLeDiff, Nat.reduceLT, Nat.reduceEqDiff, reduceCtorEq, reduceIte, reduceDIte, if_pos rfl, Int.reduceLT, Int.reduceLE, Int.reduceEq, Int.reduceNeg, Int.reduceAdd, Int.reduceSub, Int.reduceMul, Int.reduceToNat, opLen, el, e11], by simp only [go_sem, Nat.reducePow, Nat.reduceDiv, Nat.reduceMod, Nat.reduceAdd, Nat.reduceSub, Nat.reduceMul, Nat.reduceLeDiff, Nat.reduceLT, Nat.reduceEqDiff, reduceCtorEq, reduceIte, reduceDIte, if_pos rfl, Int.reduceLT, Int.reduceLE, Int.reduceEq, Int.reduceNeg, Int.reduceAdd, Int.reduceSub, Int.reduceMul, Int.reduceToNat, opLen, el, e13], by simp only [go_sem, Nat.reducePow, Nat.reduceDiv, Nat.reduceMod, Nat.reduceAdd, Nat.reduceSub, Nat.reduceMul, Nat.reduceLeDiff, Nat.reduceLT, Nat.reduceEqDiff, reduceCtorEq, reduceIte, reduceDIte, if_pos rfl, Int.reduceLT, Int.reduceLE, Int.reduceEq, Int.reduceNeg, Int.reduceAdd, Int.reduceSub, Int.reduceMul, Int.reduceToNat, opLen, el, e16], ⟨N.get, rfl⟩, H.xg, hlt.1, hlt.2⟩
    | true =>
      simp only [if_true, List.cons_append, List.nil_append, reduceCtorEq, if_false, List.length_cons, List.length_nil, Nat.zero_add, Nat.reduceAdd] at e16
      simp only [if_true, List.cons_append, List.nil_append, ints, List.map_cons, List.map_nil] at ga
      simp only [go_sem, Nat.reducePow, Nat.reduceDiv, Nat.reduceMod, Nat.reduceAdd, Nat.reduceSub, Nat.reduceMul, Nat.reduceLeDiff, Nat.reduceLT, Nat.reduceEqDiff, reduceCtorEq, reduceIte, reduceDIte, if_pos rfl, Int.reduceLT, Int.reduceLE, Int.reduceEq, Int.reduceNeg, Int.reduceAdd, Int.reduceSub, Int.reduceMul, Int.reduceToNat, opLen, undef, pfOut, pfBody, nthC, loopOf, Try.f9, Option.getD, e7, e11, e13, e16, e17, el, c0, ga, hlt.2, q1, q2, q3, q4, q5, body36]
      exact ⟨rfl, _, _, ao, rfl, by simp only [List.length_set, el], by simp only [go_sem, Nat.reducePow, Nat.reduceDiv, Nat.reduceMod, Nat.reduceAdd, Nat.reduceSub, Nat.reduceMul, Nat.reduceLeDiff, Nat.reduceLT, Nat.reduceEqDiff, reduceCtorEq, reduceIte, reduceDIte, if_pos rfl, Int.reduceLT, Int.reduceLE, Int.reduceEq, Int.reduceNeg, Int.reduceAdd, Int.reduceSub, Int.reduceMul, Int.reduceToNat, opLen, el, e11], by simp only [go_sem, Nat.reducePow, Nat.reduceDiv, Nat.reduceMod, Nat.reduceAdd, Nat.reduceSub, Nat.reduceMul, Nat.reduceLeDiff, Nat.reduceLT, Nat.reduceEqDiff, reduceCtorEq, reduceIte, reduceDIte, if_pos rfl, Int.reduceLT, Int.reduceLE, Int.reduceEq, Int.reduceNeg, Int.reduceAdd, Int.reduceSub, Int.reduceMul, Int.reduceToNat, opLen, el, e13], by simp only [go_sem, Nat.reducePow, Nat.reduceDiv, Nat.reduceMod, Nat.reduceAdd, Nat.reduceSub, Nat.reduceMul, Nat.reduceLeDiff, Nat.reduceLT, Nat.reduceEqDiff, reduceCtorEq, reduceIte, reduceDIte, if_pos rfl, Int.reduceLT, Int.reduceLE, Int.reduceEq, Int.reduceNeg, Int.reduceAdd, Int.reduceSub, Int.reduceMul, Int.reduceToNat, opLen, el, e16], ⟨N.get, rfl⟩, H.xg, hlt.1, hlt.2⟩
  · rcases hP.ids with rfl | ⟨rfl, hx, _⟩
    · exact pf_none hr F H N him hnow hP hD hS
    · exact pf_one hr F H N hx him hnow hP hD hS

theorem small_call (n : Int) (σ : St) : DCall Try.prog 32 [.int .i64 n] σ (.ret (.bool (decide (1 ≤ n) && decide (n ≤ 3000)))) σ [] := by
  refine pure_call (enter (p := q8) Try.func32 rfl stat32 ?_) rfl
  by_cases h : 1 ≤ n
  · simp only [go_sem, Nat.reducePow, Nat.reduceDiv, Nat.reduceMod, Nat.reduceAdd, Nat.reduceSub, Nat.reduceMul, Nat.reduceLeDiff, Nat.reduceLT, Nat.reduceEqDiff, reduceCtorEq, reduceIte, reduceDIte, if_pos rfl, Int.reduceLT, Int.reduceLE, Int.reduceEq, Int.reduceNeg, Int.reduceAdd, Int.reduceSub, Int.reduceMul, Int.reduceToNat, opLen, Try.f32, h]
  · simp only [go_sem, Nat.reducePow, Nat.reduceDiv, Nat.reduceMod, Nat.reduceAdd, Nat.reduceSub, Nat.reduceMul, Nat.reduceLeDiff, Nat.reduceLT, Nat.reduceEqDiff, reduceCtorEq, reduceIte, reduceDIte, if_pos rfl, Int.reduceLT, Int.reduceLE, Int.reduceEq, Int.reduceNeg, Int.reduceAdd, Int.reduceSub, Int.reduceMul, Int.reduceToNat, opLen, undef, Try.f32, h]

theorem f01 : fN 0 1 = 0 ∧ fD 0 1 = 1 := by decide

end Go.Ab

set_option linter.unusedSimpArgs false
set_option linter.unusedVariables false
namespace Go.Ab
open Go.Proofs

def True9 (σ : St) (e : AE) (_ : St) (lg : Log) : Prop := e = .ret (.bool true) ∧ ∀ c ∈ lg, σ.next ≤ c

set_option maxHeartbeats 1600000 in
set_option maxRecDepth 20000 in
/-- A rate that is not small. -/
theorem pf_big {rate ahead : Int} {sa : Option Addr} {len cap : Nat} {σ : St} (h : ¬ (1 ≤ rate ∧ rate ≤ 3000)) : callX Try.prog 9 [.int .i64 rate, .slice sa len cap, .int .i64 ahead] σ (True9 σ) := by
  have hb : (decide (1 ≤ rate) && decide (rate ≤ 3000)) = false := by
    rw [Bool.and_eq_false_iff, decide_eq_false_iff_not, decide_eq_false_iff_not]
    omega
  refine enter (p := q8) Try.func9 rfl stat9 ?_
  by_cases h1 : 1 ≤ rate ∧ rate ≤ 1000000
  · simp only [go_sem, Nat.reducePow, Nat.reduceDiv, Nat.reduceMod, Nat.reduceAdd, Nat.reduceSub, Nat.reduceMul, Nat.reduceLeDiff, Nat.reduceLT, Nat.reduceEqDiff, reduceCtorEq, reduceIte, reduceDIte, if_pos rfl, Int.reduceLT, Int.reduceLE, Int.reduceEq, Int.reduceNeg, Int.reduceAdd, Int.reduceSub, Int.reduceMul, Int.reduceToNat, undef, Try.f9, body31, body32, body33]
    refine callX.hidE (pnew_call h1 (by omega) (by omega) (by omega)) ?_
    intro e σ1 lg1 hlg1 hA
    obtain ⟨B, rfl, hB, _⟩ := hA
    refine ⟨?_⟩
    simp only [go_sem, Nat.reducePow, Nat.reduceDiv, Nat.reduceMod, Nat.reduceAdd, Nat.reduceSub, Nat.reduceMul, Nat.reduceLeDiff, Nat.reduceLT, Nat.reduceEqDiff, reduceCtorEq, reduceIte, reduceDIte, if_pos rfl, Int.reduceLT, Int.reduceLE, Int.reduceEq, Int.reduceNeg, Int.reduceAdd, Int.reduceSub, Int.reduceMul, Int.reduceToNat, undef, body31, body32, body33]
    refine .of (small_call _ _) ?_
    simp only [go_sem, Nat.reducePow, Nat.reduceDiv, Nat.reduceMod, Nat.reduceAdd, Nat.reduceSub, Nat.reduceMul, Nat.reduceLeDiff, Nat.reduceLT, Nat.reduceEqDiff, reduceCtorEq, reduceIte, reduceDIte, if_pos rfl, Int.reduceLT, Int.reduceLE, Int.reduceEq, Int.reduceNeg, Int.reduceAdd, Int.reduceSub, Int.reduceMul, Int.reduceToNat, undef, hb, body31, body32, body33]
    refine .of (known33_call _) ?_
    simp only [go_sem, Nat.reducePow, Nat.reduceDiv, Nat.reduceMod, Nat.reduceAdd, Nat.reduceSub, Nat.reduceMul, Nat.reduceLeDiff, Nat.reduceLT, Nat.reduceEqDiff, reduceCtorEq, reduceIte, reduceDIte, if_pos rfl, Int.reduceLT, Int.reduceLE, Int.reduceEq, Int.reduceNeg, Int.reduceAdd, Int.reduceSub, Int.reduceMul, Int.reduceToNat, undef, body31, body32, body33]
    exact ⟨rfl, hB⟩
  · simp only [go_sem, Nat.reducePow, Nat.reduceDiv, Nat.reduceMod, Nat.reduceAdd, Nat.reduceSub, Nat.reduceMul, Nat.reduceLeDiff, Nat.reduceLT, Nat.reduceEqDiff, reduceCtorEq, reduceIte, reduceDIte, if_pos rfl, Int.reduceLT, Int.reduceLE, Int.reduceEq, Int.reduceNeg, Int.reduceAdd, Int.reduceSub, Int.reduceMul, Int.reduceToNat, undef, Try.f9, body31, body32, body33]
    refine callX.hidE (pnew_not h1 (by omega)) ?_
    intro e σ1 lg1 hlg1 hA
    obtain ⟨rfl, hB⟩ := hA
    refine ⟨?_⟩
    simp only [go_sem, Nat.reducePow, Nat.reduceDiv, Nat.reduceMod, Nat.reduceAdd, Nat.reduceSub, Nat.reduceMul, Nat.reduceLeDiff, Nat.reduceLT, Nat.reduceEqDiff, reduceCtorEq, reduceIte, reduceDIte, if_pos rfl, Int.reduceLT, Int.reduceLE, Int.reduceEq, Int.reduceNeg, Int.reduceAdd, Int.reduceSub, Int.reduceMul, Int.reduceToNat, undef, body31, body32, body33]
    refine .of (small_call _ _) ?_
    simp only [go_sem, Nat.reducePow, Nat.reduceDiv, Nat.reduceMod, Nat.reduceAdd, Nat.reduceSub, Nat.reduceMul, Nat.reduceLeDiff, Nat.reduceLT, Nat.reduceEqDiff, reduceCtorEq, reduceIte, reduceDIte, if_pos rfl, Int.reduceLT, Int.reduceLE, Int.reduceEq, Int.reduceNeg, Int.reduceAdd, Int.reduceSub, Int.reduceMul, Int.reduceToNat, undef, hb, body31, body32, body33]
    refine .of (known33_call _) ?_
    simp only [go_sem, Nat.reducePow, Nat.reduceDiv, Nat.reduceMod, Nat.reduceAdd, Nat.reduceSub, Nat.reduceMul, Nat.reduceLeDiff, Nat.reduceLT, Nat.reduceEqDiff, reduceCtorEq, reduceIte, reduceDIte, if_pos rfl, Int.reduceLT, Int.reduceLE, Int.reduceEq, Int.reduceNeg, Int.reduceAdd, Int.reduceSub, Int.reduceMul, Int.reduceToNat, undef, body31, body32, body33]
    exact ⟨rfl, hB⟩

set_option maxHeartbeats 1600000 in
set_option maxRecDepth 20000 in
/-- Too many, or too many ticks. -/
theorem pf_many {rate ahead : Int} {sa : Option Addr} {len cap : Nat} {σ : St} (hol : ∀ σ, opLen (cP Try.prog).T σ 73 (.slice sa len cap) = some (.val (.int .i64 (len : Int)) [])) (h : 1 ≤ rate ∧ rate ≤ 3000) (h1 : ¬ (len ≤ 20 ∧ 0 ≤ ahead ∧ ahead ≤ 5)) : callX Try.prog 9 [.int .i64 rate, .slice sa len cap, .int .i64 ahead] σ (True9 σ) := by
  refine enter (p := q8) Try.func9 rfl stat9 ?_
  by_cases c1 : (20 : Int) < (len : Int)
  · simp only [go_sem, Nat.reducePow, Nat.reduceDiv, Nat.reduceMod, Nat.reduceAdd, Nat.reduceSub, Nat.reduceMul, Nat.reduceLeDiff, Nat.reduceLT, Nat.reduceEqDiff, reduceCtorEq, reduceIte, reduceDIte, if_pos rfl, Int.reduceLT, Int.reduceLE, Int.reduceEq, Int.reduceNeg, Int.reduceAdd, Int.reduceSub, Int.reduceMul, Int.reduceToNat, undef, Try.f9, body31, body32, body33]
    refine callX.hidE (pnew_call (by omega) (by omega) (by omega) (by omega)) ?_
    intro e σ1 lg1 hlg1 hA
    obtain ⟨B, rfl, hB, _⟩ := hA
    refine ⟨?_⟩
    simp only [go_sem, Nat.reducePow, Nat.reduceDiv, Nat.reduceMod, Nat.reduceAdd, Nat.reduceSub, Nat.reduceMul, Nat.reduceLeDiff, Nat.reduceLT, Nat.reduceEqDiff, reduceCtorEq, reduceIte, reduceDIte, if_pos rfl, Int.reduceLT, Int.reduceLE, Int.reduceEq, Int.reduceNeg, Int.reduceAdd, Int.reduceSub, Int.reduceMul, Int.reduceToNat, undef, body31, body32, body33]
    refine .of (small_call _ _) ?_
    simp only [go_sem, Nat.reducePow, Nat.reduceDiv, Nat.reduceMod, Nat.reduceAdd, Nat.reduceSub, Nat.reduceMul, Nat.reduceLeDiff, Nat.reduceLT, Nat.reduceEqDiff, reduceCtorEq, reduceIte, reduceDIte, if_pos rfl, Int.reduceLT, Int.reduceLE, Int.reduceEq, Int.reduceNeg, Int.reduceAdd, Int.reduceSub, Int.reduceMul, Int.reduceToNat, undef, h.1, h.2, hol, c1, body31, body32, body33]
    refine .of (known33_call _) ?_
    simp only [go_sem, Nat.reducePow, Nat.reduceDiv, Nat.reduceMod, Nat.reduceAdd, Nat.reduceSub, Nat.reduceMul, Nat.reduceLeDiff, Nat.reduceLT, Nat.reduceEqDiff, reduceCtorEq, reduceIte, reduceDIte, if_pos rfl, Int.reduceLT, Int.reduceLE, Int.reduceEq, Int.reduceNeg, Int.reduceAdd, Int.reduceSub, Int.reduceMul, Int.reduceToNat, undef, body31, body32, body33]
    exact ⟨rfl, hB⟩
  by_cases c2 : ahead < 0
  · simp only [go_sem, Nat.reducePow, Nat.reduceDiv, Nat.reduceMod, Nat.reduceAdd, Nat.reduceSub, Nat.reduceMul, Nat.reduceLeDiff, Nat.reduceLT, Nat.reduceEqDiff, reduceCtorEq, reduceIte, reduceDIte, if_pos rfl, Int.reduceLT, Int.reduceLE, Int.reduceEq, Int.reduceNeg, Int.reduceAdd, Int.reduceSub, Int.reduceMul, Int.reduceToNat, undef, Try.f9, body31, body32, body33]
    refine callX.hidE (pnew_call (by omega) (by omega) (by omega) (by omega)) ?_
    intro e σ1 lg1 hlg1 hA
    obtain ⟨B, rfl, hB, _⟩ := hA
    refine ⟨?_⟩
    simp only [go_sem, Nat.reducePow, Nat.reduceDiv, Nat.reduceMod, Nat.reduceAdd, Nat.reduceSub, Nat.reduceMul, Nat.reduceLeDiff, Nat.reduceLT, Nat.reduceEqDiff, reduceCtorEq, reduceIte, reduceDIte, if_pos rfl, Int.reduceLT, Int.reduceLE, Int.reduceEq, Int.reduceNeg, Int.reduceAdd, Int.reduceSub, Int.reduceMul, Int.reduceToNat, undef, body31, body32, body33]
    refine .of (small_call _ _) ?_
    simp only [go_sem, Nat.reducePow, Nat.reduceDiv, Nat.reduceMod, Nat.reduceAdd, Nat.reduceSub, Nat.reduceMul, Nat.reduceLeDiff, Nat.reduceLT, Nat.reduceEqDiff, reduceCtorEq, reduceIte, reduceDIte, if_pos rfl, Int.reduceLT, Int.reduceLE, Int.reduceEq, Int.reduceNeg, Int.reduceAdd, Int.reduceSub, Int.reduceMul, Int.reduceToNat, undef, h.1, h.2, hol, c1, c2, body31, body32, body33]
    refine .of (known33_call _) ?_
    simp only [go_sem, Nat.reducePow, Nat.reduceDiv, Nat.reduceMod, Nat.reduceAdd, Nat.reduceSub, Nat.reduceMul, Nat.reduceLeDiff, Nat.reduceLT, Nat.reduceEqDiff, reduceCtorEq, reduceIte, reduceDIte, if_pos rfl, Int.reduceLT, Int.reduceLE, Int.reduceEq, Int.reduceNeg, Int.reduceAdd, Int.reduceSub, Int.reduceMul, Int.reduceToNat, undef, body31, body32, body33]
    exact ⟨rfl, hB⟩
  · have c3 : 5 < ahead := by omega
    simp only [go_sem, Nat.reducePow, Nat.reduceDiv, Nat.reduceMod, Nat.reduceAdd, Nat.reduceSub, Nat.reduceMul, Nat.reduceLeDiff, Nat.reduceLT, Nat.reduceEqDiff, reduceCtorEq, reduceIte, reduceDIte, if_pos rfl, Int.reduceLT, Int.reduceLE, Int.reduceEq, Int.reduceNeg, Int.reduceAdd, Int.reduceSub, Int.reduceMul, Int.reduceToNat, undef, Try.f9, body31, body32, body33]
    refine callX.hidE (pnew_call (by omega) (by omega) (by omega) (by omega)) ?_
    intro e σ1 lg1 hlg1 hA
    obtain ⟨B, rfl, hB, _⟩ := hA
    refine ⟨?_⟩
    simp only [go_sem, Nat.reducePow, Nat.reduceDiv, Nat.reduceMod, Nat.reduceAdd, Nat.reduceSub, Nat.reduceMul, Nat.reduceLeDiff, Nat.reduceLT, Nat.reduceEqDiff, reduceCtorEq, reduceIte, reduceDIte, if_pos rfl, Int.reduceLT, Int.reduceLE, Int.reduceEq, Int.reduceNeg, Int.reduceAdd, Int.reduceSub, Int.reduceMul, Int.reduceToNat, undef, body31, body32, body33]
    refine .of (small_call _ _) ?_
    simp only [go_sem, Nat.reducePow, Nat.reduceDiv, Nat.reduceMod, Nat.reduceAdd, Nat.reduceSub, Nat.reduceMul, Nat.reduceLeDiff, Nat.reduceLT, Nat.reduceEqDiff, reduceCtorEq, reduceIte, reduceDIte, if_pos rfl, Int.reduceLT, Int.reduceLE, Int.reduceEq, Int.reduceNeg, Int.reduceAdd, Int.reduceSub, Int.reduceMul, Int.reduceToNat, undef, h.1, h.2, hol, c1, c2, c3, body31, body32, body33]
    refine .of (known33_call _) ?_
    simp only [go_sem, Nat.reducePow, Nat.reduceDiv, Nat.reduceMod, Nat.reduceAdd, Nat.reduceSub, Nat.reduceMul, Nat.reduceLeDiff, Nat.reduceLT, Nat.reduceEqDiff, reduceCtorEq, reduceIte, reduceDIte, if_pos rfl, Int.reduceLT, Int.reduceLE, Int.reduceEq, Int.reduceNeg, Int.reduceAdd, Int.reduceSub, Int.reduceMul, Int.reduceToNat, undef, body31, body32, body33]
    exact ⟨rfl, hB⟩

end Go.Ab

set_option linter.unusedSimpArgs false
set_option linter.unusedVariables false
namespace Go.Ab
open Go.Proofs

/-- The rest, from the ticks behind the promise on. -/
noncomputable def pfTail : Code := dropC 8 pfBody
noncomputable def pfMid : Code := dropC 6 pfBody

set_option maxHeartbeats 3200000 in
set_option maxRecDepth 20000 in
theorem pf_tail {σ : St} {ts : List Value} {B : PB} {S : PV} {lo xb : Nat} {rate : Int} {isOn : Bool} {xid : Int} {x1 x2 : Value} {qs : List OnV} {m : Nat} {K : RR → Prop} (hr : 1 ≤ rate ∧ rate ≤ 3000) (el : ts.length = 168) (e7 : lget ts 7 = .pointer (some ⟨B.p, 0, none⟩)) (e11 : lget ts 11 = .pointer (some ⟨xb, 0, none⟩)) (e13 : lget ts 13 = .bool isOn)
    (W : W9 σ B S lo rate) (xg : σ.get xb = some (.cells [.int .i64 xid, x1, x2] false)) (hxb : lo ≤ xb ∧ xb < σ.next) (hnx : ¬ PFoot B S.Q xb) (hm : m ≤ 2500) (hnow : 0 ≤ S.now ∧ S.now ≤ 10) (hP : Ph9 isOn xid S.on qs [] m) (hD : Drains qs S.Q) (hS : Sizes S.on qs S.V.L)
    (k : ∀ ts' σ' lg, ts'.length = 168 → lget ts' 6 = .bool true → (∀ c ∈ lg, lo ≤ c) → K ⟨.ret, ⟨ts', []⟩, σ', lg⟩) : wp (cP Try.prog) q8 (btAll 9) false pfTail ⟨ts, []⟩ σ K := by
  have hlo := W.lo
  have nx1 : ¬ σ.next = xb := by omega
  simp only [go_sem, Nat.reducePow, Nat.reduceDiv, Nat.reduceMod, Nat.reduceAdd, Nat.reduceSub, Nat.reduceMul, Nat.reduceLeDiff, Nat.reduceLT, Nat.reduceEqDiff, reduceCtorEq, reduceIte, reduceDIte, if_pos rfl, Int.reduceLT, Int.reduceLE, Int.reduceEq, Int.reduceNeg, Int.reduceAdd, Int.reduceSub, Int.reduceMul, Int.reduceToNat, opLen, undef, zerosN, pfTail, pfBody, dropC, Try.f9, Option.getD, e7, e11, e13, el, body33, body36]
  have H0 : O9 (σ.new (.cells [] false)) B S lo rate xb σ.next [.int .i64 xid, x1, x2] := ⟨⟨W.at'.keep (by simp only [go_sem, Nat.reducePow, Nat.reduceDiv, Nat.reduceMod, Nat.reduceAdd, Nat.reduceSub, Nat.reduceMul, Nat.reduceLeDiff, Nat.reduceLT, Nat.reduceEqDiff, reduceCtorEq, reduceIte, reduceDIte, if_pos rfl, Int.reduceLT, Int.reduceLE, Int.reduceEq, Int.reduceNeg, Int.reduceAdd, Int.reduceSub, Int.reduceMul, Int.reduceToNat, opLen]) fun c hc => by have := W.at'.in_lt hc; simp only [go_sem, Nat.reducePow, Nat.reduceDiv, Nat.reduceMod, Nat.reduceAdd, Nat.reduceSub, Nat.reduceMul, Nat.reduceLeDiff, Nat.reduceLT, Nat.reduceEqDiff, reduceCtorEq, reduceIte, reduceDIte, if_pos rfl, Int.reduceLT, Int.reduceLE, Int.reduceEq, Int.reduceNeg, Int.reduceAdd, Int.reduceSub, Int.reduceMul, Int.reduceToNat, opLen, this], W.foot, by simp only [go_sem, Nat.reducePow, Nat.reduceDiv, Nat.reduceMod, Nat.reduceAdd, Nat.reduceSub, Nat.reduceMul, Nat.reduceLeDiff, Nat.reduceLT, Nat.reduceEqDiff, reduceCtorEq, reduceIte, reduceDIte, if_pos rfl, Int.reduceLT, Int.reduceLE, Int.reduceEq, Int.reduceNeg, Int.reduceAdd, Int.reduceSub, Int.reduceMul, Int.reduceToNat, opLen] <;> omega, W.rate, W.most, W.room⟩, by simp only [go_sem, Nat.reducePow, Nat.reduceDiv, Nat.reduceMod, Nat.reduceAdd, Nat.reduceSub, Nat.reduceMul, Nat.reduceLeDiff, Nat.reduceLT, Nat.reduceEqDiff, reduceCtorEq, reduceIte, reduceDIte, if_pos rfl, Int.reduceLT, Int.reduceLE, Int.reduceEq, Int.reduceNeg, Int.reduceAdd, Int.reduceSub, Int.reduceMul, Int.reduceToNat, opLen, nx1]; exact xg, by simp only [go_sem, Nat.reducePow, Nat.reduceDiv, Nat.reduceMod, Nat.reduceAdd, Nat.reduceSub, Nat.reduceMul, Nat.reduceLeDiff, Nat.reduceLT, Nat.reduceEqDiff, reduceCtorEq, reduceIte, reduceDIte, if_pos rfl, Int.reduceLT, Int.reduceLE, Int.reduceEq, Int.reduceNeg, Int.reduceAdd, Int.reduceSub, Int.reduceMul, Int.reduceToNat, opLen] <;> omega, ⟨hxb.1, hlo⟩, by omega, hnx, fun h => by have := W.at'.in_lt h; omega⟩
  refine loop_then (pf_out (lo := lo) (xb := xb) (rate := rate) (isOn := isOn) (xid := xid) (xc := [.int .i64 xid, x1, x2]) hr m _ _ ⟨_, .slice (some ⟨σ.next, 0, some 0⟩) 0 0, B, S, σ.next, [], 0, rfl, ⟨by simp only [List.length_set, el], by simp only [go_sem, Nat.reducePow, Nat.reduceDiv, Nat.reduceMod, Nat.reduceAdd, Nat.reduceSub, Nat.reduceMul, Nat.reduceLeDiff, Nat.reduceLT, Nat.reduceEqDiff, reduceCtorEq, reduceIte, reduceDIte, if_pos rfl, Int.reduceLT, Int.reduceLE, Int.reduceEq, Int.reduceNeg, Int.reduceAdd, Int.reduceSub, Int.reduceMul, Int.reduceToNat, opLen, el, e7], by simp only [go_sem, Nat.reducePow, Nat.reduceDiv, Nat.reduceMod, Nat.reduceAdd, Nat.reduceSub, Nat.reduceMul, Nat.reduceLeDiff, Nat.reduceLT, Nat.reduceEqDiff, reduceCtorEq, reduceIte, reduceDIte, if_pos rfl, Int.reduceLT, Int.reduceLE, Int.reduceEq, Int.reduceNeg, Int.reduceAdd, Int.reduceSub, Int.reduceMul, Int.reduceToNat, opLen, el, e11], by simp only [go_sem, Nat.reducePow, Nat.reduceDiv, Nat.reduceMod, Nat.reduceAdd, Nat.reduceSub, Nat.reduceMul, Nat.reduceLeDiff, Nat.reduceLT, Nat.reduceEqDiff, reduceCtorEq, reduceIte, reduceDIte, if_pos rfl, Int.reduceLT, Int.reduceLE, Int.reduceEq, Int.reduceNeg, Int.reduceAdd, Int.reduceSub, Int.reduceMul, Int.reduceToNat, opLen, el, e13], by simp only [go_sem, Nat.reducePow, Nat.reduceDiv, Nat.reduceMod, Nat.reduceAdd, Nat.reduceSub, Nat.reduceMul, Nat.reduceLeDiff, Nat.reduceLT, Nat.reduceEqDiff, reduceCtorEq, reduceIte, reduceDIte, if_pos rfl, Int.reduceLT, Int.reduceLE, Int.reduceEq, Int.reduceNeg, Int.reduceAdd, Int.reduceSub, Int.reduceMul, Int.reduceToNat, opLen, el], by simp only [go_sem, Nat.reducePow, Nat.reduceDiv, Nat.reduceMod, Nat.reduceAdd, Nat.reduceSub, Nat.reduceMul, Nat.reduceLeDiff, Nat.reduceLT, Nat.reduceEqDiff, reduceCtorEq, reduceIte, reduceDIte, if_pos rfl, Int.reduceLT, Int.reduceLE, Int.reduceEq, Int.reduceNeg, Int.reduceAdd, Int.reduceSub, Int.reduceMul, Int.reduceToNat, opLen, el]⟩, H0, ⟨by simp only [go_sem, Nat.reducePow, Nat.reduceDiv, Nat.reduceMod, Nat.reduceAdd, Nat.reduceSub, Nat.reduceMul, Nat.reduceLeDiff, Nat.reduceLT, Nat.reduceEqDiff, reduceCtorEq, reduceIte, reduceDIte, if_pos rfl, Int.reduceLT, Int.reduceLE, Int.reduceEq, Int.reduceNeg, Int.reduceAdd, Int.reduceSub, Int.reduceMul, Int.reduceToNat, opLen, ints, List.map_nil], rfl⟩, by omega, by omega, .inr ⟨qs, hP, hD, hS⟩⟩) ?_
  intro x fr' σ' lg hlg hB h
  obtain ⟨rfl, ts', v, ao, rfl, el', f11, f13, f16, N, xg', hx1, ha1⟩ := h
  have ga := N.get
  have hv := N.val
  subst hv
  have q1 : ((100 : Int) == 100) = true := by decide
  have q2 : ((1 : Int) == 1) = true := by decide
  have q3 : ((2 : Int) == 2) = true := by decide
  have q4 : (xid == xid) = true := by simp
  cases isOn with
  | false =>
    simp only [Bool.false_eq_true, if_false, List.nil_append, reduceCtorEq, List.length_cons, List.length_nil, Nat.zero_add] at f16
    simp only [Bool.false_eq_true, if_false, List.nil_append, ints, List.map_cons, List.map_nil] at ga
    simp only [go_sem, Nat.reducePow, Nat.reduceDiv, Nat.reduceMod, Nat.reduceAdd, Nat.reduceSub, Nat.reduceMul, Nat.reduceLeDiff, Nat.reduceLT, Nat.reduceEqDiff, reduceCtorEq, reduceIte, reduceDIte, if_pos rfl, Int.reduceLT, Int.reduceLE, Int.reduceEq, Int.reduceNeg, Int.reduceAdd, Int.reduceSub, Int.reduceMul, Int.reduceToNat, opLen, undef, f11, f13, f16, el', ga, ha1, q1, q2, body33]
    refine .of (known33_call _) ?_
    simp only [go_sem, Nat.reducePow, Nat.reduceDiv, Nat.reduceMod, Nat.reduceAdd, Nat.reduceSub, Nat.reduceMul, Nat.reduceLeDiff, Nat.reduceLT, Nat.reduceEqDiff, reduceCtorEq, reduceIte, reduceDIte, if_pos rfl, Int.reduceLT, Int.reduceLE, Int.reduceEq, Int.reduceNeg, Int.reduceAdd, Int.reduceSub, Int.reduceMul, Int.reduceToNat, opLen, undef, f11, f13, f16, el', ga, ha1, q1, q2, body33]
    refine k _ _ _ (by simp only [List.length_set, el']) (by simp only [go_sem, Nat.reducePow, Nat.reduceDiv, Nat.reduceMod, Nat.reduceAdd, Nat.reduceSub, Nat.reduceMul, Nat.reduceLeDiff, Nat.reduceLT, Nat.reduceEqDiff, reduceCtorEq, reduceIte, reduceDIte, if_pos rfl, Int.reduceLT, Int.reduceLE, Int.reduceEq, Int.reduceNeg, Int.reduceAdd, Int.reduceSub, Int.reduceMul, Int.reduceToNat, opLen, el']) fun c hc => hB c hc
  | true =>
    simp only [if_true, List.cons_append, List.nil_append, reduceCtorEq, if_false, List.length_cons, List.length_nil, Nat.zero_add, Nat.reduceAdd] at f16
    simp only [if_true, List.cons_append, List.nil_append, ints, List.map_cons, List.map_nil] at ga
    simp only [go_sem, Nat.reducePow, Nat.reduceDiv, Nat.reduceMod, Nat.reduceAdd, Nat.reduceSub, Nat.reduceMul, Nat.reduceLeDiff, Nat.reduceLT, Nat.reduceEqDiff, reduceCtorEq, reduceIte, reduceDIte, if_pos rfl, Int.reduceLT, Int.reduceLE, Int.reduceEq, Int.reduceNeg, Int.reduceAdd, Int.reduceSub, Int.reduceMul, Int.reduceToNat, opLen, undef, f11, f13, f16, el', ga, ha1, xg', hx1, q1, q2, q3, q4, body33]
    refine .of (known33_call _) ?_
    simp only [go_sem, Nat.reducePow, Nat.reduceDiv, Nat.reduceMod, Nat.reduceAdd, Nat.reduceSub, Nat.reduceMul, Nat.reduceLeDiff, Nat.reduceLT, Nat.reduceEqDiff, reduceCtorEq, reduceIte, reduceDIte, if_pos rfl, Int.reduceLT, Int.reduceLE, Int.reduceEq, Int.reduceNeg, Int.reduceAdd, Int.reduceSub, Int.reduceMul, Int.reduceToNat, opLen, undef, f11, f13, f16, el', ga, ha1, xg', hx1, q1, q2, q3, q4, body33]
    exact k _ _ _ (by simp only [List.length_set, el']) (by simp only [go_sem, Nat.reducePow, Nat.reduceDiv, Nat.reduceMod, Nat.reduceAdd, Nat.reduceSub, Nat.reduceMul, Nat.reduceLeDiff, Nat.reduceLT, Nat.reduceEqDiff, reduceCtorEq, reduceIte, reduceDIte, if_pos rfl, Int.reduceLT, Int.reduceLE, Int.reduceEq, Int.reduceNeg, Int.reduceAdd, Int.reduceSub, Int.reduceMul, Int.reduceToNat, opLen, el']) fun c hc => hB c hc

attribute [irreducible] pfTail

noncomputable def pfProm : Code := dropC 7 pfBody
theorem pfProm_is : pfProm = (nthC 0 pfProm).seq pfTail := by
  unfold pfTail
  rfl

/-- The queue behind the promise. -/
def Q2 (blk : Nat) (n d : Int) : QV := { Q1 blk with F := updF (Q1 blk).F 1 (some ⟨blk, 1, 1000000, 50, n, d⟩), P := updF (Q1 blk).P 100 (some (1, 50)), np := 1, L := [⟨100, n, d, 1⟩], t := 1 }

theorem q2_drains (blk : Nat) (n d : Int) : Drains [qOn ⟨100, n, d, 1⟩ 1 50] (Q2 blk n d) := by
  refine ⟨⟨100, n, d, 1⟩, 1, 50, ⟨blk, 1, 1000000, 50, n, d⟩, ⟨rfl, ?_, ?_, by omega, ?_⟩, rfl, ?_⟩
  · show updF (Q1 blk).P 100 (some (1, 50)) 100 = _
    exact updF_same _ _ _
  · show updF (Q1 blk).F 1 _ 1 = _
    exact updF_same _ _ _
  · show -100000000 ≤ (50 : Int) ∧ (50 : Int) ≤ 100000000
    omega
  · show outL [⟨100, n, d, 1⟩] 0 = []
    rfl

set_option maxHeartbeats 3200000 in
set_option maxRecDepth 20000 in
theorem pf_prom {σ : St} {ts : List Value} {a : Nat} {B : PB} {S : PV} {lo blk xb m : Nat} {rate xid : Int} {isOn : Bool} {x1 x2 : Value} {K : RR → Prop} (hr : 1 ≤ rate ∧ rate ≤ 3000) (ha : a ≤ 5) (el : ts.length = 168) (e7 : lget ts 7 = .pointer (some ⟨B.p, 0, none⟩)) (e11 : lget ts 11 = .pointer (some ⟨xb, 0, none⟩)) (e13 : lget ts 13 = .bool isOn)
    (W : W9 σ B S lo rate) (hnow : S.now = (a : Nat)) (hQ : S.Q = Q1 blk) (hS : Sizes S.on [] S.V.L) (xg : σ.get xb = some (.cells [.int .i64 xid, x1, x2] false)) (hxb : lo ≤ xb ∧ xb < σ.next) (hnx : ¬ PFoot B S.Q xb) (hm : m ≤ 2500) (hP : ∀ c, is100 c → Ph9 isOn xid S.on [c] [] m)
    (k : ∀ ts' σ' lg, ts'.length = 168 → lget ts' 6 = .bool true → (∀ c ∈ lg, lo ≤ c) → K ⟨.ret, ⟨ts', []⟩, σ', lg⟩) : wp (cP Try.prog) q8 (btAll 9) false pfProm ⟨ts, []⟩ σ K := by
  have hlo := W.lo
  have hF : S.Q.F 1 = some ⟨blk, 1, 1000000, 0, 0, 1⟩ := by rw [hQ]; rfl
  have kf : ∀ c, PFoot B S.Q c → c < σ.next := fun c hc => W.at'.in_lt hc
  rw [pfProm_is]
  simp only [go_sem, Nat.reducePow, Nat.reduceDiv, Nat.reduceMod, Nat.reduceAdd, Nat.reduceSub, Nat.reduceMul, Nat.reduceLeDiff, Nat.reduceLT, Nat.reduceEqDiff, reduceCtorEq, reduceIte, reduceDIte, if_pos rfl, Int.reduceLT, Int.reduceLE, Int.reduceEq, Int.reduceNeg, Int.reduceAdd, Int.reduceSub, Int.reduceMul, Int.reduceToNat, opLen, undef, pfProm, pfBody, dropC, nthC, Try.f9, Option.getD, e7, e11, e13, el, body37, body38]
  refine callX.hid (pprom_call W.at' 100 1 50 a 0 1 hnow (by rw [W.most]; decide) hF (by rw [hQ]; rfl) (by omega) (by omega) (by omega) (by omega) rfl (by rw [f01.1]; rfl) (by rw [f01.2]; rfl) (by omega) (by omega) (by show -100000000 ≤ (0 : Int) ∧ (0 : Int) ≤ 100000000; omega) (by show 0 ≤ (1000000 : Int) ∧ (1000000 : Int) ≤ 1000000000; omega) (by show (0 : Int) + ((50 : Nat) : Int) ≤ 1000000; omega) (by rw [hQ]; show 0 < 50000; omega) (by rw [hQ]; intro y hy; cases hy) (by rw [hQ]; show 0 < 1000; omega) (by rw [hQ]; show 0 ≤ (0 : Int) ∧ (0 : Int) < 1000000; omega)) ?_
  intro σ1 lg1 hlg1 hA
  obtain ⟨hB, A', hA', P1⟩ := hA
  have nx := hlg1.1
  obtain ⟨n, d, hn⟩ : ∃ n d : Int, n = ((fN (max (a * 1) 0 + 50) 1 : Nat) : Int) ∧ d = ((fD (max (a * 1) 0 + 50) 1 : Nat) : Int) := ⟨_, _, rfl, rfl⟩
  rw [← hn.1, ← hn.2] at P1
  have hQ2 : ({ S.Q with F := updF S.Q.F 1 (some { (⟨blk, 1, 1000000, 0, 0, 1⟩ : FlowV) with bytes := (0 : Int) + ((50 : Nat) : Int), n := n, d := d }), P := updF S.Q.P 100 (some (1, ((50 : Nat) : Int))), np := S.Q.np + 1, L := riseL (S.Q.L.length + 1) (S.Q.L ++ [⟨100, n, d, S.Q.t + 1⟩]) S.Q.L.length, t := S.Q.t + 1 } : QV) = Q2 blk n d := by
    rw [hQ]; rfl
  rw [hQ2] at P1
  have hfo : ∀ c, PFoot { B with b := { B.b with A := A' } } (Q2 blk n d) c → PFoot B S.Q c ∨ σ.next ≤ c := fun c hc => by
    rcases hc with h | h | h | h | h
    · exact .inl (.inl h)
    · exact .inl (.inr (.inl h))
    · exact .inl (.inr (.inr (.inl h)))
    · exact .inl (.inr (.inr (.inr (.inl h))))
    · rcases h with h | ⟨k, z, hz, rfl⟩
      · simp only [QB.core, List.mem_cons] at h
        rcases h with h | h | h | h | h | h
        · exact .inl (.inr (.inr (.inr (.inr (.inl (by simp [QB.core, h]))))))
        · exact .inl (.inr (.inr (.inr (.inr (.inl (by simp [QB.core, h]))))))
        · exact .inl (.inr (.inr (.inr (.inr (.inl (by simp [QB.core, h]))))))
        · exact .inl (.inr (.inr (.inr (.inr (.inl (by simp [QB.core, h]))))))
        · exact .inl (.inr (.inr (.inr (.inr (.inl (by simp [QB.core, h]))))))
        · rcases hA' c h with h | h
          · exact .inl (.inr (.inr (.inr (.inr (.inl (by simp [QB.core, h]))))))
          · exact .inr h
      · by_cases hk : k = 1
        · subst hk
          have e : updF (Q1 blk).F 1 (some ⟨blk, 1, 1000000, 50, n, d⟩) 1 = some z := hz
          rw [updF_same] at e
          cases e
          exact .inl (.inr (.inr (.inr (.inr (.inr ⟨1, _, hF, rfl⟩)))))
        · have e : updF (Q1 blk).F 1 (some ⟨blk, 1, 1000000, 50, n, d⟩) k = some z := hz
          rw [updF_other _ _ hk] at e
          have e : updF Q0.F 1 _ k = some z := e
          rw [updF_other _ _ hk] at e
          cases e
  have xg1 : σ1.get xb = some (.cells [.int .i64 xid, x1, x2] false) := (hlg1.2 xb hxb.2 fun hm => by
    rcases hB xb hm with h | h
    · exact hnx h
    · omega).trans xg
  have hz : ∀ z ∈ lg1, lo ≤ z := fun z hz => by
    rcases hB z hz with h | h
    · exact W.foot z h
    · omega
  have W1 : W9 σ1 { B with b := { B.b with A := A' } } { S with Q := Q2 blk n d } lo rate := ⟨P1, fun c hc => by
    rcases hfo c hc with h | h
    · exact W.foot c h
    · omega, by omega, W.rate, W.most, W.room⟩
  have hnx1 : ¬ PFoot { B with b := { B.b with A := A' } } (Q2 blk n d) xb := fun h => by
    rcases hfo xb h with h | h
    · exact hnx h
    · omega
  rw [← hn.1, ← hn.2]
  refine ⟨?_⟩
  simp only [go_sem, Nat.reducePow, Nat.reduceDiv, Nat.reduceMod, Nat.reduceAdd, Nat.reduceSub, Nat.reduceMul, Nat.reduceLeDiff, Nat.reduceLT, Nat.reduceEqDiff, reduceCtorEq, reduceIte, reduceDIte, if_pos rfl, Int.reduceLT, Int.reduceLE, Int.reduceEq, Int.reduceNeg, Int.reduceAdd, Int.reduceSub, Int.reduceMul, Int.reduceToNat, opLen, undef, e7, e11, e13, el, body37, body38]
  have kc : ∀ c, c < σ1.next → ∀ o o', ((σ1.new o).set σ1.next o').get c = σ1.get c := fun c hc o o' => by
    rw [St.get_set, if_neg (by omega), St.get_new, if_neg (by omega)]
  have W2 : ∀ o o', W9 ((σ1.new o).set σ1.next o') { B with b := { B.b with A := A' } } { S with Q := Q2 blk n d } lo rate := fun o o' => ⟨W1.at'.keep (by simp only [go_sem, Nat.reducePow, Nat.reduceDiv, Nat.reduceMod, Nat.reduceAdd, Nat.reduceSub, Nat.reduceMul, Nat.reduceLeDiff, Nat.reduceLT, Nat.reduceEqDiff, reduceCtorEq, reduceIte, reduceDIte, if_pos rfl, Int.reduceLT, Int.reduceLE, Int.reduceEq, Int.reduceNeg, Int.reduceAdd, Int.reduceSub, Int.reduceMul, Int.reduceToNat, opLen, St.next_put] <;> omega) fun c hc => kc c (W1.at'.in_lt hc) o o', W1.foot, by have := W1.lo; simp only [go_sem, Nat.reducePow, Nat.reduceDiv, Nat.reduceMod, Nat.reduceAdd, Nat.reduceSub, Nat.reduceMul, Nat.reduceLeDiff, Nat.reduceLT, Nat.reduceEqDiff, reduceCtorEq, reduceIte, reduceDIte, if_pos rfl, Int.reduceLT, Int.reduceLE, Int.reduceEq, Int.reduceNeg, Int.reduceAdd, Int.reduceSub, Int.reduceMul, Int.reduceToNat, opLen] <;> omega, W1.rate, W1.most, W1.room⟩
  have hc : is100 (qOn ⟨100, n, d, 1⟩ 1 50) := ⟨rfl, by show 1 ≤ (50 : Int) ∧ (50 : Int) ≤ 50; omega⟩
  refine pf_tail hr (by simp only [List.length_set, el]) (by simp only [go_sem, Nat.reducePow, Nat.reduceDiv, Nat.reduceMod, Nat.reduceAdd, Nat.reduceSub, Nat.reduceMul, Nat.reduceLeDiff, Nat.reduceLT, Nat.reduceEqDiff, reduceCtorEq, reduceIte, reduceDIte, if_pos rfl, Int.reduceLT, Int.reduceLE, Int.reduceEq, Int.reduceNeg, Int.reduceAdd, Int.reduceSub, Int.reduceMul, Int.reduceToNat, opLen, el, e7]) (by simp only [go_sem, Nat.reducePow, Nat.reduceDiv, Nat.reduceMod, Nat.reduceAdd, Nat.reduceSub, Nat.reduceMul, Nat.reduceLeDiff, Nat.reduceLT, Nat.reduceEqDiff, reduceCtorEq, reduceIte, reduceDIte, if_pos rfl, Int.reduceLT, Int.reduceLE, Int.reduceEq, Int.reduceNeg, Int.reduceAdd, Int.reduceSub, Int.reduceMul, Int.reduceToNat, opLen, el, e11]) (by simp only [go_sem, Nat.reducePow, Nat.reduceDiv, Nat.reduceMod, Nat.reduceAdd, Nat.reduceSub, Nat.reduceMul, Nat.reduceLeDiff, Nat.reduceLT, Nat.reduceEqDiff, reduceCtorEq, reduceIte, reduceDIte, if_pos rfl, Int.reduceLT, Int.reduceLE, Int.reduceEq, Int.reduceNeg, Int.reduceAdd, Int.reduceSub, Int.reduceMul, Int.reduceToNat, opLen, el, e13]) (W2 _ _) ((kc xb (by omega) _ _).trans xg1) ⟨hxb.1, by simp only [go_sem, Nat.reducePow, Nat.reduceDiv, Nat.reduceMod, Nat.reduceAdd, Nat.reduceSub, Nat.reduceMul, Nat.reduceLeDiff, Nat.reduceLT, Nat.reduceEqDiff, reduceCtorEq, reduceIte, reduceDIte, if_pos rfl, Int.reduceLT, Int.reduceLE, Int.reduceEq, Int.reduceNeg, Int.reduceAdd, Int.reduceSub, Int.reduceMul, Int.reduceToNat, opLen] <;> omega⟩ hnx1 hm (by show 0 ≤ S.now ∧ S.now ≤ 10; rw [hnow]; omega) (hP _ hc) (q2_drains blk n d) ⟨hS.on, fun x hx => by simp at hx; subst hx; show 1 ≤ (50 : Int) ∧ (50 : Int) ≤ 2000; omega, hS.L⟩ ?_
  intro ts' σ' lg h1 h2 h3
  simp only [go_sem, Nat.reducePow, Nat.reduceDiv, Nat.reduceMod, Nat.reduceAdd, Nat.reduceSub, Nat.reduceMul, Nat.reduceLeDiff, Nat.reduceLT, Nat.reduceEqDiff, reduceCtorEq, reduceIte, reduceDIte, if_pos rfl, Int.reduceLT, Int.reduceLE, Int.reduceEq, Int.reduceNeg, Int.reduceAdd, Int.reduceSub, Int.reduceMul, Int.reduceToNat, opLen]
  refine k _ _ _ h1 h2 fun c hc => ?_
  simp only [List.mem_append, List.mem_cons, List.not_mem_nil, or_false] at hc
  rcases hc with (hc | hc) | hc
  · exact hz c hc
  · omega
  · exact h3 c hc

attribute [irreducible] pfProm

theorem pfMid_is : pfMid = (nthC 0 pfMid).seq pfProm := by
  unfold pfProm
  rfl

set_option maxHeartbeats 3200000 in
set_option maxRecDepth 20000 in
theorem pf_mid {σ : St} {ts : List Value} {sa : Option Addr} {len cap a : Nat} {B : PB} {S : PV} {lo blk : Nat} {rate : Int} {K : RR → Prop} (hr : 1 ≤ rate ∧ rate ≤ 3000) (ha : a ≤ 5) (F : G9 ts sa len cap (a : Nat) B.p) (W : W9 σ B S lo rate) (hnow : S.now = (a : Nat)) (hQ : S.Q = Q1 blk) (hS : Sizes S.on [] S.V.L) (hno : NoC S.on S.V.L)
    (k : ∀ ts' σ' lg, ts'.length = 168 → lget ts' 6 = .bool true → (∀ c ∈ lg, lo ≤ c) → K ⟨.ret, ⟨ts', []⟩, σ', lg⟩) : wp (cP Try.prog) q8 (btAll 9) false pfMid ⟨ts, []⟩ σ K := by
  have e7 := F.t7
  have el := F.size
  have hlo := W.lo
  have kc : ∀ c, c < σ.next → ∀ o o', ((σ.new o).set σ.next o').get c = σ.get c := fun c hc o o' => by
    rw [St.get_set, if_neg (by omega), St.get_new, if_neg (by omega)]
  have W2 : ∀ o o', W9 ((σ.new o).set σ.next o') B S lo rate := fun o o' => ⟨W.at'.keep (by simp only [go_sem, Nat.reducePow, Nat.reduceDiv, Nat.reduceMod, Nat.reduceAdd, Nat.reduceSub, Nat.reduceMul, Nat.reduceLeDiff, Nat.reduceLT, Nat.reduceEqDiff, reduceCtorEq, reduceIte, reduceDIte, if_pos rfl, Int.reduceLT, Int.reduceLE, Int.reduceEq, Int.reduceNeg, Int.reduceAdd, Int.reduceSub, Int.reduceMul, Int.reduceToNat, opLen, St.next_put] <;> omega) fun c hc => kc c (W.at'.in_lt hc) o o', W.foot, by have := W.lo; simp only [go_sem, Nat.reducePow, Nat.reduceDiv, Nat.reduceMod, Nat.reduceAdd, Nat.reduceSub, Nat.reduceMul, Nat.reduceLeDiff, Nat.reduceLT, Nat.reduceEqDiff, reduceCtorEq, reduceIte, reduceDIte, if_pos rfl, Int.reduceLT, Int.reduceLE, Int.reduceEq, Int.reduceNeg, Int.reduceAdd, Int.reduceSub, Int.reduceMul, Int.reduceToNat, opLen] <;> omega, W.rate, W.most, W.room⟩
  have hnx : ¬ PFoot B S.Q σ.next := fun h => by have := W.at'.in_lt h; omega
  rw [pfMid_is]
  cases hon : S.on with
  | none =>
    simp only [go_sem, Nat.reducePow, Nat.reduceDiv, Nat.reduceMod, Nat.reduceAdd, Nat.reduceSub, Nat.reduceMul, Nat.reduceLeDiff, Nat.reduceLT, Nat.reduceEqDiff, reduceCtorEq, reduceIte, reduceDIte, if_pos rfl, Int.reduceLT, Int.reduceLE, Int.reduceEq, Int.reduceNeg, Int.reduceAdd, Int.reduceSub, Int.reduceMul, Int.reduceToNat, opLen, undef, pfMid, pfBody, dropC, nthC, Try.f9, Option.getD, e7, el, body37, body38]
    refine .of (under_none W.at' hon) ?_
    simp only [go_sem, Nat.reducePow, Nat.reduceDiv, Nat.reduceMod, Nat.reduceAdd, Nat.reduceSub, Nat.reduceMul, Nat.reduceLeDiff, Nat.reduceLT, Nat.reduceEqDiff, reduceCtorEq, reduceIte, reduceDIte, if_pos rfl, Int.reduceLT, Int.reduceLE, Int.reduceEq, Int.reduceNeg, Int.reduceAdd, Int.reduceSub, Int.reduceMul, Int.reduceToNat, opLen, undef, Pk.val, Pk.zero, Pk.cells, e7, el, body37, body38]
    refine pf_prom (isOn := false) (xid := 0) (x1 := .int .i64 0) (x2 := .int .i64 0) (m := 55) hr ha (by simp only [List.length_set, el]) (by simp only [go_sem, Nat.reducePow, Nat.reduceDiv, Nat.reduceMod, Nat.reduceAdd, Nat.reduceSub, Nat.reduceMul, Nat.reduceLeDiff, Nat.reduceLT, Nat.reduceEqDiff, reduceCtorEq, reduceIte, reduceDIte, if_pos rfl, Int.reduceLT, Int.reduceLE, Int.reduceEq, Int.reduceNeg, Int.reduceAdd, Int.reduceSub, Int.reduceMul, Int.reduceToNat, opLen, el, e7]) (by simp only [go_sem, Nat.reducePow, Nat.reduceDiv, Nat.reduceMod, Nat.reduceAdd, Nat.reduceSub, Nat.reduceMul, Nat.reduceLeDiff, Nat.reduceLT, Nat.reduceEqDiff, reduceCtorEq, reduceIte, reduceDIte, if_pos rfl, Int.reduceLT, Int.reduceLE, Int.reduceEq, Int.reduceNeg, Int.reduceAdd, Int.reduceSub, Int.reduceMul, Int.reduceToNat, opLen, el]) (by simp only [go_sem, Nat.reducePow, Nat.reduceDiv, Nat.reduceMod, Nat.reduceAdd, Nat.reduceSub, Nat.reduceMul, Nat.reduceLeDiff, Nat.reduceLT, Nat.reduceEqDiff, reduceCtorEq, reduceIte, reduceDIte, if_pos rfl, Int.reduceLT, Int.reduceLE, Int.reduceEq, Int.reduceNeg, Int.reduceAdd, Int.reduceSub, Int.reduceMul, Int.reduceToNat, opLen, el]) (W2 _ _) hnow hQ hS (by simp only [go_sem, Nat.reducePow, Nat.reduceDiv, Nat.reduceMod, Nat.reduceAdd, Nat.reduceSub, Nat.reduceMul, Nat.reduceLeDiff, Nat.reduceLT, Nat.reduceEqDiff, reduceCtorEq, reduceIte, reduceDIte, if_pos rfl, Int.reduceLT, Int.reduceLE, Int.reduceEq, Int.reduceNeg, Int.reduceAdd, Int.reduceSub, Int.reduceMul, Int.reduceToNat, opLen]) ⟨hlo, by simp only [go_sem, Nat.reducePow, Nat.reduceDiv, Nat.reduceMod, Nat.reduceAdd, Nat.reduceSub, Nat.reduceMul, Nat.reduceLeDiff, Nat.reduceLT, Nat.reduceEqDiff, reduceCtorEq, reduceIte, reduceDIte, if_pos rfl, Int.reduceLT, Int.reduceLE, Int.reduceEq, Int.reduceNeg, Int.reduceAdd, Int.reduceSub, Int.reduceMul, Int.reduceToNat, opLen] <;> omega⟩ hnx (by omega) (fun c hc => by rw [hon]; exact .B (isOn := false) hc fun h => by cases h) ?_
    intro ts' σ' lg h1 h2 h3
    simp only [go_sem, Nat.reducePow, Nat.reduceDiv, Nat.reduceMod, Nat.reduceAdd, Nat.reduceSub, Nat.reduceMul, Nat.reduceLeDiff, Nat.reduceLT, Nat.reduceEqDiff, reduceCtorEq, reduceIte, reduceDIte, if_pos rfl, Int.reduceLT, Int.reduceLE, Int.reduceEq, Int.reduceNeg, Int.reduceAdd, Int.reduceSub, Int.reduceMul, Int.reduceToNat, opLen]
    refine k _ _ _ h1 h2 fun c hc => ?_
    rcases List.mem_cons.1 hc with hc | hc
    · omega
    · exact h3 c hc
  | some x =>
    have hx := hno.1 x hon
    have hs := hS.on x hon
    simp only [go_sem, Nat.reducePow, Nat.reduceDiv, Nat.reduceMod, Nat.reduceAdd, Nat.reduceSub, Nat.reduceMul, Nat.reduceLeDiff, Nat.reduceLT, Nat.reduceEqDiff, reduceCtorEq, reduceIte, reduceDIte, if_pos rfl, Int.reduceLT, Int.reduceLE, Int.reduceEq, Int.reduceNeg, Int.reduceAdd, Int.reduceSub, Int.reduceMul, Int.reduceToNat, opLen, undef, pfMid, pfBody, dropC, nthC, Try.f9, Option.getD, e7, el, body37, body38]
    refine .of (under_some W.at' hon) ?_
    simp only [go_sem, Nat.reducePow, Nat.reduceDiv, Nat.reduceMod, Nat.reduceAdd, Nat.reduceSub, Nat.reduceMul, Nat.reduceLeDiff, Nat.reduceLT, Nat.reduceEqDiff, reduceCtorEq, reduceIte, reduceDIte, if_pos rfl, Int.reduceLT, Int.reduceLE, Int.reduceEq, Int.reduceNeg, Int.reduceAdd, Int.reduceSub, Int.reduceMul, Int.reduceToNat, opLen, undef, Pk.val, Pk.cells, e7, el, body37, body38]
    refine pf_prom (isOn := true) (xid := x.pk.id) (x1 := .int .i64 x.pk.flow) (x2 := .int .i64 x.pk.size) (m := x.left.toNat + 60) hr ha (by simp only [List.length_set, el]) (by simp only [go_sem, Nat.reducePow, Nat.reduceDiv, Nat.reduceMod, Nat.reduceAdd, Nat.reduceSub, Nat.reduceMul, Nat.reduceLeDiff, Nat.reduceLT, Nat.reduceEqDiff, reduceCtorEq, reduceIte, reduceDIte, if_pos rfl, Int.reduceLT, Int.reduceLE, Int.reduceEq, Int.reduceNeg, Int.reduceAdd, Int.reduceSub, Int.reduceMul, Int.reduceToNat, opLen, el, e7]) (by simp only [go_sem, Nat.reducePow, Nat.reduceDiv, Nat.reduceMod, Nat.reduceAdd, Nat.reduceSub, Nat.reduceMul, Nat.reduceLeDiff, Nat.reduceLT, Nat.reduceEqDiff, reduceCtorEq, reduceIte, reduceDIte, if_pos rfl, Int.reduceLT, Int.reduceLE, Int.reduceEq, Int.reduceNeg, Int.reduceAdd, Int.reduceSub, Int.reduceMul, Int.reduceToNat, opLen, el]) (by simp only [go_sem, Nat.reducePow, Nat.reduceDiv, Nat.reduceMod, Nat.reduceAdd, Nat.reduceSub, Nat.reduceMul, Nat.reduceLeDiff, Nat.reduceLT, Nat.reduceEqDiff, reduceCtorEq, reduceIte, reduceDIte, if_pos rfl, Int.reduceLT, Int.reduceLE, Int.reduceEq, Int.reduceNeg, Int.reduceAdd, Int.reduceSub, Int.reduceMul, Int.reduceToNat, opLen, el]) (W2 _ _) hnow hQ hS (by simp only [go_sem, Nat.reducePow, Nat.reduceDiv, Nat.reduceMod, Nat.reduceAdd, Nat.reduceSub, Nat.reduceMul, Nat.reduceLeDiff, Nat.reduceLT, Nat.reduceEqDiff, reduceCtorEq, reduceIte, reduceDIte, if_pos rfl, Int.reduceLT, Int.reduceLE, Int.reduceEq, Int.reduceNeg, Int.reduceAdd, Int.reduceSub, Int.reduceMul, Int.reduceToNat, opLen]) ⟨hlo, by simp only [go_sem, Nat.reducePow, Nat.reduceDiv, Nat.reduceMod, Nat.reduceAdd, Nat.reduceSub, Nat.reduceMul, Nat.reduceLeDiff, Nat.reduceLT, Nat.reduceEqDiff, reduceCtorEq, reduceIte, reduceDIte, if_pos rfl, Int.reduceLT, Int.reduceLE, Int.reduceEq, Int.reduceNeg, Int.reduceAdd, Int.reduceSub, Int.reduceMul, Int.reduceToNat, opLen] <;> omega⟩ hnx (by omega) (fun c hc => by rw [hon]; exact .A rfl rfl hx hc hs.1) ?_
    intro ts' σ' lg h1 h2 h3
    simp only [go_sem, Nat.reducePow, Nat.reduceDiv, Nat.reduceMod, Nat.reduceAdd, Nat.reduceSub, Nat.reduceMul, Nat.reduceLeDiff, Nat.reduceLT, Nat.reduceEqDiff, reduceCtorEq, reduceIte, reduceDIte, if_pos rfl, Int.reduceLT, Int.reduceLE, Int.reduceEq, Int.reduceNeg, Int.reduceAdd, Int.reduceSub, Int.reduceMul, Int.reduceToNat, opLen]
    refine k _ _ _ h1 h2 fun c hc => ?_
    rcases List.mem_cons.1 hc with hc | hc
    · omega
    · exact h3 c hc

attribute [irreducible] pfMid

end Go.Ab
