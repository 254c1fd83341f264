/- rat, without its panics: Make, Greatest of two, Add. vclock: what a queue is in the abstract heap. rat: a sum of two fractions of words. vclock: New, Add. vclock: Put. vclock: Len, Take. The reference's Make: a number of digits, a fraction of two of them. known, of the layers 11, 14, 16: true. ClockBound: its loops. ClockBound: the outer loop. ClockBound: a packet that may be. ClockBound: the whole. The statement: ClockBound returns true, for every slice of packets; the argument reads behind the call as it read before. -/
import Derived.Test.YtlipmhhndhhgdaaJClockBoundSaid4
import Derived.Test.YtlipmhhndhhgdaaJClockBoundSaid3
import Derived.Test.YtlipmhhndhhgdaaJClockBoundSaid2
import Derived.Test.YtlipmhhndhhgdaaRows
import Derived.ChangeOld
import Derived.Carry
import Derived.Below

set_option linter.unusedSimpArgs false
set_option linter.unusedVariables false
namespace Go.Ab
open Go.Proofs

theorem make1_call {p q : Nat} {n d : Int} {σ : St} (hp : p < σ.next) (hq : q < σ.next) (gp : σ.get p = some (.cells [.int .i64 d] false)) (gq : σ.get q = some (.cells [.int .i64 n] false)) (h1 : 0 ≤ n) (h2 : n ≤ 9223372036854775807) (h3 : 0 < d) (h4 : d ≤ 9223372036854775807) :
    callX Try.prog 90 [.pointer (some ⟨p, 0, none⟩), .pointer (some ⟨q, 0, none⟩)] σ (Ans σ (.agg ⟨[.int .i64 (n / (Int.gcd n d : Int)), .int .i64 (d / (Int.gcd n d : Int))]⟩)) := by
  have o1 : okI n = true := by simp [okI]; omega
  have o2 : okI d = true := by simp [okI]; omega
  have n1 : (n.natAbs : Int) = n := by omega
  have n2 : (d.natAbs : Int) = d := by omega
  have e1 : (d != 0) = true := by simp; omega
  have e2 : ¬ n < 0 := by omega
  have e3 : ¬ d < 0 := by omega
  refine Ans.of (enter (p := q8) Try.func90 rfl stat90 ?_)
  simp only [go_sem, Nat.reducePow, Nat.reduceDiv, Nat.reduceMod, Nat.reduceAdd, Nat.reduceSub, Nat.reduceMul, Nat.reduceLeDiff, Nat.reduceLT, Nat.reduceEqDiff, reduceCtorEq, reduceIte, reduceDIte, if_pos rfl, Int.reduceLT, Int.reduceLE, Int.reduceEq, Int.reduceNeg, Int.reduceAdd, Int.reduceSub, Int.reduceMul, Int.reduceToNat, opLen, callW, q8, p8, p7, p6, p5, p4, p3, p2, p1, Try.f90, gp, gq, hp, hq, o1, o2, n1, n2, e1, e2, e3, Try.underlying2, info2, Try.t2, Try.underlying4, info4, Try.t4, Try.underlying24, info24, Try.t24, Try.underlying28, info28, Try.t28, Try.underlying115, info115, Try.t115, body78, body91, body92]
  refine .of (made_call n d false _ h1 h2 h3 h4) ?_
  simp only [go_sem, Nat.reducePow, Nat.reduceDiv, Nat.reduceMod, Nat.reduceAdd, Nat.reduceSub, Nat.reduceMul, Nat.reduceLeDiff, Nat.reduceLT, Nat.reduceEqDiff, reduceCtorEq, reduceIte, reduceDIte, if_pos rfl, Int.reduceLT, Int.reduceLE, Int.reduceEq, Int.reduceNeg, Int.reduceAdd, Int.reduceSub, Int.reduceMul, Int.reduceToNat, opLen, hp, hq, Try.underlying2, info2, Try.t2, Try.underlying4, info4, Try.t4, Try.underlying24, info24, Try.t24, Try.underlying28, info28, Try.t28, Try.underlying115, info115, Try.t115]

theorem make_call (n d : Int) (σ : St) (h1 : 0 ≤ n) (h2 : n ≤ 9223372036854775807) (h3 : 0 < d) (h4 : d ≤ 9223372036854775807) :
    DCall Try.prog 63 [.int .i64 n, .int .i64 d] σ (.ret (.tuple ⟨[.agg ⟨[.int .i64 (n / (Int.gcd n d : Int)), .int .i64 (d / (Int.gcd n d : Int))]⟩, .int .i64 0]⟩)) σ [] := by
  refine pure_call (enter (p := q8) Try.func63 rfl stat63 ?_) rfl
  simp only [go_sem, Nat.reducePow, Nat.reduceDiv, Nat.reduceMod, Nat.reduceAdd, Nat.reduceSub, Nat.reduceMul, Nat.reduceLeDiff, Nat.reduceLT, Nat.reduceEqDiff, reduceCtorEq, reduceIte, reduceDIte, if_pos rfl, Int.reduceLT, Int.reduceLE, Int.reduceEq, Int.reduceNeg, Int.reduceAdd, Int.reduceSub, Int.reduceMul, Int.reduceToNat, opLen, callW, q8, p8, p7, p6, p5, p4, p3, p2, p1, Try.f63, Try.underlying2, info2, Try.t2, Try.underlying4, info4, Try.t4, Try.underlying24, info24, Try.t24, Try.underlying28, info28, Try.t28, Try.underlying57, info57, Try.t57, Try.underlying115, info115, Try.t115, Try.underlying161, info161, Try.t161, body89, body90]
  refine .of (try_rat body90 (make1_call (n := n) (d := d) ?_ ?_ ?_ ?_ h1 h2 h3 h4)) ?_
  · simp only [go_sem, Nat.reducePow, Nat.reduceDiv, Nat.reduceMod, Nat.reduceAdd, Nat.reduceSub, Nat.reduceMul, Nat.reduceLeDiff, Nat.reduceLT, Nat.reduceEqDiff, reduceCtorEq, reduceIte, reduceDIte, if_pos rfl, Int.reduceLT, Int.reduceLE, Int.reduceEq, Int.reduceNeg, Int.reduceAdd, Int.reduceSub, Int.reduceMul, Int.reduceToNat, opLen]
  · simp only [go_sem, Nat.reducePow, Nat.reduceDiv, Nat.reduceMod, Nat.reduceAdd, Nat.reduceSub, Nat.reduceMul, Nat.reduceLeDiff, Nat.reduceLT, Nat.reduceEqDiff, reduceCtorEq, reduceIte, reduceDIte, if_pos rfl, Int.reduceLT, Int.reduceLE, Int.reduceEq, Int.reduceNeg, Int.reduceAdd, Int.reduceSub, Int.reduceMul, Int.reduceToNat, opLen]
  · simp only [go_sem, Nat.reducePow, Nat.reduceDiv, Nat.reduceMod, Nat.reduceAdd, Nat.reduceSub, Nat.reduceMul, Nat.reduceLeDiff, Nat.reduceLT, Nat.reduceEqDiff, reduceCtorEq, reduceIte, reduceDIte, if_pos rfl, Int.reduceLT, Int.reduceLE, Int.reduceEq, Int.reduceNeg, Int.reduceAdd, Int.reduceSub, Int.reduceMul, Int.reduceToNat, opLen]
  · simp only [go_sem, Nat.reducePow, Nat.reduceDiv, Nat.reduceMod, Nat.reduceAdd, Nat.reduceSub, Nat.reduceMul, Nat.reduceLeDiff, Nat.reduceLT, Nat.reduceEqDiff, reduceCtorEq, reduceIte, reduceDIte, if_pos rfl, Int.reduceLT, Int.reduceLE, Int.reduceEq, Int.reduceNeg, Int.reduceAdd, Int.reduceSub, Int.reduceMul, Int.reduceToNat, opLen]
  · simp only [go_sem, Nat.reducePow, Nat.reduceDiv, Nat.reduceMod, Nat.reduceAdd, Nat.reduceSub, Nat.reduceMul, Nat.reduceLeDiff, Nat.reduceLT, Nat.reduceEqDiff, reduceCtorEq, reduceIte, reduceDIte, if_pos rfl, Int.reduceLT, Int.reduceLE, Int.reduceEq, Int.reduceNeg, Int.reduceAdd, Int.reduceSub, Int.reduceMul, Int.reduceToNat, opLen, Try.underlying2, info2, Try.t2, Try.underlying4, info4, Try.t4, Try.underlying24, info24, Try.t24, Try.underlying28, info28, Try.t28, Try.underlying57, info57, Try.t57, Try.underlying115, info115, Try.t115, Try.underlying161, info161, Try.t161]

set_option maxRecDepth 20000 in
theorem first1_call {p q b : Nat} {n₁ d₁ n₂ d₂ : Int} {σ : St} (hp : p < σ.next) (hq : q < σ.next) (hb : b < σ.next) (gp : σ.get p = some (.cells [.slice (some ⟨b, 0, some 0⟩) 2 2] false)) (gq : σ.get q = some (.cells [.func (.func 87) ⟨[]⟩ ⟨[]⟩] false))
    (gb : σ.get b = some (.cells [.int .i64 n₁, .int .i64 d₁, .int .i64 n₂, .int .i64 d₂] false)) (h1 : okR n₁ d₁ = true) (h2 : okR n₂ d₂ = true) :
    callX Try.prog 117 [.pointer (some ⟨p, 0, none⟩), .pointer (some ⟨q, 0, none⟩)] σ (Ans σ (.agg ⟨if 0 < cmpR n₂ d₂ n₁ d₁ then [.int .i64 n₂, .int .i64 d₂] else [.int .i64 n₁, .int .i64 d₁]⟩)) := by
  have k1 := h1
  have k2 := h2
  simp only [okR, Bool.and_eq_true, decide_eq_true_eq] at k1 k2
  refine Ans.of (enter (p := q8) Try.func117 rfl stat117 ?_)
  simp only [go_sem, Nat.reducePow, Nat.reduceDiv, Nat.reduceMod, Nat.reduceAdd, Nat.reduceSub, Nat.reduceMul, Nat.reduceLeDiff, Nat.reduceLT, Nat.reduceEqDiff, reduceCtorEq, reduceIte, reduceDIte, if_pos rfl, Int.reduceLT, Int.reduceLE, Int.reduceEq, Int.reduceNeg, Int.reduceAdd, Int.reduceSub, Int.reduceMul, Int.reduceToNat, opLen, callW, q8, p8, p7, p6, p5, p4, p3, p2, p1, opLen, Try.f117, gp, gq, gb, hp, hq, hb, h1, h2, Try.underlying2, info2, Try.t2, Try.underlying3, info3, Try.t3, Try.underlying4, info4, Try.t4, Try.underlying22, info22, Try.t22, Try.underlying24, info24, Try.t24, Try.underlying28, info28, Try.t28, Try.underlying157, info157, Try.t157, body78, body91, body92, body118]
  refine .of (both_call b n₁ d₁ n₂ d₂ _ ?_ ?_ k1.1.1 k1.1.2 k2.1.1 k2.1.2 k1.2 k2.2) ?_
  · simp only [go_sem, Nat.reducePow, Nat.reduceDiv, Nat.reduceMod, Nat.reduceAdd, Nat.reduceSub, Nat.reduceMul, Nat.reduceLeDiff, Nat.reduceLT, Nat.reduceEqDiff, reduceCtorEq, reduceIte, reduceDIte, if_pos rfl, Int.reduceLT, Int.reduceLE, Int.reduceEq, Int.reduceNeg, Int.reduceAdd, Int.reduceSub, Int.reduceMul, Int.reduceToNat, opLen, hb]
  · simp only [go_sem, Nat.reducePow, Nat.reduceDiv, Nat.reduceMod, Nat.reduceAdd, Nat.reduceSub, Nat.reduceMul, Nat.reduceLeDiff, Nat.reduceLT, Nat.reduceEqDiff, reduceCtorEq, reduceIte, reduceDIte, if_pos rfl, Int.reduceLT, Int.reduceLE, Int.reduceEq, Int.reduceNeg, Int.reduceAdd, Int.reduceSub, Int.reduceMul, Int.reduceToNat, opLen, gb, hb]
  simp only [go_sem, Nat.reducePow, Nat.reduceDiv, Nat.reduceMod, Nat.reduceAdd, Nat.reduceSub, Nat.reduceMul, Nat.reduceLeDiff, Nat.reduceLT, Nat.reduceEqDiff, reduceCtorEq, reduceIte, reduceDIte, if_pos rfl, Int.reduceLT, Int.reduceLE, Int.reduceEq, Int.reduceNeg, Int.reduceAdd, Int.reduceSub, Int.reduceMul, Int.reduceToNat, opLen, callW, q8, p8, p7, p6, p5, p4, p3, p2, p1, gp, gq, gb, hp, hq, hb, h1, h2, Try.underlying2, info2, Try.t2, Try.underlying3, info3, Try.t3, Try.underlying4, info4, Try.t4, Try.underlying22, info22, Try.t22, Try.underlying24, info24, Try.t24, Try.underlying28, info28, Try.t28, Try.underlying157, info157, Try.t157, body78, body91, body92, body118]
  refine turn q8 117 (by kernel_rfl) ?_
  have n1 : Int.toNat 1 = 1 := rfl
  have n2 : Int.toNat 0 = 0 := rfl
  simp only [go_sem, Nat.reducePow, Nat.reduceDiv, Nat.reduceMod, Nat.reduceAdd, Nat.reduceSub, Nat.reduceMul, Nat.reduceLeDiff, Nat.reduceLT, Nat.reduceEqDiff, reduceCtorEq, reduceIte, reduceDIte, if_pos rfl, Int.reduceLT, Int.reduceLE, Int.reduceEq, Int.reduceNeg, Int.reduceAdd, Int.reduceSub, Int.reduceMul, Int.reduceToNat, opLen, callW, q8, p8, p7, p6, p5, p4, p3, p2, p1, n1, n2, gp, gq, gb, hp, hq, hb, h1, h2, Try.underlying2, info2, Try.t2, Try.underlying3, info3, Try.t3, Try.underlying4, info4, Try.t4, Try.underlying22, info22, Try.t22, Try.underlying24, info24, Try.t24, Try.underlying28, info28, Try.t28, Try.underlying157, info157, Try.t157, body87, body91, body92, body118]
  refine enter (p := q8) Try.func87 rfl stat87 ?_
  simp only [go_sem, Nat.reducePow, Nat.reduceDiv, Nat.reduceMod, Nat.reduceAdd, Nat.reduceSub, Nat.reduceMul, Nat.reduceLeDiff, Nat.reduceLT, Nat.reduceEqDiff, reduceCtorEq, reduceIte, reduceDIte, if_pos rfl, Int.reduceLT, Int.reduceLE, Int.reduceEq, Int.reduceNeg, Int.reduceAdd, Int.reduceSub, Int.reduceMul, Int.reduceToNat, opLen, callW, q8, p8, p7, p6, p5, p4, p3, p2, p1, Try.f87, gp, gq, gb, hp, hq, hb, h1, h2, Try.underlying2, info2, Try.t2, Try.underlying3, info3, Try.t3, Try.underlying4, info4, Try.t4, Try.underlying22, info22, Try.t22, Try.underlying24, info24, Try.t24, Try.underlying28, info28, Try.t28, Try.underlying157, info157, Try.t157, body87, body88, body91, body92, body118]
  split <;> rename_i hc
  · refine turn q8 117 (by kernel_rfl) ?_
    simp only [go_sem, Nat.reducePow, Nat.reduceDiv, Nat.reduceMod, Nat.reduceAdd, Nat.reduceSub, Nat.reduceMul, Nat.reduceLeDiff, Nat.reduceLT, Nat.reduceEqDiff, reduceCtorEq, reduceIte, reduceDIte, if_pos rfl, Int.reduceLT, Int.reduceLE, Int.reduceEq, Int.reduceNeg, Int.reduceAdd, Int.reduceSub, Int.reduceMul, Int.reduceToNat, opLen, callW, q8, p8, p7, p6, p5, p4, p3, p2, p1, gp, gq, gb, hp, hq, hb, h1, h2, hc, Try.underlying2, info2, Try.t2, Try.underlying3, info3, Try.t3, Try.underlying4, info4, Try.t4, Try.underlying22, info22, Try.t22, Try.underlying24, info24, Try.t24, Try.underlying28, info28, Try.t28, Try.underlying157, info157, Try.t157, body87, body91, body92, body118]
  · refine turn q8 117 (by kernel_rfl) ?_
    simp only [go_sem, Nat.reducePow, Nat.reduceDiv, Nat.reduceMod, Nat.reduceAdd, Nat.reduceSub, Nat.reduceMul, Nat.reduceLeDiff, Nat.reduceLT, Nat.reduceEqDiff, reduceCtorEq, reduceIte, reduceDIte, if_pos rfl, Int.reduceLT, Int.reduceLE, Int.reduceEq, Int.reduceNeg, Int.reduceAdd, Int.reduceSub, Int.reduceMul, Int.reduceToNat, opLen, callW, q8, p8, p7, p6, p5, p4, p3, p2, p1, gp, gq, gb, hp, hq, hb, h1, h2, hc, Try.underlying2, info2, Try.t2, Try.underlying3, info3, Try.t3, Try.underlying4, info4, Try.t4, Try.underlying22, info22, Try.t22, Try.underlying24, info24, Try.t24, Try.underlying28, info28, Try.t28, Try.underlying157, info157, Try.t157, body87, body91, body92, body118]

theorem greatest_call {b : Nat} {n₁ d₁ n₂ d₂ : Int} {σ : St} (hb : b < σ.next) (gb : σ.get b = some (.cells [.int .i64 n₁, .int .i64 d₁, .int .i64 n₂, .int .i64 d₂] false)) (h1 : okR n₁ d₁ = true) (h2 : okR n₂ d₂ = true) :
    DCall Try.prog 62 [.slice (some ⟨b, 0, some 0⟩) 2 2] σ (.ret (.tuple ⟨[if 0 < cmpR n₂ d₂ n₁ d₁ then .agg ⟨[.int .i64 n₂, .int .i64 d₂]⟩ else .agg ⟨[.int .i64 n₁, .int .i64 d₁]⟩, .int .i64 0]⟩)) σ [] := by
  refine pure_call (enter (p := q8) Try.func62 rfl stat62 ?_) (by split <;> rfl)
  simp only [go_sem, Nat.reducePow, Nat.reduceDiv, Nat.reduceMod, Nat.reduceAdd, Nat.reduceSub, Nat.reduceMul, Nat.reduceLeDiff, Nat.reduceLT, Nat.reduceEqDiff, reduceCtorEq, reduceIte, reduceDIte, if_pos rfl, Int.reduceLT, Int.reduceLE, Int.reduceEq, Int.reduceNeg, Int.reduceAdd, Int.reduceSub, Int.reduceMul, Int.reduceToNat, opLen, callW, q8, p8, p7, p6, p5, p4, p3, p2, p1, Try.f62, gb, hb, Try.underlying2, info2, Try.t2, Try.underlying4, info4, Try.t4, Try.underlying22, info22, Try.t22, Try.underlying24, info24, Try.t24, Try.underlying28, info28, Try.t28, Try.underlying57, info57, Try.t57, Try.underlying115, info115, Try.t115, Try.underlying157, info157, Try.t157, body86, body87]
  refine enter (p := q8) Try.func86 rfl stat86 ?_
  simp only [go_sem, Nat.reducePow, Nat.reduceDiv, Nat.reduceMod, Nat.reduceAdd, Nat.reduceSub, Nat.reduceMul, Nat.reduceLeDiff, Nat.reduceLT, Nat.reduceEqDiff, reduceCtorEq, reduceIte, reduceDIte, if_pos rfl, Int.reduceLT, Int.reduceLE, Int.reduceEq, Int.reduceNeg, Int.reduceAdd, Int.reduceSub, Int.reduceMul, Int.reduceToNat, opLen, callW, q8, p8, p7, p6, p5, p4, p3, p2, p1, Try.f86, gb, hb, Try.underlying2, info2, Try.t2, Try.underlying4, info4, Try.t4, Try.underlying22, info22, Try.t22, Try.underlying24, info24, Try.t24, Try.underlying28, info28, Try.t28, Try.underlying57, info57, Try.t57, Try.underlying115, info115, Try.t115, Try.underlying157, info157, Try.t157, Try.underlying161, info161, Try.t161, body89, body117]
  by_cases hc : 0 < cmpR n₂ d₂ n₁ d₁
  · refine .of (try_rat (n := n₂) (d := d₂) body117 ?_) ?_
    · have key := first1_call (σ := ((((((σ.new (.cells [.int .i64 0, .int .i64 0] false)).new (.cells [.slice (some ⟨b, 0, some 0⟩) 2 2] false)).new (.cells [.func (.func 87) ⟨[]⟩ ⟨[]⟩] false)).new (.cells [.int .i64 0, .int .i64 0] false)).new (.cells [.int .i64 0, .int .i64 0] false)).new (.cells [.int .i64 0] false))) (p := σ.next + 1) (q := σ.next + 2) (b := b)
        (by simp only [go_sem, Nat.reducePow, Nat.reduceDiv, Nat.reduceMod, Nat.reduceAdd, Nat.reduceSub, Nat.reduceMul, Nat.reduceLeDiff, Nat.reduceLT, Nat.reduceEqDiff, reduceCtorEq, reduceIte, reduceDIte, if_pos rfl, Int.reduceLT, Int.reduceLE, Int.reduceEq, Int.reduceNeg, Int.reduceAdd, Int.reduceSub, Int.reduceMul, Int.reduceToNat, opLen]) (by simp only [go_sem, Nat.reducePow, Nat.reduceDiv, Nat.reduceMod, Nat.reduceAdd, Nat.reduceSub, Nat.reduceMul, Nat.reduceLeDiff, Nat.reduceLT, Nat.reduceEqDiff, reduceCtorEq, reduceIte, reduceDIte, if_pos rfl, Int.reduceLT, Int.reduceLE, Int.reduceEq, Int.reduceNeg, Int.reduceAdd, Int.reduceSub, Int.reduceMul, Int.reduceToNat, opLen]) (by simp only [go_sem, Nat.reducePow, Nat.reduceDiv, Nat.reduceMod, Nat.reduceAdd, Nat.reduceSub, Nat.reduceMul, Nat.reduceLeDiff, Nat.reduceLT, Nat.reduceEqDiff, reduceCtorEq, reduceIte, reduceDIte, if_pos rfl, Int.reduceLT, Int.reduceLE, Int.reduceEq, Int.reduceNeg, Int.reduceAdd, Int.reduceSub, Int.reduceMul, Int.reduceToNat, opLen, hb]) (by simp only [go_sem, Nat.reducePow, Nat.reduceDiv, Nat.reduceMod, Nat.reduceAdd, Nat.reduceSub, Nat.reduceMul, Nat.reduceLeDiff, Nat.reduceLT, Nat.reduceEqDiff, reduceCtorEq, reduceIte, reduceDIte, if_pos rfl, Int.reduceLT, Int.reduceLE, Int.reduceEq, Int.reduceNeg, Int.reduceAdd, Int.reduceSub, Int.reduceMul, Int.reduceToNat, opLen]) (by simp only [go_sem, Nat.reducePow, Nat.reduceDiv, Nat.reduceMod, Nat.reduceAdd, Nat.reduceSub, Nat.reduceMul, Nat.reduceLeDiff, Nat.reduceLT, Nat.reduceEqDiff, reduceCtorEq, reduceIte, reduceDIte, if_pos rfl, Int.reduceLT, Int.reduceLE, Int.reduceEq, Int.reduceNeg, Int.reduceAdd, Int.reduceSub, Int.reduceMul, Int.reduceToNat, opLen]) (by simp only [go_sem, Nat.reducePow, Nat.reduceDiv, Nat.reduceMod, Nat.reduceAdd, Nat.reduceSub, Nat.reduceMul, Nat.reduceLeDiff, Nat.reduceLT, Nat.reduceEqDiff, reduceCtorEq, reduceIte, reduceDIte, if_pos rfl, Int.reduceLT, Int.reduceLE, Int.reduceEq, Int.reduceNeg, Int.reduceAdd, Int.reduceSub, Int.reduceMul, Int.reduceToNat, opLen, hb, gb]) h1 h2
      rw [if_pos hc] at key
      exact key
    · simp only [go_sem, Nat.reducePow, Nat.reduceDiv, Nat.reduceMod, Nat.reduceAdd, Nat.reduceSub, Nat.reduceMul, Nat.reduceLeDiff, Nat.reduceLT, Nat.reduceEqDiff, reduceCtorEq, reduceIte, reduceDIte, if_pos rfl, Int.reduceLT, Int.reduceLE, Int.reduceEq, Int.reduceNeg, Int.reduceAdd, Int.reduceSub, Int.reduceMul, Int.reduceToNat, opLen, hc, Try.underlying2, info2, Try.t2, Try.underlying4, info4, Try.t4, Try.underlying22, info22, Try.t22, Try.underlying24, info24, Try.t24, Try.underlying28, info28, Try.t28, Try.underlying57, info57, Try.t57, Try.underlying115, info115, Try.t115, Try.underlying157, info157, Try.t157, Try.underlying161, info161, Try.t161]
  · refine .of (try_rat (n := n₁) (d := d₁) body117 ?_) ?_
    · have key := first1_call (σ := ((((((σ.new (.cells [.int .i64 0, .int .i64 0] false)).new (.cells [.slice (some ⟨b, 0, some 0⟩) 2 2] false)).new (.cells [.func (.func 87) ⟨[]⟩ ⟨[]⟩] false)).new (.cells [.int .i64 0, .int .i64 0] false)).new (.cells [.int .i64 0, .int .i64 0] false)).new (.cells [.int .i64 0] false))) (p := σ.next + 1) (q := σ.next + 2) (b := b)
        (by simp only [go_sem, Nat.reducePow, Nat.reduceDiv, Nat.reduceMod, Nat.reduceAdd, Nat.reduceSub, Nat.reduceMul, Nat.reduceLeDiff, Nat.reduceLT, Nat.reduceEqDiff, reduceCtorEq, reduceIte, reduceDIte, if_pos rfl, Int.reduceLT, Int.reduceLE, Int.reduceEq, Int.reduceNeg, Int.reduceAdd, Int.reduceSub, Int.reduceMul, Int.reduceToNat, opLen]) (by simp only [go_sem, Nat.reducePow, Nat.reduceDiv, Nat.reduceMod, Nat.reduceAdd, Nat.reduceSub, Nat.reduceMul, Nat.reduceLeDiff, Nat.reduceLT, Nat.reduceEqDiff, reduceCtorEq, reduceIte, reduceDIte, if_pos rfl, Int.reduceLT, Int.reduceLE, Int.reduceEq, Int.reduceNeg, Int.reduceAdd, Int.reduceSub, Int.reduceMul, Int.reduceToNat, opLen]) (by simp only [go_sem, Nat.reducePow, Nat.reduceDiv, Nat.reduceMod, Nat.reduceAdd, Nat.reduceSub, Nat.reduceMul, Nat.reduceLeDiff, Nat.reduceLT, Nat.reduceEqDiff, reduceCtorEq, reduceIte, reduceDIte, if_pos rfl, Int.reduceLT, Int.reduceLE, Int.reduceEq, Int.reduceNeg, Int.reduceAdd, Int.reduceSub, Int.reduceMul, Int.reduceToNat, opLen, hb]) (by simp only [go_sem, Nat.reducePow, Nat.reduceDiv, Nat.reduceMod, Nat.reduceAdd, Nat.reduceSub, Nat.reduceMul, Nat.reduceLeDiff, Nat.reduceLT, Nat.reduceEqDiff, reduceCtorEq, reduceIte, reduceDIte, if_pos rfl, Int.reduceLT, Int.reduceLE, Int.reduceEq, Int.reduceNeg, Int.reduceAdd, Int.reduceSub, Int.reduceMul, Int.reduceToNat, opLen]) (by simp only [go_sem, Nat.reducePow, Nat.reduceDiv, Nat.reduceMod, Nat.reduceAdd, Nat.reduceSub, Nat.reduceMul, Nat.reduceLeDiff, Nat.reduceLT, Nat.reduceEqDiff, reduceCtorEq, reduceIte, reduceDIte, if_pos rfl, Int.reduceLT, Int.reduceLE, Int.reduceEq, Int.reduceNeg, Int.reduceAdd, Int.reduceSub, Int.reduceMul, Int.reduceToNat, opLen]) (by simp only [go_sem, Nat.reducePow, Nat.reduceDiv, Nat.reduceMod, Nat.reduceAdd, Nat.reduceSub, Nat.reduceMul, Nat.reduceLeDiff, Nat.reduceLT, Nat.reduceEqDiff, reduceCtorEq, reduceIte, reduceDIte, if_pos rfl, Int.reduceLT, Int.reduceLE, Int.reduceEq, Int.reduceNeg, Int.reduceAdd, Int.reduceSub, Int.reduceMul, Int.reduceToNat, opLen, hb, gb]) h1 h2
      rw [if_neg hc] at key
      exact key
    · simp only [go_sem, Nat.reducePow, Nat.reduceDiv, Nat.reduceMod, Nat.reduceAdd, Nat.reduceSub, Nat.reduceMul, Nat.reduceLeDiff, Nat.reduceLT, Nat.reduceEqDiff, reduceCtorEq, reduceIte, reduceDIte, if_pos rfl, Int.reduceLT, Int.reduceLE, Int.reduceEq, Int.reduceNeg, Int.reduceAdd, Int.reduceSub, Int.reduceMul, Int.reduceToNat, opLen, hc, Try.underlying2, info2, Try.t2, Try.underlying4, info4, Try.t4, Try.underlying22, info22, Try.t22, Try.underlying24, info24, Try.t24, Try.underlying28, info28, Try.t28, Try.underlying57, info57, Try.t57, Try.underlying115, info115, Try.t115, Try.underlying157, info157, Try.t157, Try.underlying161, info161, Try.t161]
end Go.Ab

set_option linter.unusedSimpArgs false
set_option linter.unusedVariables false
namespace Go.Ab
open Go.Proofs

/-- A heap and the blocks that it stands in: A: none or one, of the list. -/
def HX (σ : St) (h m : Nat) (A : List Nat) (L : List Item) (t : Int) : Prop :=
  (L = [] ∧ A = [] ∧ HE σ h m t) ∨ ∃ a cap, A = [a] ∧ HI σ h a m L cap t

theorem HX.keep {σ σ' : St} {h m : Nat} {A : List Nat} {L : List Item} {t : Int} (H : HX σ h m A L t) (hn : σ.next ≤ σ'.next) (hg : ∀ c ∈ h :: m :: A, σ'.get c = σ.get c) : HX σ' h m A L t := by
  rcases H with ⟨rfl, rfl, H⟩ | ⟨a, cap, rfl, H⟩
  · obtain ⟨ck, gm⟩ := H.gm
    exact .inl ⟨rfl, rfl, ⟨(hg _ (by simp)).trans H.gh, ⟨ck, (hg _ (by simp)).trans gm⟩, H.ne, by have := H.lt; omega⟩⟩
  · obtain ⟨f, H1, hi⟩ := H.hs
    obtain ⟨G, ga, hG⟩ := H1.ga
    obtain ⟨es, ck, gm, hkv⟩ := H1.gm
    exact .inr ⟨a, cap, rfl, ⟨⟨f, ⟨(hg _ (by simp)).trans H1.gh, ⟨G, (hg _ (by simp)).trans ga, hG⟩, ⟨es, ck, (hg _ (by simp)).trans gm, hkv⟩, H1.ne, by have := H1.lt; omega⟩, hi⟩, H.ok, H.small⟩⟩

theorem HX.toV {σ : St} {h m : Nat} {A : List Nat} {L : List Item} {t : Int} (H : HX σ h m A L t) : HV σ 0 h m L t := by
  refine ⟨Nat.zero_le _, Nat.zero_le _, Nat.zero_le _, ?_⟩
  rcases H with ⟨rfl, rfl, H⟩ | ⟨a, cap, rfl, H⟩
  · exact .inl ⟨rfl, H⟩
  · exact .inr ⟨a, cap, Nat.zero_le _, H⟩

theorem HX.lt {σ : St} {h m : Nat} {A : List Nat} {L : List Item} {t : Int} (H : HX σ h m A L t) : ∀ c ∈ h :: m :: A, c < σ.next := by
  rcases H with ⟨rfl, rfl, H⟩ | ⟨a, cap, rfl, H⟩
  · have := H.lt
    intro c hc; simp at hc; omega
  · obtain ⟨f, H1, hi⟩ := H.hs
    have := H1.lt
    intro c hc; simp at hc; omega

theorem HX.nodup {σ : St} {h m : Nat} {A : List Nat} {L : List Item} {t : Int} (H : HX σ h m A L t) : A.Nodup := by
  rcases H with ⟨_, rfl, _⟩ | ⟨a, cap, rfl, _⟩ <;> simp

/-- Put of a further item. -/
theorem HX.put {σ : St} {h m : Nat} {A : List Nat} {L : List Item} {t : Int} (H : HX σ h m A L t) (id kn kd : Int) (h0 : 0 ≤ id) (h1 : id ≤ 4611686018427387904) (hk : okR kn kd = true) (ht : 0 ≤ t) (ht1 : t < 1000000) (hnew : ∀ y ∈ L, y.id ≠ id) (hsm : L.length < 1000) :
    callX Try.prog 14 [.pointer (some ⟨h, 0, none⟩), .int .i64 id, .agg ⟨[.int .i64 kn, .int .i64 kd]⟩] σ fun e σ' l => e = .ret (.int .i64 0) ∧ ((∀ c ∈ l, c ∈ h :: m :: A ∨ σ.next ≤ c) ∧
      ∃ A', (∀ c ∈ A', c ∈ A ∨ σ.next ≤ c) ∧ HX σ' h m A' (riseL (L.length + 1) (L ++ [⟨id, kn, kd, t + 1⟩]) L.length) (t + 1)) := by
  rcases H with ⟨rfl, rfl, H⟩ | ⟨a, cap, rfl, H⟩
  · obtain ⟨σ', a, d, H', ha⟩ := put_first H id kn kd h0 h1 hk ht ht1
    exact .of d ⟨rfl, fun c hc => .inl hc, [a], fun c hc => by simp at hc; omega, .inr ⟨a, 1, rfl, by simpa [riseL] using H'⟩⟩
  · have hcap : L.length ≤ cap := by
      obtain ⟨f, H1, _⟩ := H.hs
      obtain ⟨G, _, hG⟩ := H1.ga
      omega
    by_cases hc : L.length + 1 ≤ cap
    · obtain ⟨σ', d, H', nx, _⟩ := put_in H id kn kd h0 h1 hk ht ht1 hnew hsm hc
      exact .of d ⟨rfl, fun c hc => .inl (by simp at hc ⊢; omega), [a], fun c hc => .inl hc, .inr ⟨a, cap, rfl, H'⟩⟩
    · obtain ⟨σ', d, H', nx, _⟩ := put_move H id kn kd h0 h1 hk ht ht1 hnew hsm (by omega)
      exact .of d ⟨rfl, fun c hc => .inl (by simp at hc ⊢; omega), [σ.next + 2], fun c hc => by simp at hc; omega, .inr ⟨_, _, rfl, H'⟩⟩

/-- Take of the least. -/
theorem HX.take {σ : St} {h m : Nat} {A : List Nat} {L : List Item} {t : Int} (H : HX σ h m A L t) {x : Item} (hx : L[0]? = some x) :
    callX Try.prog 16 [.pointer (some ⟨h, 0, none⟩)] σ fun e σ' l => e = .ret (.tuple ⟨[.agg ⟨[.int .i64 x.id, .int .i64 x.n, .int .i64 x.d, .int .i64 x.turn]⟩, .bool true]⟩) ∧ ((∀ c ∈ l, c ∈ h :: m :: A ∨ σ.next ≤ c) ∧ HX σ' h m A (outL L 0) t) := by
  rcases H with ⟨rfl, rfl, H⟩ | ⟨a, cap, rfl, H⟩
  · simp at hx
  · obtain ⟨σ', d, b3, b4, _⟩ := take_call H hx
    exact .of d ⟨rfl, fun c hc => .inl (by simp at hc ⊢; omega), .inr ⟨a, cap, rfl, b3⟩⟩

/-- A flow: the block in which it stands, its numbers. -/
structure FlowV where
  blk : Nat
  rate : Int
  room : Int
  bytes : Int
  n : Int
  d : Int

def FlowV.cells (x : FlowV) (k : Int) : List Value := [.int .i64 k, .int .i64 x.rate, .int .i64 x.room, .int .i64 x.bytes, .int .i64 x.n, .int .i64 x.d]
def ptrOf (x : FlowV) : Value := .pointer (some ⟨x.blk, 0, none⟩)
def packOf (k : Int) (x : Int × Int) : Value := .agg ⟨[.int .i64 k, .int .i64 x.1, .int .i64 x.2]⟩

def updF {α : Type} (F : Int → Option α) (k : Int) (x : Option α) : Int → Option α := fun k' => if k' = k then x else F k'

/-- A queue: its block, its flows' map, its packets' map, its heap's blocks. -/
structure QB where
  q : Nat
  fm : Nat
  pm : Nat
  h : Nat
  m : Nat
  A : List Nat

def QB.core (b : QB) : List Nat := b.q :: b.fm :: b.pm :: b.h :: b.m :: b.A

/-- What a queue holds. -/
structure QV where
  F : Int → Option FlowV
  nf : Nat
  P : Int → Option (Int × Int)
  np : Nat
  L : List Item
  t : Int

structure QAt (σ : St) (b : QB) (Q : QV) : Prop where
  gq : σ.get b.q = some (.cells [.pointer (some ⟨b.h, 0, none⟩), .map (some b.fm), .map (some b.pm)] false)
  hx : HX σ b.h b.m b.A Q.L Q.t
  mf : MapAt σ b.fm (fun k => (Q.F k).map ptrOf) Q.nf
  mp : MapAt σ b.pm (fun k => (Q.P k).map (packOf k)) Q.np
  fl : ∀ k x, Q.F k = some x → σ.get x.blk = some (.cells (x.cells k) false) ∧ x.blk < σ.next ∧ x.blk ∉ b.core
  inj : ∀ k k' x x', Q.F k = some x → Q.F k' = some x' → x.blk = x'.blk → k = k'
  nodup : b.core.Nodup
  lt : ∀ c ∈ b.core, c < σ.next

/-- The blocks of a queue. -/
def Foot (b : QB) (Q : QV) (c : Nat) : Prop := c ∈ b.core ∨ ∃ k x, Q.F k = some x ∧ x.blk = c

theorem QAt.keep {σ σ' : St} {b : QB} {Q : QV} (h : QAt σ b Q) (hn : σ.next ≤ σ'.next) (hg : ∀ c, Foot b Q c → σ'.get c = σ.get c) : QAt σ' b Q := by
  have hc : ∀ c ∈ b.core, σ'.get c = σ.get c := fun c hc => hg c (.inl hc)
  exact { gq := (hc _ (by simp [QB.core])).trans h.gq
          hx := h.hx.keep hn fun c hm => hc c (by simp [QB.core] at hm ⊢; rcases hm with h | h | h <;> simp [h])
          mf := h.mf.keep (hc _ (by simp [QB.core]))
          mp := h.mp.keep (hc _ (by simp [QB.core]))
          fl := fun k x hx => ⟨(hg _ (.inr ⟨k, x, hx, rfl⟩)).trans (h.fl k x hx).1, by have := (h.fl k x hx).2.1; omega, (h.fl k x hx).2.2⟩
          inj := h.inj
          nodup := h.nodup
          lt := fun c hc => by have := h.lt c hc; omega }

structure QNe (b : QB) : Prop where
  q_fm : b.q ≠ b.fm
  q_pm : b.q ≠ b.pm
  q_h : b.q ≠ b.h
  q_m : b.q ≠ b.m
  fm_pm : b.fm ≠ b.pm
  fm_h : b.fm ≠ b.h
  fm_m : b.fm ≠ b.m
  pm_h : b.pm ≠ b.h
  pm_m : b.pm ≠ b.m
  h_m : b.h ≠ b.m
  A : ∀ c ∈ b.A, c ≠ b.q ∧ c ≠ b.fm ∧ c ≠ b.pm ∧ c ≠ b.h ∧ c ≠ b.m

theorem QAt.ne {σ : St} {b : QB} {Q : QV} (H : QAt σ b Q) : QNe b := by
  have n := H.nodup
  simp only [QB.core, List.nodup_cons, List.mem_cons, not_or] at n
  obtain ⟨⟨a1, a2, a3, a4, a5⟩, ⟨b1, b2, b3, b4⟩, ⟨c1, c2, c3⟩, ⟨d1, d2⟩, e1, _⟩ := n
  exact ⟨a1, a2, a3, a4, b1, b2, b3, c1, c2, d1, fun c hc => ⟨fun e => a5 (e ▸ hc), fun e => b4 (e ▸ hc), fun e => c3 (e ▸ hc), fun e => d2 (e ▸ hc), fun e => e1 (e ▸ hc)⟩⟩

theorem QNe.core {b : QB} (h : QNe b) {A : List Nat} {n : Nat} (hA : ∀ c ∈ A, c ∈ b.A ∨ n ≤ c) (hlt : ∀ c ∈ b.core, c < n) (hn : A.Nodup) : ({ b with A := A } : QB).core.Nodup := by
  have l1 := hlt b.q (by simp [QB.core])
  have l2 := hlt b.fm (by simp [QB.core])
  have l3 := hlt b.pm (by simp [QB.core])
  have l4 := hlt b.h (by simp [QB.core])
  have l5 := hlt b.m (by simp [QB.core])
  have nA : ∀ c ∈ A, c ≠ b.q ∧ c ≠ b.fm ∧ c ≠ b.pm ∧ c ≠ b.h ∧ c ≠ b.m := fun c hc => by
    rcases hA c hc with h1 | h1
    · exact h.A c h1
    · omega
  simp only [QB.core, List.nodup_cons, List.mem_cons, not_or]
  exact ⟨⟨h.q_fm, h.q_pm, h.q_h, h.q_m, fun hm => (nA _ hm).1 rfl⟩, ⟨h.fm_pm, h.fm_h, h.fm_m, fun hm => (nA _ hm).2.1 rfl⟩, ⟨h.pm_h, h.pm_m, fun hm => (nA _ hm).2.2.1 rfl⟩, ⟨h.h_m, fun hm => (nA _ hm).2.2.2.1 rfl⟩, fun hm => (nA _ hm).2.2.2.2 rfl, hn⟩

theorem updF_same {α : Type} (F : Int → Option α) (k : Int) (x : Option α) : updF F k x k = x := by simp [updF]
theorem updF_other {α : Type} (F : Int → Option α) {k k' : Int} (x : Option α) (h : k' ≠ k) : updF F k x k' = F k' := by simp [updF, h]

end Go.Ab

set_option linter.unusedSimpArgs false
set_option linter.unusedVariables false
namespace Go.Ab
open Go.Proofs

noncomputable def cE : Cx := withExt (cP Try.prog) extAt
theorem cE_ok : cE.Ok Try.prog := withExt_ok cP_ok extAt_ok
theorem cE_und (t : TypeId) : cE.T.und t = (cP Try.prog).T.und t := withExt_und _ _ t
theorem cE_info (t : TypeId) : cE.T.info t = (cP Try.prog).T.info t := withExt_info _ _ t
theorem cE_flat (t : TypeId) : cE.T.flat t = (cP Try.prog).T.flat t := withExt_flat _ _ t
theorem cE_bodies (g : FuncId) : cE.bodies g = (cP Try.prog).bodies g := withExt_bodies _ _ g
theorem ext142is : extAt 142 = some .add64 := by kernel_rfl
theorem cE_ext142 : cE.T.ext 142 = some .add64 := (withExt_ext _ _ 142).trans ext142is
theorem nobody142 : (cP Try.prog).bodies 142 = false := by kernel_rfl

theorem plus_call (a b : Nat) (σ : St) (h : a + b < 18446744073709551616) : DCall Try.prog 124 [.agg ⟨[.int .u64 0, .int .u64 a]⟩, .agg ⟨[.int .u64 0, .int .u64 b]⟩] σ (.ret (.agg ⟨[.int .u64 0, .int .u64 ((a + b : Nat) : Int)]⟩)) σ [] := by
  have e6 : ((a + b : Nat) : Int) = (a : Int) + b := by omega
  have e7 : ((a : Int) + b) / 18446744073709551616 = 0 := by omega
  have e8 : ((a : Int) + b) % 18446744073709551616 = (a : Int) + b := by omega
  have a0 : (0 : Int) ≤ a := by omega
  have b0 : (0 : Int) ≤ b := by omega
  rw [e6]
  refine pure_call (callX.enter (p := q8) (bt := btAll 124) cE_ok mixed Try.func124 rfl stat124 ?_) rfl
  simp only [go_sem, Nat.reducePow, Nat.reduceDiv, Nat.reduceMod, Nat.reduceAdd, Nat.reduceSub, Nat.reduceMul, Nat.reduceLeDiff, Nat.reduceLT, Nat.reduceEqDiff, reduceCtorEq, reduceIte, reduceDIte, if_pos rfl, Int.reduceLT, Int.reduceLE, Int.reduceEq, Int.reduceNeg, Int.reduceAdd, Int.reduceSub, Int.reduceMul, Int.reduceToNat, opLen, cE_und, cE_info, cE_flat, cE_bodies, cE_ext142, nobody142, extA, a0, b0, e7, e8, Int.add_zero, Int.zero_add, Int.zero_emod, Try.f124, Try.underlying4, info4, Try.t4, Try.underlying115, info115, Try.t115, Try.underlying190, info190, Try.t190, Try.underlying191, info191, Try.t191, Try.underlying198, info198, Try.t198]

theorem div64_call (lo y : Nat) (σ : St) (h1 : lo < 18446744073709551616) (h2 : 0 < y) (h3 : y < 18446744073709551616) : DCall Try.prog 145 [.int .u64 0, .int .u64 lo, .int .u64 y] σ (.ret (.tuple ⟨[.int .u64 ((lo / y : Nat) : Int), .int .u64 ((lo % y : Nat) : Int)]⟩)) σ [] := by
  have e0 : ((y : Int) == 0) = false := by simp; omega
  have e1 : ¬ (y : Int) ≤ 0 := by omega
  have e2 : ¬ (y : Int) = 0 := by omega
  have t1 : (lo : Int).tdiv y = ((lo / y : Nat) : Int) := by rw [Int.tdiv_eq_ediv_of_nonneg (by omega)]; rfl
  have t2 : (lo : Int).tmod y = ((lo % y : Nat) : Int) := by rw [Int.tmod_eq_emod_of_nonneg (by omega)]; rfl
  have l1 : lo / y ≤ lo := Nat.div_le_self _ _
  have w1 : IntKind.u64.wrap ((lo / y : Nat) : Int) = ((lo / y : Nat) : Int) := wrapUN (by omega)
  have w2 : IntKind.u64.wrap ((lo % y : Nat) : Int) = ((lo % y : Nat) : Int) := wrapUN (by have := Nat.mod_le lo y; omega)
  refine pure_call (enter (p := q8) Try.func145 rfl stat145 ?_) rfl
  simp only [go_sem, Nat.reducePow, Nat.reduceDiv, Nat.reduceMod, Nat.reduceAdd, Nat.reduceSub, Nat.reduceMul, Nat.reduceLeDiff, Nat.reduceLT, Nat.reduceEqDiff, reduceCtorEq, reduceIte, reduceDIte, if_pos rfl, Int.reduceLT, Int.reduceLE, Int.reduceEq, Int.reduceNeg, Int.reduceAdd, Int.reduceSub, Int.reduceMul, Int.reduceToNat, opLen, e0, e1, e2, t1, t2, w1, w2, Try.f145, Try.underlying4, info4, Try.t4, Try.underlying115, info115, Try.t115, Try.underlying190, info190, Try.t190, Try.underlying191, info191, Try.t191, Try.underlying198, info198, Try.t198, Try.underlying216, info216, Try.t216, Try.underlying218, info218, Try.t218]

theorem left_call (n y : Nat) (σ : St) (h1 : n < 18446744073709551616) (h2 : 0 < y) (h3 : y < 18446744073709551616) : DCall Try.prog 126 [.agg ⟨[.int .u64 0, .int .u64 n]⟩, .int .u64 y] σ (.ret (.int .u64 ((n % y : Nat) : Int))) σ [] := by
  have e0 : ¬ (y : Int) = 0 := by omega
  have z : Int.tmod 0 (y : Int) = 0 := Int.zero_tmod _
  refine pure_call (enter (p := q8) Try.func126 rfl stat126 ?_) rfl
  simp only [go_sem, Nat.reducePow, Nat.reduceDiv, Nat.reduceMod, Nat.reduceAdd, Nat.reduceSub, Nat.reduceMul, Nat.reduceLeDiff, Nat.reduceLT, Nat.reduceEqDiff, reduceCtorEq, reduceIte, reduceDIte, if_pos rfl, Int.reduceLT, Int.reduceLE, Int.reduceEq, Int.reduceNeg, Int.reduceAdd, Int.reduceSub, Int.reduceMul, Int.reduceToNat, opLen, callW, q8, p8, p7, p6, p5, p4, p3, p2, p1, Try.f126, Try.underlying4, info4, Try.t4, Try.underlying115, info115, Try.t115, Try.underlying190, info190, Try.t190, Try.underlying191, info191, Try.t191, Try.underlying198, info198, Try.t198, body144]
  refine enter (p := q8) Try.func144 rfl stat144 ?_
  simp only [go_sem, Nat.reducePow, Nat.reduceDiv, Nat.reduceMod, Nat.reduceAdd, Nat.reduceSub, Nat.reduceMul, Nat.reduceLeDiff, Nat.reduceLT, Nat.reduceEqDiff, reduceCtorEq, reduceIte, reduceDIte, if_pos rfl, Int.reduceLT, Int.reduceLE, Int.reduceEq, Int.reduceNeg, Int.reduceAdd, Int.reduceSub, Int.reduceMul, Int.reduceToNat, opLen, callW, q8, p8, p7, p6, p5, p4, p3, p2, p1, e0, z, Try.f144, Try.underlying4, info4, Try.t4, Try.underlying115, info115, Try.t115, Try.underlying190, info190, Try.t190, Try.underlying191, info191, Try.t191, Try.underlying198, info198, Try.t198, body145]
  refine .of (div64_call _ _ _ h1 h2 h3) ?_
  simp only [go_sem, Nat.reducePow, Nat.reduceDiv, Nat.reduceMod, Nat.reduceAdd, Nat.reduceSub, Nat.reduceMul, Nat.reduceLeDiff, Nat.reduceLT, Nat.reduceEqDiff, reduceCtorEq, reduceIte, reduceDIte, if_pos rfl, Int.reduceLT, Int.reduceLE, Int.reduceEq, Int.reduceNeg, Int.reduceAdd, Int.reduceSub, Int.reduceMul, Int.reduceToNat, opLen, Try.underlying4, info4, Try.t4, Try.underlying115, info115, Try.t115, Try.underlying190, info190, Try.t190, Try.underlying191, info191, Try.t191, Try.underlying198, info198, Try.t198]

theorem by_call (n y : Nat) (σ : St) (h1 : n < 18446744073709551616) (h2 : 0 < y) (h3 : y < 18446744073709551616) : DCall Try.prog 127 [.agg ⟨[.int .u64 0, .int .u64 n]⟩, .int .u64 y] σ (.ret (.tuple ⟨[.int .u64 ((n / y : Nat) : Int), .int .u64 ((n % y : Nat) : Int)]⟩)) σ [] := by
  have e0 : (0 : Int) < y := by omega
  refine pure_call (enter (p := q8) Try.func127 rfl stat127 ?_) rfl
  simp only [go_sem, Nat.reducePow, Nat.reduceDiv, Nat.reduceMod, Nat.reduceAdd, Nat.reduceSub, Nat.reduceMul, Nat.reduceLeDiff, Nat.reduceLT, Nat.reduceEqDiff, reduceCtorEq, reduceIte, reduceDIte, if_pos rfl, Int.reduceLT, Int.reduceLE, Int.reduceEq, Int.reduceNeg, Int.reduceAdd, Int.reduceSub, Int.reduceMul, Int.reduceToNat, opLen, callW, q8, p8, p7, p6, p5, p4, p3, p2, p1, e0, Try.f127, Try.underlying4, info4, Try.t4, Try.underlying115, info115, Try.t115, Try.underlying190, info190, Try.t190, Try.underlying191, info191, Try.t191, Try.underlying198, info198, Try.t198, body91, body145]
  refine .of (div64_call _ _ _ h1 h2 h3) ?_
  simp only [go_sem, Nat.reducePow, Nat.reduceDiv, Nat.reduceMod, Nat.reduceAdd, Nat.reduceSub, Nat.reduceMul, Nat.reduceLeDiff, Nat.reduceLT, Nat.reduceEqDiff, reduceCtorEq, reduceIte, reduceDIte, if_pos rfl, Int.reduceLT, Int.reduceLE, Int.reduceEq, Int.reduceNeg, Int.reduceAdd, Int.reduceSub, Int.reduceMul, Int.reduceToNat, opLen, Try.underlying4, info4, Try.t4, Try.underlying115, info115, Try.t115, Try.underlying190, info190, Try.t190, Try.underlying191, info191, Try.t191, Try.underlying198, info198, Try.t198]

theorem wide_low {n : Nat} (h : n < 18446744073709551616) : wideV n = .agg ⟨[.int .u64 0, .int .u64 n]⟩ := by
  have e1 : (n : Int) / 18446744073709551616 = 0 := by omega
  have e3 : (n : Int) % 18446744073709551616 = n := by omega
  unfold wideV
  rw [e1, e3]

set_option maxRecDepth 20000 in
/-- What a sum is worked out of, in words. -/
theorem added_walk (an ad bn bd G X Y H T Z : Nat) (σ : St) (hT : (X + Y) / H = T) (hZ : ad / G * (bd / H) = Z) (hG : Nat.gcd ad bd = G) (hX : an * (bd / G) = X) (hY : bn * (ad / G) = Y) (hH : Nat.gcd G (X + Y) = H) (h1 : an < 9223372036854775808) (h2 : 0 < ad) (h3 : ad < 9223372036854775808) (h4 : bn < 9223372036854775808) (h5 : 0 < bd) (h6 : bd < 9223372036854775808)
    (h7 : X + Y < 9223372036854775808) (h8 : Z < 9223372036854775808) (h9 : X + Y = 0 → Z = 1) :
    callX Try.prog 94 [.agg ⟨[.int .i64 an, .int .i64 ad]⟩, .agg ⟨[.int .i64 bn, .int .i64 bd]⟩] σ (Ans σ (.agg ⟨[.int .i64 T, .int .i64 Z]⟩)) := by
  have g0 : 0 < G := hG ▸ Nat.gcd_pos_of_pos_left _ h2
  have g1 : G ≤ ad := hG ▸ Nat.gcd_le_left _ h2
  have g2 : ¬ (G : Int) = 0 := by omega
  have k0 : 0 < H := hH ▸ Nat.gcd_pos_of_pos_left _ g0
  have k1 : H ≤ G := hH ▸ Nat.gcd_le_left _ g0
  have k2 : ¬ (H : Int) = 0 := by omega
  have f1 : ¬ (an : Int) < 0 := by omega
  have f2 : ¬ (bn : Int) < 0 := by omega
  have w1 : an < 18446744073709551616 := by omega
  have w2 : bn < 18446744073709551616 := by omega
  have w3 : ad < 18446744073709551616 := by omega
  have w4 : bd < 18446744073709551616 := by omega
  have d1 : (bd : Int).tdiv G = ((bd / G : Nat) : Int) := by rw [Int.tdiv_eq_ediv_of_nonneg (by omega)]; rfl
  have d2 : (ad : Int).tdiv G = ((ad / G : Nat) : Int) := by rw [Int.tdiv_eq_ediv_of_nonneg (by omega)]; rfl
  have l1 : bd / G ≤ bd := Nat.div_le_self _ _
  have l2 : ad / G ≤ ad := Nat.div_le_self _ _
  have w5 : bd / G < 18446744073709551616 := by omega
  have w6 : ad / G < 18446744073709551616 := by omega
  have oN : ∀ k : Nat, k < 18446744073709551616 → okU (k : Int) = true := fun k hk => by simp [okU]; omega
  have oI : ∀ k : Nat, k < 9223372036854775808 → okI (k : Int) = true := fun k hk => by simp [okI]; omega
  have u1 := oN _ w1
  have u2 := oN _ w2
  have u3 := oN _ w3
  have u4 := oN _ w4
  have u5 := oN _ w5
  have u6 := oN _ w6
  have i1 := oI _ h1
  have i2 := oI _ h4
  have c1 : (Int.gcd (ad : Int) (bd : Int) : Int) = (G : Int) := by rw [Int.gcd_natCast_natCast, hG]
  have n1 : ((an : Int).natAbs : Int) = an := by omega
  have n2 : ((bn : Int).natAbs : Int) = bn := by omega
  have x1 : (an : Int) * ((bd / G : Nat) : Int) = (X : Int) := by rw [← Int.natCast_mul, hX]
  have y1 : (bn : Int) * ((ad / G : Nat) : Int) = (Y : Int) := by rw [← Int.natCast_mul, hY]
  have vx := wide_low (n := X) (by omega)
  have vy := wide_low (n := Y) (by omega)
  refine Ans.of (enter (p := q8) Try.func94 rfl stat94 ?_)
  simp only [go_sem, Nat.reducePow, Nat.reduceDiv, Nat.reduceMod, Nat.reduceAdd, Nat.reduceSub, Nat.reduceMul, Nat.reduceLeDiff, Nat.reduceLT, Nat.reduceEqDiff, reduceCtorEq, reduceIte, reduceDIte, if_pos rfl, Int.reduceLT, Int.reduceLE, Int.reduceEq, Int.reduceNeg, Int.reduceAdd, Int.reduceSub, Int.reduceMul, Int.reduceToNat, opLen, callW, q8, p8, p7, p6, p5, p4, p3, p2, p1, Try.f94, vx, vy, n1, n2, c1, d1, d2, x1, y1, g2, f1, f2, w1, w2, w3, w4, w5, w6, u1, u2, u3, u4, u5, u6, i1, i2, Try.underlying2, info2, Try.t2, Try.underlying4, info4, Try.t4, Try.underlying24, info24, Try.t24, Try.underlying28, info28, Try.t28, Try.underlying115, info115, Try.t115, Try.underlying190, info190, Try.t190, Try.underlying191, info191, Try.t191, Try.underlying198, info198, Try.t198, body77, body78, body91, body119, body120, body122, body124, body125, body126, body127]
  have m1 : (X + Y) % G ≤ X + Y := Nat.mod_le _ _
  have u7 := oN _ (show (X + Y) % G < 18446744073709551616 by omega)
  have u8 := oN _ (show G < 18446744073709551616 by omega)
  have c2 : (Int.gcd (G : Int) (((X + Y) % G : Nat) : Int) : Int) = (H : Int) := by
    rw [Int.gcd_natCast_natCast, ← hH, Nat.gcd_comm G, ← Nat.gcd_rec, Nat.gcd_comm]
  have d3 : (bd : Int).tdiv H = ((bd / H : Nat) : Int) := by rw [Int.tdiv_eq_ediv_of_nonneg (by omega)]; rfl
  have l3 : bd / H ≤ bd := Nat.div_le_self _ _
  have w7 : bd / H < 18446744073709551616 := by omega
  have u9 := oN _ w7
  have z1 : ((ad / G : Nat) : Int) * ((bd / H : Nat) : Int) = (Z : Int) := by rw [← Int.natCast_mul, hZ]
  have vz := wide_low (n := Z) (by omega)
  have l4 : T ≤ X + Y := hT ▸ Nat.div_le_self _ _
  refine .of (plus_call X Y _ (by omega)) ?_
  simp only [go_sem, Nat.reducePow, Nat.reduceDiv, Nat.reduceMod, Nat.reduceAdd, Nat.reduceSub, Nat.reduceMul, Nat.reduceLeDiff, Nat.reduceLT, Nat.reduceEqDiff, reduceCtorEq, reduceIte, reduceDIte, if_pos rfl, Int.reduceLT, Int.reduceLE, Int.reduceEq, Int.reduceNeg, Int.reduceAdd, Int.reduceSub, Int.reduceMul, Int.reduceToNat, opLen, callW, q8, p8, p7, p6, p5, p4, p3, p2, p1, f1, f2, Try.underlying2, info2, Try.t2, Try.underlying4, info4, Try.t4, Try.underlying24, info24, Try.t24, Try.underlying28, info28, Try.t28, Try.underlying115, info115, Try.t115, Try.underlying190, info190, Try.t190, Try.underlying191, info191, Try.t191, Try.underlying198, info198, Try.t198, body77, body78, body91, body119, body120, body122, body124, body125, body126, body127]
  refine .of (left_call (X + Y) G _ (by omega) g0 (by omega)) ?_
  simp only [go_sem, Nat.reducePow, Nat.reduceDiv, Nat.reduceMod, Nat.reduceAdd, Nat.reduceSub, Nat.reduceMul, Nat.reduceLeDiff, Nat.reduceLT, Nat.reduceEqDiff, reduceCtorEq, reduceIte, reduceDIte, if_pos rfl, Int.reduceLT, Int.reduceLE, Int.reduceEq, Int.reduceNeg, Int.reduceAdd, Int.reduceSub, Int.reduceMul, Int.reduceToNat, opLen, callW, q8, p8, p7, p6, p5, p4, p3, p2, p1, u7, u8, c2, Try.underlying2, info2, Try.t2, Try.underlying4, info4, Try.t4, Try.underlying24, info24, Try.t24, Try.underlying28, info28, Try.t28, Try.underlying115, info115, Try.t115, Try.underlying190, info190, Try.t190, Try.underlying191, info191, Try.t191, Try.underlying198, info198, Try.t198, body77, body78, body91, body119, body120, body122, body124, body125, body126, body127]
  refine .of (by_call (X + Y) H _ (by omega) k0 (by omega)) ?_
  simp only [go_sem, Nat.reducePow, Nat.reduceDiv, Nat.reduceMod, Nat.reduceAdd, Nat.reduceSub, Nat.reduceMul, Nat.reduceLeDiff, Nat.reduceLT, Nat.reduceEqDiff, reduceCtorEq, reduceIte, reduceDIte, if_pos rfl, Int.reduceLT, Int.reduceLE, Int.reduceEq, Int.reduceNeg, Int.reduceAdd, Int.reduceSub, Int.reduceMul, Int.reduceToNat, opLen, callW, q8, p8, p7, p6, p5, p4, p3, p2, p1, d2, d3, g2, k2, w3, w4, w6, w7, u6, u9, z1, vz, Try.underlying2, info2, Try.t2, Try.underlying4, info4, Try.t4, Try.underlying24, info24, Try.t24, Try.underlying28, info28, Try.t28, Try.underlying115, info115, Try.t115, Try.underlying190, info190, Try.t190, Try.underlying191, info191, Try.t191, Try.underlying198, info198, Try.t198, body77, body78, body91, body119, body120, body122, body124, body125, body126, body127]
  have fl := flat191
  by_cases hz : X + Y = 0
  · have hT0 : T = 0 := by rw [← hT, hz, Nat.zero_div]
    simp only [go_sem, Nat.reducePow, Nat.reduceDiv, Nat.reduceMod, Nat.reduceAdd, Nat.reduceSub, Nat.reduceMul, Nat.reduceLeDiff, Nat.reduceLT, Nat.reduceEqDiff, reduceCtorEq, reduceIte, reduceDIte, if_pos rfl, Int.reduceLT, Int.reduceLE, Int.reduceEq, Int.reduceNeg, Int.reduceAdd, Int.reduceSub, Int.reduceMul, Int.reduceToNat, opLen, callW, q8, p8, p7, p6, p5, p4, p3, p2, p1, eqCells, fl, hz, h9 hz, hT0, Nat.zero_div, Int.natCast_zero, Int.natCast_one, Try.underlying2, info2, Try.t2, Try.underlying4, info4, Try.t4, Try.underlying24, info24, Try.t24, Try.underlying28, info28, Try.t28, Try.underlying115, info115, Try.t115, Try.underlying190, info190, Try.t190, Try.underlying191, info191, Try.t191, Try.underlying198, info198, Try.t198, body77, body78, body91, body119, body120, body122, body124, body125, body126, body127]
  · have ez : (((X + Y : Nat) : Int) == 0) = false := by simp; omega
    simp only [go_sem, Nat.reducePow, Nat.reduceDiv, Nat.reduceMod, Nat.reduceAdd, Nat.reduceSub, Nat.reduceMul, Nat.reduceLeDiff, Nat.reduceLT, Nat.reduceEqDiff, reduceCtorEq, reduceIte, reduceDIte, if_pos rfl, Int.reduceLT, Int.reduceLE, Int.reduceEq, Int.reduceNeg, Int.reduceAdd, Int.reduceSub, Int.reduceMul, Int.reduceToNat, opLen, callW, q8, p8, p7, p6, p5, p4, p3, p2, p1, eqCells, fl, ez, hT, Try.underlying2, info2, Try.t2, Try.underlying4, info4, Try.t4, Try.underlying24, info24, Try.t24, Try.underlying28, info28, Try.t28, Try.underlying115, info115, Try.t115, Try.underlying190, info190, Try.t190, Try.underlying191, info191, Try.t191, Try.underlying198, info198, Try.t198, body77, body78, body91, body119, body120, body122, body124, body125, body126, body127]
    refine .of (told_call _ _ false _ (by omega) (by omega) (by omega) (by omega)) ?_
    simp only [go_sem, Nat.reducePow, Nat.reduceDiv, Nat.reduceMod, Nat.reduceAdd, Nat.reduceSub, Nat.reduceMul, Nat.reduceLeDiff, Nat.reduceLT, Nat.reduceEqDiff, reduceCtorEq, reduceIte, reduceDIte, if_pos rfl, Int.reduceLT, Int.reduceLE, Int.reduceEq, Int.reduceNeg, Int.reduceAdd, Int.reduceSub, Int.reduceMul, Int.reduceToNat, opLen, Try.underlying2, info2, Try.t2, Try.underlying4, info4, Try.t4, Try.underlying24, info24, Try.t24, Try.underlying28, info28, Try.t28, Try.underlying115, info115, Try.t115, Try.underlying190, info190, Try.t190, Try.underlying191, info191, Try.t191, Try.underlying198, info198, Try.t198]

/-- Fractions by one number, in words. -/
def fracV (a r : Nat) : Value := .agg ⟨[.int .i64 (fN a r : Int), .int .i64 (fD a r : Int)]⟩

theorem okR_frac {a r : Nat} (hr : 0 < r) (ha : a < 9223372036854775808) (hr2 : r < 9223372036854775808) : okR (fN a r : Int) (fD a r : Int) = true := by
  have h1 := fN_le a r
  have h2 := fD_le a r
  have h3 := fD_pos (a := a) hr
  have h4 := f_coprime (a := a) hr
  simp only [okR, okI, Bool.and_eq_true, decide_eq_true_eq, chk, Int.gcd_natCast_natCast]
  refine ⟨⟨⟨?_, ?_⟩, ⟨?_, ?_⟩⟩, ?_, ?_, h4⟩ <;> omega

theorem added_call (a b r : Nat) (σ : St) (hr : 0 < r) (hr2 : r < 9223372036854775808) (hab : a + b < 9223372036854775808) :
    callX Try.prog 94 [fracV a r, fracV b r] σ (Ans σ (fracV (a + b) r)) := by
  obtain ⟨s1, s2⟩ := sum_is (a := a) (b := b) hr
  have b1 := fN_le a r
  have b2 := fN_le b r
  have b3 := fD_le a r
  have b4 := fD_le b r
  have b5 := fD_le (a + b) r
  have b6 := sX_le (a := a) (b := b) hr
  have b7 := sY_le (a := a) (b := b) hr
  have h9 : sX a b r + sY a b r = 0 → fD a r / sG a b r * (fD b r / sH a b r) = 1 := fun h => by
    rw [s2]
    rw [h, Nat.zero_div] at s1
    have h0 : a + b = 0 := by have := fN_mul (a + b) r; rw [← s1, Nat.zero_mul] at this; exact this.symm
    rw [h0]
    unfold fD
    rw [Nat.gcd_zero_left]
    exact Nat.div_self hr
  have := added_walk (fN a r) (fD a r) (fN b r) (fD b r) (sG a b r) (sX a b r) (sY a b r) (sH a b r) _ _ σ rfl rfl rfl rfl rfl rfl (by omega) (fD_pos hr) (by omega) (by omega) (fD_pos hr) (by omega) (by omega) (by rw [s2]; omega) h9
  rw [s1, s2] at this
  exact this

theorem two1_call {p q s : Nat} {a b r : Nat} {σ : St} (hp : p < σ.next) (hq : q < σ.next) (hs : s < σ.next) (gp : σ.get p = some (.cells [.int .i64 (fN a r : Int), .int .i64 (fD a r : Int)] false)) (gq : σ.get q = some (.cells [.int .i64 (fN b r : Int), .int .i64 (fD b r : Int)] false))
    (gs : σ.get s = some (.cells [.func (.func 94) ⟨[]⟩ ⟨[]⟩] false)) (hr : 0 < r) (hr2 : r < 9223372036854775808) (hab : a + b < 9223372036854775808) :
    callX Try.prog 123 [.pointer (some ⟨p, 0, none⟩), .pointer (some ⟨q, 0, none⟩), .pointer (some ⟨s, 0, none⟩)] σ (Ans σ (.agg ⟨[.int .i64 (fN (a + b) r : Int), .int .i64 (fD (a + b) r : Int)]⟩)) := by
  have k1 := okR_frac (a := a) hr (by omega) hr2
  have k2 := okR_frac (a := b) hr (by omega) hr2
  simp only [okR, Bool.and_eq_true, decide_eq_true_eq] at k1 k2
  have ha := (added_call a b r · hr hr2 hab)
  simp only [fracV] at ha
  refine Ans.of (enter (p := q8) Try.func123 rfl stat123 ?_)
  simp only [go_sem, Nat.reducePow, Nat.reduceDiv, Nat.reduceMod, Nat.reduceAdd, Nat.reduceSub, Nat.reduceMul, Nat.reduceLeDiff, Nat.reduceLT, Nat.reduceEqDiff, reduceCtorEq, reduceIte, reduceDIte, if_pos rfl, Int.reduceLT, Int.reduceLE, Int.reduceEq, Int.reduceNeg, Int.reduceAdd, Int.reduceSub, Int.reduceMul, Int.reduceToNat, opLen, callW, q8, p8, p7, p6, p5, p4, p3, p2, p1, Try.f123, zerosN, gp, gq, gs, hp, hq, hs, Try.underlying2, info2, Try.t2, Try.underlying4, info4, Try.t4, Try.underlying22, info22, Try.t22, Try.underlying23, info23, Try.t23, Try.underlying24, info24, Try.t24, Try.underlying28, info28, Try.t28, Try.underlying115, info115, Try.t115, Try.underlying163, info163, Try.t163, body94, body118]
  refine .of (both_call _ _ _ _ _ _ (by simp only [go_sem, Nat.reducePow, Nat.reduceDiv, Nat.reduceMod, Nat.reduceAdd, Nat.reduceSub, Nat.reduceMul, Nat.reduceLeDiff, Nat.reduceLT, Nat.reduceEqDiff, reduceCtorEq, reduceIte, reduceDIte, if_pos rfl, Int.reduceLT, Int.reduceLE, Int.reduceEq, Int.reduceNeg, Int.reduceAdd, Int.reduceSub, Int.reduceMul, Int.reduceToNat, opLen]) (by simp only [go_sem, Nat.reducePow, Nat.reduceDiv, Nat.reduceMod, Nat.reduceAdd, Nat.reduceSub, Nat.reduceMul, Nat.reduceLeDiff, Nat.reduceLT, Nat.reduceEqDiff, reduceCtorEq, reduceIte, reduceDIte, if_pos rfl, Int.reduceLT, Int.reduceLE, Int.reduceEq, Int.reduceNeg, Int.reduceAdd, Int.reduceSub, Int.reduceMul, Int.reduceToNat, opLen]) k1.1.1 k1.1.2 k2.1.1 k2.1.2 k1.2 k2.2) ?_
  simp only [go_sem, Nat.reducePow, Nat.reduceDiv, Nat.reduceMod, Nat.reduceAdd, Nat.reduceSub, Nat.reduceMul, Nat.reduceLeDiff, Nat.reduceLT, Nat.reduceEqDiff, reduceCtorEq, reduceIte, reduceDIte, if_pos rfl, Int.reduceLT, Int.reduceLE, Int.reduceEq, Int.reduceNeg, Int.reduceAdd, Int.reduceSub, Int.reduceMul, Int.reduceToNat, opLen, callW, q8, p8, p7, p6, p5, p4, p3, p2, p1, gp, gq, gs, hp, hq, hs, Try.underlying2, info2, Try.t2, Try.underlying4, info4, Try.t4, Try.underlying22, info22, Try.t22, Try.underlying24, info24, Try.t24, Try.underlying28, info28, Try.t28, Try.underlying115, info115, Try.t115, Try.underlying163, info163, Try.t163, body94, body118]
  refine callX.ret (ha _) ?_
  intro σ' l hl ⟨h1, h2, h3⟩
  simp only [St.next_new] at h1 h2 h3
  have g0 := h3 σ.next (by omega)
  simp only [go_sem, Nat.reducePow, Nat.reduceDiv, Nat.reduceMod, Nat.reduceAdd, Nat.reduceSub, Nat.reduceMul, Nat.reduceLeDiff, Nat.reduceLT, Nat.reduceEqDiff, reduceCtorEq, reduceIte, reduceDIte, if_pos rfl, Int.reduceLT, Int.reduceLE, Int.reduceEq, Int.reduceNeg, Int.reduceAdd, Int.reduceSub, Int.reduceMul, Int.reduceToNat, opLen] at g0
  simp only [go_sem, Nat.reducePow, Nat.reduceDiv, Nat.reduceMod, Nat.reduceAdd, Nat.reduceSub, Nat.reduceMul, Nat.reduceLeDiff, Nat.reduceLT, Nat.reduceEqDiff, reduceCtorEq, reduceIte, reduceDIte, if_pos rfl, Int.reduceLT, Int.reduceLE, Int.reduceEq, Int.reduceNeg, Int.reduceAdd, Int.reduceSub, Int.reduceMul, Int.reduceToNat, opLen, g0, Try.underlying2, info2, Try.t2, Try.underlying4, info4, Try.t4, Try.underlying22, info22, Try.t22, Try.underlying24, info24, Try.t24, Try.underlying28, info28, Try.t28, Try.underlying115, info115, Try.t115, Try.underlying163, info163, Try.t163]
  intro c hc
  rcases hc with hc | hc
  · have := h1 c hc; omega
  · omega

theorem addF_call (a b r : Nat) (σ : St) (hr : 0 < r) (hr2 : r < 9223372036854775808) (hab : a + b < 9223372036854775808) :
    DCall Try.prog 64 [.agg ⟨[.int .i64 (fN a r : Int), .int .i64 (fD a r : Int)]⟩, .agg ⟨[.int .i64 (fN b r : Int), .int .i64 (fD b r : Int)]⟩] σ (.ret (.tuple ⟨[.agg ⟨[.int .i64 (fN (a + b) r : Int), .int .i64 (fD (a + b) r : Int)]⟩, .int .i64 0]⟩)) σ [] := by
  refine pure_call (enter (p := q8) Try.func64 rfl stat64 ?_) rfl
  simp only [go_sem, Nat.reducePow, Nat.reduceDiv, Nat.reduceMod, Nat.reduceAdd, Nat.reduceSub, Nat.reduceMul, Nat.reduceLeDiff, Nat.reduceLT, Nat.reduceEqDiff, reduceCtorEq, reduceIte, reduceDIte, if_pos rfl, Int.reduceLT, Int.reduceLE, Int.reduceEq, Int.reduceNeg, Int.reduceAdd, Int.reduceSub, Int.reduceMul, Int.reduceToNat, opLen, callW, q8, p8, p7, p6, p5, p4, p3, p2, p1, Try.f64, Try.underlying2, info2, Try.t2, Try.underlying4, info4, Try.t4, Try.underlying22, info22, Try.t22, Try.underlying24, info24, Try.t24, Try.underlying28, info28, Try.t28, Try.underlying57, info57, Try.t57, Try.underlying115, info115, Try.t115, Try.underlying157, info157, Try.t157, Try.underlying163, info163, Try.t163, body93, body94]
  refine enter (p := q8) Try.func93 rfl stat93 ?_
  simp only [go_sem, Nat.reducePow, Nat.reduceDiv, Nat.reduceMod, Nat.reduceAdd, Nat.reduceSub, Nat.reduceMul, Nat.reduceLeDiff, Nat.reduceLT, Nat.reduceEqDiff, reduceCtorEq, reduceIte, reduceDIte, if_pos rfl, Int.reduceLT, Int.reduceLE, Int.reduceEq, Int.reduceNeg, Int.reduceAdd, Int.reduceSub, Int.reduceMul, Int.reduceToNat, opLen, callW, q8, p8, p7, p6, p5, p4, p3, p2, p1, Try.f93, Try.underlying2, info2, Try.t2, Try.underlying4, info4, Try.t4, Try.underlying22, info22, Try.t22, Try.underlying24, info24, Try.t24, Try.underlying28, info28, Try.t28, Try.underlying57, info57, Try.t57, Try.underlying115, info115, Try.t115, Try.underlying157, info157, Try.t157, Try.underlying161, info161, Try.t161, Try.underlying163, info163, Try.t163, body89, body123]
  refine .of (try_rat body123 (two1_call (a := a) (b := b) (r := r) ?_ ?_ ?_ ?_ ?_ ?_ hr hr2 hab)) ?_
  · simp only [go_sem, Nat.reducePow, Nat.reduceDiv, Nat.reduceMod, Nat.reduceAdd, Nat.reduceSub, Nat.reduceMul, Nat.reduceLeDiff, Nat.reduceLT, Nat.reduceEqDiff, reduceCtorEq, reduceIte, reduceDIte, if_pos rfl, Int.reduceLT, Int.reduceLE, Int.reduceEq, Int.reduceNeg, Int.reduceAdd, Int.reduceSub, Int.reduceMul, Int.reduceToNat, opLen]
  · simp only [go_sem, Nat.reducePow, Nat.reduceDiv, Nat.reduceMod, Nat.reduceAdd, Nat.reduceSub, Nat.reduceMul, Nat.reduceLeDiff, Nat.reduceLT, Nat.reduceEqDiff, reduceCtorEq, reduceIte, reduceDIte, if_pos rfl, Int.reduceLT, Int.reduceLE, Int.reduceEq, Int.reduceNeg, Int.reduceAdd, Int.reduceSub, Int.reduceMul, Int.reduceToNat, opLen]
  · simp only [go_sem, Nat.reducePow, Nat.reduceDiv, Nat.reduceMod, Nat.reduceAdd, Nat.reduceSub, Nat.reduceMul, Nat.reduceLeDiff, Nat.reduceLT, Nat.reduceEqDiff, reduceCtorEq, reduceIte, reduceDIte, if_pos rfl, Int.reduceLT, Int.reduceLE, Int.reduceEq, Int.reduceNeg, Int.reduceAdd, Int.reduceSub, Int.reduceMul, Int.reduceToNat, opLen]
  · simp only [go_sem, Nat.reducePow, Nat.reduceDiv, Nat.reduceMod, Nat.reduceAdd, Nat.reduceSub, Nat.reduceMul, Nat.reduceLeDiff, Nat.reduceLT, Nat.reduceEqDiff, reduceCtorEq, reduceIte, reduceDIte, if_pos rfl, Int.reduceLT, Int.reduceLE, Int.reduceEq, Int.reduceNeg, Int.reduceAdd, Int.reduceSub, Int.reduceMul, Int.reduceToNat, opLen]
  · simp only [go_sem, Nat.reducePow, Nat.reduceDiv, Nat.reduceMod, Nat.reduceAdd, Nat.reduceSub, Nat.reduceMul, Nat.reduceLeDiff, Nat.reduceLT, Nat.reduceEqDiff, reduceCtorEq, reduceIte, reduceDIte, if_pos rfl, Int.reduceLT, Int.reduceLE, Int.reduceEq, Int.reduceNeg, Int.reduceAdd, Int.reduceSub, Int.reduceMul, Int.reduceToNat, opLen]
  · simp only [go_sem, Nat.reducePow, Nat.reduceDiv, Nat.reduceMod, Nat.reduceAdd, Nat.reduceSub, Nat.reduceMul, Nat.reduceLeDiff, Nat.reduceLT, Nat.reduceEqDiff, reduceCtorEq, reduceIte, reduceDIte, if_pos rfl, Int.reduceLT, Int.reduceLE, Int.reduceEq, Int.reduceNeg, Int.reduceAdd, Int.reduceSub, Int.reduceMul, Int.reduceToNat, opLen]
  · simp only [go_sem, Nat.reducePow, Nat.reduceDiv, Nat.reduceMod, Nat.reduceAdd, Nat.reduceSub, Nat.reduceMul, Nat.reduceLeDiff, Nat.reduceLT, Nat.reduceEqDiff, reduceCtorEq, reduceIte, reduceDIte, if_pos rfl, Int.reduceLT, Int.reduceLE, Int.reduceEq, Int.reduceNeg, Int.reduceAdd, Int.reduceSub, Int.reduceMul, Int.reduceToNat, opLen, Try.underlying2, info2, Try.t2, Try.underlying4, info4, Try.t4, Try.underlying22, info22, Try.t22, Try.underlying24, info24, Try.t24, Try.underlying28, info28, Try.t28, Try.underlying57, info57, Try.t57, Try.underlying115, info115, Try.t115, Try.underlying157, info157, Try.t157, Try.underlying161, info161, Try.t161, Try.underlying163, info163, Try.t163]
end Go.Ab

set_option linter.unusedSimpArgs false
set_option linter.unusedVariables false
namespace Go.Ab
open Go.Proofs

def Q0 : QV := ⟨fun _ => none, 0, fun _ => none, 0, [], 0⟩

theorem und2' : (cP Try.prog).T.und 2 = some (.int .i64) := (cx_und 2).trans Try.underlying2

theorem may_call (f r m : Int) (σ : St) (h : (0 ≤ f ∧ f ≤ 2147483647) ∧ (1 ≤ r ∧ r ≤ 1000000) ∧ (0 ≤ m ∧ m ≤ 1000000000)) : DCall Try.prog 59 [.int .i64 f, .int .i64 r, .int .i64 m] σ (.ret (.bool true)) σ [] := by
  obtain ⟨⟨h1, h2⟩, ⟨h3, h4⟩, h5, h6⟩ := h
  refine pure_call (enter (p := q8) Try.func59 rfl stat59 ?_) rfl
  simp only [go_sem, Nat.reducePow, Nat.reduceDiv, Nat.reduceMod, Nat.reduceAdd, Nat.reduceSub, Nat.reduceMul, Nat.reduceLeDiff, Nat.reduceLT, Nat.reduceEqDiff, reduceCtorEq, reduceIte, reduceDIte, if_pos rfl, Int.reduceLT, Int.reduceLE, Int.reduceEq, Int.reduceNeg, Int.reduceAdd, Int.reduceSub, Int.reduceMul, Int.reduceToNat, opLen, callW, q8, p8, p7, p6, p5, p4, p3, p2, p1, Try.f59, Try.underlying2, info2, Try.t2, Try.underlying4, info4, Try.t4, body60]
  refine .of (within_call _ _ _ _) ?_
  simp only [go_sem, Nat.reducePow, Nat.reduceDiv, Nat.reduceMod, Nat.reduceAdd, Nat.reduceSub, Nat.reduceMul, Nat.reduceLeDiff, Nat.reduceLT, Nat.reduceEqDiff, reduceCtorEq, reduceIte, reduceDIte, if_pos rfl, Int.reduceLT, Int.reduceLE, Int.reduceEq, Int.reduceNeg, Int.reduceAdd, Int.reduceSub, Int.reduceMul, Int.reduceToNat, opLen, callW, q8, p8, p7, p6, p5, p4, p3, p2, p1, h1, h2, Try.underlying2, info2, Try.t2, Try.underlying4, info4, Try.t4, body60]
  refine .of (within_call _ _ _ _) ?_
  simp only [go_sem, Nat.reducePow, Nat.reduceDiv, Nat.reduceMod, Nat.reduceAdd, Nat.reduceSub, Nat.reduceMul, Nat.reduceLeDiff, Nat.reduceLT, Nat.reduceEqDiff, reduceCtorEq, reduceIte, reduceDIte, if_pos rfl, Int.reduceLT, Int.reduceLE, Int.reduceEq, Int.reduceNeg, Int.reduceAdd, Int.reduceSub, Int.reduceMul, Int.reduceToNat, opLen, callW, q8, p8, p7, p6, p5, p4, p3, p2, p1, h3, h4, Try.underlying2, info2, Try.t2, Try.underlying4, info4, Try.t4, body60]
  refine .of (within_call _ _ _ _) ?_
  simp only [go_sem, Nat.reducePow, Nat.reduceDiv, Nat.reduceMod, Nat.reduceAdd, Nat.reduceSub, Nat.reduceMul, Nat.reduceLeDiff, Nat.reduceLT, Nat.reduceEqDiff, reduceCtorEq, reduceIte, reduceDIte, if_pos rfl, Int.reduceLT, Int.reduceLE, Int.reduceEq, Int.reduceNeg, Int.reduceAdd, Int.reduceSub, Int.reduceMul, Int.reduceToNat, opLen, callW, q8, p8, p7, p6, p5, p4, p3, p2, p1, h5, h6, Try.underlying2, info2, Try.t2, Try.underlying4, info4, Try.t4, body60]

theorem qnone_call {σ : St} {q fm pm h : Nat} (gq : σ.get q = some (.cells [.pointer (some ⟨h, 0, none⟩), .map (some fm), .map (some pm)] false)) : DCall Try.prog 58 [.pointer (some ⟨q, 0, none⟩)] σ (.ret (.bool false)) σ [] := by
  refine pure_call (enter (p := q8) Try.func58 rfl stat58 ?_) rfl
  simp only [go_sem, Nat.reducePow, Nat.reduceDiv, Nat.reduceMod, Nat.reduceAdd, Nat.reduceSub, Nat.reduceMul, Nat.reduceLeDiff, Nat.reduceLT, Nat.reduceEqDiff, reduceCtorEq, reduceIte, reduceDIte, if_pos rfl, Int.reduceLT, Int.reduceLE, Int.reduceEq, Int.reduceNeg, Int.reduceAdd, Int.reduceSub, Int.reduceMul, Int.reduceToNat, opLen, callW, q8, p8, p7, p6, p5, p4, p3, p2, p1, gq, Option.isNone_some, Try.f58, Try.underlying4, info4, Try.t4, Try.underlying26, info26, Try.t26, Try.underlying50, info50, Try.t50, Try.underlying118, info118, Try.t118, Try.underlying119, info119, Try.t119, Try.underlying120, info120, Try.t120, Try.underlying121, info121, Try.t121]

def AddR (σ : St) (b : QB) (Q : QV) (flow rate room now : Int) (σ' : St) (l : Log) : Prop :=
  (∀ c ∈ l, c ∈ b.core ∨ σ.next ≤ c) ∧ ∃ blk, σ.next ≤ blk ∧ QAt σ' b { Q with F := updF Q.F flow (some ⟨blk, rate, room, 0, now, 1⟩), nf := Q.nf + 1 }

theorem qadd_state {σ : St} {b : QB} {Q : QV} (H : QAt σ b Q) {flow rate room now : Int} {es : List MapEntry} {ck : Nat} (gf : σ.get b.fm = some (.map es ck)) (hki : KI es) (hlk : ∀ k, lkV es k = (Q.F k).map ptrOf) (hlen : es.length = Q.nf) (hF : Q.F flow = none) :
    AddR σ b Q flow rate room now ((σ.new (.cells [.int .i64 flow, .int .i64 rate, .int .i64 room, .int .i64 0, .int .i64 now, .int .i64 1] false)).set b.fm (.map (pushE es ⟨.int .i64 flow, .pointer (some ⟨σ.next, 0, none⟩), ck⟩) (ck + 1))) [b.fm] := by
  have hfm : b.fm < σ.next := H.lt _ (by simp [QB.core])
  have ne := H.ne
  have hno : lkV es flow = none := by rw [hlk, hF]; rfl
  refine ⟨fun c hc => .inl (by simp at hc; simp [QB.core, hc]), σ.next, Nat.le_refl _, ?_⟩
  generalize hσ : (σ.new (.cells [.int .i64 flow, .int .i64 rate, .int .i64 room, .int .i64 0, .int .i64 now, .int .i64 1] false)).set b.fm (.map (pushE es ⟨.int .i64 flow, .pointer (some ⟨σ.next, 0, none⟩), ck⟩) (ck + 1)) = σ'
  have nx : σ'.next = σ.next + 1 := by rw [← hσ]; rfl
  have g : ∀ c, c < σ.next → c ≠ b.fm → σ'.get c = σ.get c := fun c h1 h2 => by rw [← hσ, St.get_set, if_neg (Ne.symm h2), St.get_new, if_neg (by omega)]
  have gn : σ'.get σ.next = some (.cells [.int .i64 flow, .int .i64 rate, .int .i64 room, .int .i64 0, .int .i64 now, .int .i64 1] false) := by rw [← hσ, St.get_set, if_neg (by omega), St.get_new, if_pos rfl]
  have gm : σ'.get b.fm = some (.map (pushE es ⟨.int .i64 flow, .pointer (some ⟨σ.next, 0, none⟩), ck⟩) (ck + 1)) := by rw [← hσ, St.get_set, if_pos rfl]
  have lt := H.lt
  exact { gq := (g _ (lt _ (by simp [QB.core])) ne.q_fm).trans H.gq
          hx := H.hx.keep (by omega) fun c hc => g c (H.hx.lt c hc) (by
            simp only [List.mem_cons] at hc
            rcases hc with rfl | rfl | hc
            · exact ne.fm_h.symm
            · exact ne.fm_m.symm
            · exact (ne.A c hc).2.1)
          mf := ⟨_, _, gm, pushV_KI hki hno, fun k => by
            rw [pushV_lk hki hno]
            show _ = (updF Q.F flow _ k).map ptrOf
            by_cases e : k = flow
            · subst e; rw [if_pos rfl, updF_same]; rfl
            · rw [if_neg e, updF_other _ _ e, hlk], by rw [pushV_length, hlen]⟩
          mp := H.mp.keep (g _ (lt _ (by simp [QB.core])) ne.fm_pm.symm)
          fl := fun k x hx => by
            have hx : updF Q.F flow _ k = some x := hx
            by_cases e : k = flow
            · subst e
              rw [updF_same] at hx
              cases hx
              exact ⟨gn, by show σ.next < σ'.next; omega, fun hm => by have := lt _ hm; exact absurd this (Nat.lt_irrefl _)⟩
            · rw [updF_other _ _ e] at hx
              obtain ⟨a1, a2, a3⟩ := H.fl k x hx
              exact ⟨(g _ a2 fun e' => a3 (by simp [QB.core, e'])).trans a1, by omega, a3⟩
          inj := fun k k' x x' hx hx' hb => by
            have h1 : updF Q.F flow _ k = some x := hx
            have h2 : updF Q.F flow _ k' = some x' := hx'
            clear hx hx'
            by_cases e : k = flow <;> by_cases e' : k' = flow
            · rw [e, e']
            · rw [e, updF_same] at h1
              rw [updF_other _ _ e'] at h2
              cases h1
              have := (H.fl k' x' h2).2.1
              have hb : σ.next = x'.blk := hb
              omega
            · rw [e', updF_same] at h2
              rw [updF_other _ _ e] at h1
              cases h2
              have := (H.fl k x h1).2.1
              have hb : x.blk = σ.next := hb
              omega
            · rw [updF_other _ _ e] at h1
              rw [updF_other _ _ e'] at h2
              exact H.inj k k' x x' h1 h2 hb
          nodup := H.nodup
          lt := fun c hc => by have := lt c hc; omega }

set_option maxRecDepth 20000 in
theorem qadd_call {σ : St} {b : QB} {Q : QV} (H : QAt σ b Q) (flow rate room now : Int) (h : (0 ≤ flow ∧ flow ≤ 2147483647) ∧ (1 ≤ rate ∧ rate ≤ 1000000) ∧ (0 ≤ room ∧ room ≤ 1000000000)) (hnow : 0 ≤ now ∧ now ≤ 2147483647) (hF : Q.F flow = none) (hn : Q.nf < 32) :
    callX Try.prog 24 [.pointer (some ⟨b.q, 0, none⟩), .int .i64 flow, .int .i64 rate, .int .i64 room, .int .i64 now] σ fun e σ' l => e = .ret (.int .i64 0) ∧ AddR σ b Q flow rate room now σ' l := by
  have gq := H.gq
  obtain ⟨es, ck, gf, hki, hlk, hlen⟩ := H.mf
  have hq : b.q < σ.next := H.lt _ (by simp [QB.core])
  have hfm : b.fm < σ.next := H.lt _ (by simp [QB.core])
  have hfind := findV_none und2' (i := 0) hki ((hlk flow).trans (by show (Q.F flow).map ptrOf = none; rw [hF]; rfl))
  have hn' : ¬ (32 : Int) ≤ es.length := by omega
  refine enter (p := q8) Try.func24 rfl stat24 ?_
  simp only [go_sem, Nat.reducePow, Nat.reduceDiv, Nat.reduceMod, Nat.reduceAdd, Nat.reduceSub, Nat.reduceMul, Nat.reduceLeDiff, Nat.reduceLT, Nat.reduceEqDiff, reduceCtorEq, reduceIte, reduceDIte, if_pos rfl, Int.reduceLT, Int.reduceLE, Int.reduceEq, Int.reduceNeg, Int.reduceAdd, Int.reduceSub, Int.reduceMul, Int.reduceToNat, opLen, callW, q8, p8, p7, p6, p5, p4, p3, p2, p1, Try.f24, Try.underlying2, info2, Try.t2, Try.underlying3, info3, Try.t3, Try.underlying4, info4, Try.t4, Try.underlying24, info24, Try.t24, Try.underlying28, info28, Try.t28, Try.underlying50, info50, Try.t50, Try.underlying118, info118, Try.t118, Try.underlying121, info121, Try.t121, Try.underlying123, info123, Try.t123, body58, body59, body60, body61]
  refine enscope q8 24 (by kernel_rfl) ?_
  simp only [go_sem, Nat.reducePow, Nat.reduceDiv, Nat.reduceMod, Nat.reduceAdd, Nat.reduceSub, Nat.reduceMul, Nat.reduceLeDiff, Nat.reduceLT, Nat.reduceEqDiff, reduceCtorEq, reduceIte, reduceDIte, if_pos rfl, Int.reduceLT, Int.reduceLE, Int.reduceEq, Int.reduceNeg, Int.reduceAdd, Int.reduceSub, Int.reduceMul, Int.reduceToNat, opLen, callW, q8, p8, p7, p6, p5, p4, p3, p2, p1, Try.underlying2, info2, Try.t2, Try.underlying3, info3, Try.t3, Try.underlying4, info4, Try.t4, Try.underlying24, info24, Try.t24, Try.underlying28, info28, Try.t28, Try.underlying50, info50, Try.t50, Try.underlying118, info118, Try.t118, Try.underlying121, info121, Try.t121, Try.underlying123, info123, Try.t123, body58, body59, body60, body61]
  refine .of (qnone_call gq) ?_
  simp only [go_sem, Nat.reducePow, Nat.reduceDiv, Nat.reduceMod, Nat.reduceAdd, Nat.reduceSub, Nat.reduceMul, Nat.reduceLeDiff, Nat.reduceLT, Nat.reduceEqDiff, reduceCtorEq, reduceIte, reduceDIte, if_pos rfl, Int.reduceLT, Int.reduceLE, Int.reduceEq, Int.reduceNeg, Int.reduceAdd, Int.reduceSub, Int.reduceMul, Int.reduceToNat, opLen, callW, q8, p8, p7, p6, p5, p4, p3, p2, p1, Try.underlying2, info2, Try.t2, Try.underlying3, info3, Try.t3, Try.underlying4, info4, Try.t4, Try.underlying24, info24, Try.t24, Try.underlying28, info28, Try.t28, Try.underlying50, info50, Try.t50, Try.underlying118, info118, Try.t118, Try.underlying121, info121, Try.t121, Try.underlying123, info123, Try.t123, body58, body59, body60, body61]
  refine .of (may_call _ _ _ _ h) ?_
  simp only [go_sem, Nat.reducePow, Nat.reduceDiv, Nat.reduceMod, Nat.reduceAdd, Nat.reduceSub, Nat.reduceMul, Nat.reduceLeDiff, Nat.reduceLT, Nat.reduceEqDiff, reduceCtorEq, reduceIte, reduceDIte, if_pos rfl, Int.reduceLT, Int.reduceLE, Int.reduceEq, Int.reduceNeg, Int.reduceAdd, Int.reduceSub, Int.reduceMul, Int.reduceToNat, opLen, callW, q8, p8, p7, p6, p5, p4, p3, p2, p1, Try.underlying2, info2, Try.t2, Try.underlying3, info3, Try.t3, Try.underlying4, info4, Try.t4, Try.underlying24, info24, Try.t24, Try.underlying28, info28, Try.t28, Try.underlying50, info50, Try.t50, Try.underlying118, info118, Try.t118, Try.underlying121, info121, Try.t121, Try.underlying123, info123, Try.t123, body58, body59, body60, body61]
  refine .of (within_call _ _ _ _) ?_
  simp only [go_sem, Nat.reducePow, Nat.reduceDiv, Nat.reduceMod, Nat.reduceAdd, Nat.reduceSub, Nat.reduceMul, Nat.reduceLeDiff, Nat.reduceLT, Nat.reduceEqDiff, reduceCtorEq, reduceIte, reduceDIte, if_pos rfl, Int.reduceLT, Int.reduceLE, Int.reduceEq, Int.reduceNeg, Int.reduceAdd, Int.reduceSub, Int.reduceMul, Int.reduceToNat, opLen, callW, q8, p8, p7, p6, p5, p4, p3, p2, p1, hnow.1, hnow.2, gq, gf, hfind, hn', und2', Try.underlying2, info2, Try.t2, Try.underlying3, info3, Try.t3, Try.underlying4, info4, Try.t4, Try.underlying24, info24, Try.t24, Try.underlying28, info28, Try.t28, Try.underlying50, info50, Try.t50, Try.underlying118, info118, Try.t118, Try.underlying121, info121, Try.t121, Try.underlying123, info123, Try.t123, Try.underlying126, info126, Try.t126, body58, body59, body60, body61]
  refine .of (whole_call' _ _) ?_
  simp only [go_sem, Nat.reducePow, Nat.reduceDiv, Nat.reduceMod, Nat.reduceAdd, Nat.reduceSub, Nat.reduceMul, Nat.reduceLeDiff, Nat.reduceLT, Nat.reduceEqDiff, reduceCtorEq, reduceIte, reduceDIte, if_pos rfl, Int.reduceLT, Int.reduceLE, Int.reduceEq, Int.reduceNeg, Int.reduceAdd, Int.reduceSub, Int.reduceMul, Int.reduceToNat, opLen, callW, q8, p8, p7, p6, p5, p4, p3, p2, p1, hnow.1, hnow.2, gq, gf, hq, hfm, hfind, hn', und2', Try.underlying2, info2, Try.t2, Try.underlying3, info3, Try.t3, Try.underlying4, info4, Try.t4, Try.underlying24, info24, Try.t24, Try.underlying28, info28, Try.t28, Try.underlying50, info50, Try.t50, Try.underlying118, info118, Try.t118, Try.underlying121, info121, Try.t121, Try.underlying123, info123, Try.t123, Try.underlying126, info126, Try.t126, body58, body59, body60, body61]
  exact qadd_state H gf hki hlk hlen hF

def NewR (σ : St) (σ' : St) (l : Log) : Prop := (∀ c ∈ l, σ.next ≤ c) ∧ QAt σ' ⟨σ.next + 4, σ.next + 2, σ.next + 3, σ.next + 1, σ.next, []⟩ Q0

theorem qnew_call (σ : St) : callX Try.prog 23 [] σ fun e σ' l => e = .ret (.pointer (some ⟨σ.next + 4, 0, none⟩)) ∧ NewR σ σ' l := by
  refine enter (p := q8) Try.func23 rfl stat23 ?_
  simp only [go_sem, Nat.reducePow, Nat.reduceDiv, Nat.reduceMod, Nat.reduceAdd, Nat.reduceSub, Nat.reduceMul, Nat.reduceLeDiff, Nat.reduceLT, Nat.reduceEqDiff, reduceCtorEq, reduceIte, reduceDIte, if_pos rfl, Int.reduceLT, Int.reduceLE, Int.reduceEq, Int.reduceNeg, Int.reduceAdd, Int.reduceSub, Int.reduceMul, Int.reduceToNat, opLen, callW, q8, p8, p7, p6, p5, p4, p3, p2, p1, Try.f23, Try.underlying2, info2, Try.t2, Try.underlying3, info3, Try.t3, Try.underlying4, info4, Try.t4, Try.underlying24, info24, Try.t24, Try.underlying28, info28, Try.t28, Try.underlying50, info50, Try.t50, Try.underlying118, info118, Try.t118, Try.underlying121, info121, Try.t121, Try.underlying123, info123, Try.t123, body13]
  refine .of (new_call σ) ?_
  simp only [go_sem, Nat.reducePow, Nat.reduceDiv, Nat.reduceMod, Nat.reduceAdd, Nat.reduceSub, Nat.reduceMul, Nat.reduceLeDiff, Nat.reduceLT, Nat.reduceEqDiff, reduceCtorEq, reduceIte, reduceDIte, if_pos rfl, Int.reduceLT, Int.reduceLE, Int.reduceEq, Int.reduceNeg, Int.reduceAdd, Int.reduceSub, Int.reduceMul, Int.reduceToNat, opLen, callW, q8, p8, p7, p6, p5, p4, p3, p2, p1, Try.f23, Try.underlying2, info2, Try.t2, Try.underlying3, info3, Try.t3, Try.underlying4, info4, Try.t4, Try.underlying24, info24, Try.t24, Try.underlying26, info26, Try.t26, Try.underlying28, info28, Try.t28, Try.underlying50, info50, Try.t50, Try.underlying118, info118, Try.t118, Try.underlying119, info119, Try.t119, Try.underlying120, info120, Try.t120, Try.underlying121, info121, Try.t121, Try.underlying123, info123, Try.t123, body13]
  refine ⟨fun c hc => by simp at hc, ?_⟩
  generalize hσ : (((((σ.new (.map [] 0)).new (.cells [.map (some σ.next), .slice none 0 0, .int .i64 0] false)).new (.map [] 0)).new (.map [] 0)).new (.cells [.pointer (some ⟨σ.next + 1, 0, none⟩), .map (some (σ.next + 2)), .map (some (σ.next + 3))] false)) = σ'
  have nx : σ'.next = σ.next + 5 := by rw [← hσ]; rfl
  have g0 : σ'.get σ.next = some (.map [] 0) := by rw [← hσ]; simp only [go_sem, Nat.reducePow, Nat.reduceDiv, Nat.reduceMod, Nat.reduceAdd, Nat.reduceSub, Nat.reduceMul, Nat.reduceLeDiff, Nat.reduceLT, Nat.reduceEqDiff, reduceCtorEq, reduceIte, reduceDIte, if_pos rfl, Int.reduceLT, Int.reduceLE, Int.reduceEq, Int.reduceNeg, Int.reduceAdd, Int.reduceSub, Int.reduceMul, Int.reduceToNat, opLen]
  have g1 : σ'.get (σ.next + 1) = some (.cells [.map (some σ.next), .slice none 0 0, .int .i64 0] false) := by rw [← hσ]; simp only [go_sem, Nat.reducePow, Nat.reduceDiv, Nat.reduceMod, Nat.reduceAdd, Nat.reduceSub, Nat.reduceMul, Nat.reduceLeDiff, Nat.reduceLT, Nat.reduceEqDiff, reduceCtorEq, reduceIte, reduceDIte, if_pos rfl, Int.reduceLT, Int.reduceLE, Int.reduceEq, Int.reduceNeg, Int.reduceAdd, Int.reduceSub, Int.reduceMul, Int.reduceToNat, opLen]
  have g2 : σ'.get (σ.next + 2) = some (.map [] 0) := by rw [← hσ]; simp only [go_sem, Nat.reducePow, Nat.reduceDiv, Nat.reduceMod, Nat.reduceAdd, Nat.reduceSub, Nat.reduceMul, Nat.reduceLeDiff, Nat.reduceLT, Nat.reduceEqDiff, reduceCtorEq, reduceIte, reduceDIte, if_pos rfl, Int.reduceLT, Int.reduceLE, Int.reduceEq, Int.reduceNeg, Int.reduceAdd, Int.reduceSub, Int.reduceMul, Int.reduceToNat, opLen]
  have g3 : σ'.get (σ.next + 3) = some (.map [] 0) := by rw [← hσ]; simp only [go_sem, Nat.reducePow, Nat.reduceDiv, Nat.reduceMod, Nat.reduceAdd, Nat.reduceSub, Nat.reduceMul, Nat.reduceLeDiff, Nat.reduceLT, Nat.reduceEqDiff, reduceCtorEq, reduceIte, reduceDIte, if_pos rfl, Int.reduceLT, Int.reduceLE, Int.reduceEq, Int.reduceNeg, Int.reduceAdd, Int.reduceSub, Int.reduceMul, Int.reduceToNat, opLen]
  have g4 : σ'.get (σ.next + 4) = some (.cells [.pointer (some ⟨σ.next + 1, 0, none⟩), .map (some (σ.next + 2)), .map (some (σ.next + 3))] false) := by rw [← hσ]; simp only [go_sem, Nat.reducePow, Nat.reduceDiv, Nat.reduceMod, Nat.reduceAdd, Nat.reduceSub, Nat.reduceMul, Nat.reduceLeDiff, Nat.reduceLT, Nat.reduceEqDiff, reduceCtorEq, reduceIte, reduceDIte, if_pos rfl, Int.reduceLT, Int.reduceLE, Int.reduceEq, Int.reduceNeg, Int.reduceAdd, Int.reduceSub, Int.reduceMul, Int.reduceToNat, opLen]
  exact { gq := g4
          hx := .inl ⟨rfl, rfl, ⟨g1, ⟨0, g0⟩, by show σ.next + 1 ≠ σ.next; omega, by show σ.next + 1 < σ'.next ∧ σ.next < σ'.next; omega⟩⟩
          mf := ⟨[], 0, g2, KI.nil, fun k => rfl, rfl⟩
          mp := ⟨[], 0, g3, KI.nil, fun k => rfl, rfl⟩
          fl := fun k x hx => by cases hx
          inj := fun k k' x x' hx => by cases hx
          nodup := by simp only [QB.core, List.nodup_cons, List.mem_cons, List.not_mem_nil, or_false]; refine ⟨?_, ?_, ?_, ?_, ?_⟩ <;> first | omega | (refine ⟨?_, ?_⟩ <;> simp)
          lt := fun c hc => by simp only [QB.core, List.mem_cons, List.not_mem_nil, or_false] at hc; omega }

end Go.Ab

set_option linter.unusedSimpArgs false
set_option linter.unusedVariables false
namespace Go.Ab
open Go.Proofs

theorem makeN_call (s r : Nat) (σ : St) (hs : s < 9223372036854775808) (hr : 0 < r) (hr2 : r < 9223372036854775808) :
    DCall Try.prog 63 [.int .i64 (s : Int), .int .i64 (r : Int)] σ (.ret (.tuple ⟨[.agg ⟨[.int .i64 (fN s r : Int), .int .i64 (fD s r : Int)]⟩, .int .i64 0]⟩)) σ [] := by
  have := make_call (s : Int) (r : Int) σ (by omega) (by omega) (by omega) (by omega)
  rw [Int.gcd_natCast_natCast] at this
  exact this

theorem greater_frac {S R now : Nat} (hR : 0 < R) : (if 0 < cmpR (fN S R : Int) (fD S R : Int) (now : Int) 1 then Value.agg ⟨[.int .i64 (fN S R : Int), .int .i64 (fD S R : Int)]⟩ else Value.agg ⟨[.int .i64 (now : Int), .int .i64 1]⟩) = .agg ⟨[.int .i64 (fN (max (now * R) S) R : Int), .int .i64 (fD (max (now * R) S) R : Int)]⟩ := by
  have hc := f_cross S R
  have hd := fD_pos (a := S) hR
  have key : 0 < cmpR (fN S R : Int) (fD S R : Int) (now : Int) 1 ↔ now * R < S := by
    unfold cmpR
    have e1 : (fN S R : Int) * 1 = ((fN S R : Nat) : Int) := by omega
    have e2 : (now : Int) * (fD S R : Int) = ((now * fD S R : Nat) : Int) := (Int.natCast_mul _ _).symm
    rw [e1, e2]
    have m1 : now * fD S R < fN S R ↔ now * R < S := by
      constructor
      · intro h
        have h2 : now * fD S R * R < fN S R * R := Nat.mul_lt_mul_of_pos_right h hR
        rw [hc] at h2
        have h3 : now * R * fD S R < S * fD S R := by
          have : now * R * fD S R = now * fD S R * R := by rw [Nat.mul_assoc, Nat.mul_comm R, ← Nat.mul_assoc]
          omega
        exact Nat.lt_of_mul_lt_mul_right h3
      · intro h
        have h2 : now * R * fD S R < S * fD S R := Nat.mul_lt_mul_of_pos_right h hd
        rw [← hc] at h2
        have h3 : now * fD S R * R < fN S R * R := by
          have : now * R * fD S R = now * fD S R * R := by rw [Nat.mul_assoc, Nat.mul_comm R, ← Nat.mul_assoc]
          omega
        exact Nat.lt_of_mul_lt_mul_right h3
    rw [← m1]
    split
    · omega
    · split <;> omega
  by_cases h : now * R < S
  · rw [if_pos (key.2 h), Nat.max_eq_right (by omega)]
  · rw [if_neg (fun k => h (key.1 k)), Nat.max_eq_left (by omega), (f_whole hR).1, (f_whole hR).2]
    rfl

def PutR (σ : St) (b : QB) (Q : QV) (id flow size : Int) (x : FlowV) (n d : Int) (σ' : St) (l : Log) : Prop :=
  (∀ c ∈ l, Foot b Q c ∨ σ.next ≤ c) ∧ ∃ A', (∀ c ∈ A', c ∈ b.A ∨ σ.next ≤ c) ∧
    QAt σ' { b with A := A' } { Q with F := updF Q.F flow (some { x with bytes := x.bytes + size, n := n, d := d }), P := updF Q.P id (some (flow, size)), np := Q.np + 1, L := riseL (Q.L.length + 1) (Q.L ++ [⟨id, n, d, Q.t + 1⟩]) Q.L.length, t := Q.t + 1 }

theorem qput_state {σ σ' : St} {b : QB} {Q : QV} (H : QAt σ b Q) {id flow size n d : Int} {x : FlowV} {A' : List Nat} {l : Log} {ep : List MapEntry} {cp K : Nat} {v : AObj} (hF : Q.F flow = some x) (hK : 1 < K)
    (hkp : KI ep) (hlp : ∀ k, lkV ep k = (Q.P k).map (packOf k)) (hlen : ep.length = Q.np) (hP : Q.P id = none)
    (hx' : HX σ' b.h b.m A' (riseL (Q.L.length + 1) (Q.L ++ [⟨id, n, d, Q.t + 1⟩]) Q.L.length) (Q.t + 1)) (hA : ∀ c ∈ A', c ∈ b.A ∨ σ.next + K ≤ c) (hl : ∀ c ∈ l, Foot b Q c ∨ σ.next ≤ c)
    (kc : ∀ c, c < σ.next → ¬ x.blk = c → ¬ b.pm = c → c ∉ b.h :: b.m :: b.A → σ'.get c = σ.get c) (nx : σ.next + K ≤ σ'.next)
    (kx : σ'.get x.blk = some (.cells [.int .i64 flow, .int .i64 x.rate, .int .i64 x.room, .int .i64 (x.bytes + size), .int .i64 n, .int .i64 d] false))
    (kpm : σ'.get b.pm = some (.map (pushE ep ⟨.int .i64 id, .agg ⟨[.int .i64 id, .int .i64 flow, .int .i64 size]⟩, cp⟩) (cp + 1))) :
    PutR σ b Q id flow size x n d (σ'.set (σ.next + 1) v) l := by
  have ne := H.ne
  have lt := H.lt
  obtain ⟨gx, hxl, hxc⟩ := H.fl flow x hF
  have hno : lkV ep id = none := by rw [hlp, hP]; rfl
  have sf : ∀ c, c ≠ σ.next + 1 → (σ'.set (σ.next + 1) v).get c = σ'.get c := fun c hc => by rw [St.get_set, if_neg (Ne.symm hc)]
  have core : ∀ c ∈ b.core, c < σ.next := lt
  have lo : ∀ c, c < σ.next → (σ'.set (σ.next + 1) v).get c = σ'.get c := fun c hc => sf c (by omega)
  have inh : ∀ c ∈ b.h :: b.m :: b.A, c ∈ b.core := fun c hc => by simp only [QB.core, List.mem_cons] at hc ⊢; rcases hc with h | h | h <;> simp [h]
  have xq : ¬ x.blk = b.q := fun e => hxc (by simp [QB.core, e])
  have xf : ¬ x.blk = b.fm := fun e => hxc (by simp [QB.core, e])
  have nq : b.q ∉ b.h :: b.m :: b.A := fun hm => by
    simp only [List.mem_cons] at hm
    rcases hm with h | h | h
    · exact ne.q_h h
    · exact ne.q_m h
    · exact (ne.A _ h).1 rfl
  have nf : b.fm ∉ b.h :: b.m :: b.A := fun hm => by
    simp only [List.mem_cons] at hm
    rcases hm with h | h | h
    · exact ne.fm_h h
    · exact ne.fm_m h
    · exact (ne.A _ h).2.1 rfl
  refine ⟨hl, A', fun c hc => by rcases hA c hc with h | h; exact .inl h; exact .inr (by omega), ?_⟩
  have newcore : ∀ c, c ∈ ({ b with A := A' } : QB).core → c ∈ b.core ∨ σ.next + K ≤ c := fun c hc => by
    simp only [QB.core, List.mem_cons] at hc ⊢
    rcases hc with h | h | h | h | h | h
    · simp [h]
    · simp [h]
    · simp [h]
    · simp [h]
    · simp [h]
    · rcases hA c h with h | h
      · simp [h]
      · exact .inr h
  exact { gq := (lo _ (lt _ (by simp [QB.core]))).trans ((kc _ (lt _ (by simp [QB.core])) xq ne.q_pm.symm nq).trans H.gq)
          hx := hx'.keep (Nat.le_refl _) fun c hc => sf c (by
            rcases newcore c (by simp only [QB.core, List.mem_cons] at hc ⊢; rcases hc with h | h | h <;> simp [h]) with h | h
            · have := lt c h; omega
            · omega)
          mf := by
            obtain ⟨es, ck, gf, a, f, g⟩ := H.mf
            refine ⟨es, ck, (lo _ (lt _ (by simp [QB.core]))).trans ((kc _ (lt _ (by simp [QB.core])) xf ne.fm_pm.symm nf).trans gf), a, fun k => ?_, g⟩
            rw [f]
            show (Q.F k).map ptrOf = (updF Q.F flow _ k).map ptrOf
            by_cases e : k = flow
            · subst e; rw [updF_same, hF]; rfl
            · rw [updF_other _ _ e]
          mp := ⟨_, _, (lo _ (lt _ (by simp [QB.core]))).trans kpm, pushV_KI hkp hno, fun k => by
            rw [pushV_lk hkp hno]
            show _ = (updF Q.P id _ k).map (packOf k)
            by_cases e : k = id
            · subst e; rw [if_pos rfl, updF_same]; rfl
            · rw [if_neg e, updF_other _ _ e, hlp], by rw [pushV_length, hlen]⟩
          fl := fun k y hy => by
            have h1 : updF Q.F flow _ k = some y := hy
            clear hy
            by_cases e : k = flow
            · subst e
              rw [updF_same] at h1
              cases h1
              refine ⟨(lo _ hxl).trans kx, by show x.blk < σ'.next; omega, fun hm => ?_⟩
              rcases newcore _ hm with h | h
              · exact hxc h
              · have h : σ.next + K ≤ x.blk := h
                omega
            · rw [updF_other _ _ e] at h1
              obtain ⟨a1, a2, a3⟩ := H.fl k y h1
              refine ⟨(lo _ a2).trans ((kc _ a2 (fun e' => e (H.inj _ _ _ _ h1 hF e'.symm)) (fun e' => a3 (by simp [QB.core, e'])) (fun hm => a3 (inh _ hm))).trans a1), by show y.blk < σ'.next; omega, fun hm => ?_⟩
              rcases newcore _ hm with h | h
              · exact a3 h
              · omega
          inj := fun k k' y y' hy hy' hb => by
            have h1 : updF Q.F flow _ k = some y := hy
            have h2 : updF Q.F flow _ k' = some y' := hy'
            clear hy hy'
            by_cases e : k = flow <;> by_cases e' : k' = flow
            · rw [e, e']
            · rw [e, updF_same] at h1
              rw [updF_other _ _ e'] at h2
              cases h1
              rw [e]
              exact H.inj _ _ _ _ hF h2 hb
            · rw [e', updF_same] at h2
              rw [updF_other _ _ e] at h1
              cases h2
              rw [e']
              exact H.inj _ _ _ _ h1 hF hb
            · rw [updF_other _ _ e] at h1
              rw [updF_other _ _ e'] at h2
              exact H.inj k k' y y' h1 h2 hb
          nodup := ne.core (n := σ.next) (fun c hc => by rcases hA c hc with h | h; exact .inl h; exact .inr (by omega)) lt hx'.nodup
          lt := fun c hc => by
            rcases newcore c hc with h | h
            · have := lt c h; show c < σ'.next; omega
            · have h3 := hx'.lt
              simp only [QB.core, List.mem_cons] at hc
              rcases hc with h | h | h | h | h | h
              · have := lt b.q (by simp [QB.core]); show c < σ'.next; omega
              · have := lt b.fm (by simp [QB.core]); show c < σ'.next; omega
              · have := lt b.pm (by simp [QB.core]); show c < σ'.next; omega
              · exact h3 c (by simp [h])
              · exact h3 c (by simp [h])
              · exact h3 c (by simp [h]) }

theorem keep_log {σ σ' : St} {l : Log} {B : List Nat} (hl : Logged σ σ' l) (h : ∀ c ∈ l, c ∈ B ∨ σ.next ≤ c) : ∀ c, c < σ.next → c ∉ B → σ'.get c = σ.get c := fun c hc hn =>
  hl.2 c hc fun hm => by
    rcases h c hm with h | h
    · exact hn h
    · omega

set_option maxRecDepth 20000 in
theorem qput_call {σ : St} {b : QB} {Q : QV} (H : QAt σ b Q) (id flow : Int) (size now S R : Nat) {x : FlowV} (hF : Q.F flow = some x) (hP : Q.P id = none) (hid : 0 ≤ id ∧ id ≤ 4611686018427387904) (hfl : 0 ≤ flow ∧ flow ≤ 2147483647) (hsz : 1 ≤ size ∧ size ≤ 2000) (hnow : now ≤ 2147483647)
    (hx1 : x.rate = R) (hx2 : x.n = fN S R) (hx3 : x.d = fD S R) (hR : 1 ≤ R ∧ R ≤ 1000000) (hS : S < 1000000000000000000) (hb : 0 ≤ x.bytes ∧ x.bytes ≤ 100000000) (hr : 0 ≤ x.room ∧ x.room ≤ 1000000000) (hroom : x.bytes + size ≤ x.room) (hnp : Q.np < 50000) (hnew : ∀ y ∈ Q.L, y.id ≠ id) (hL : Q.L.length < 1000) (ht : 0 ≤ Q.t ∧ Q.t < 1000000) :
    callX Try.prog 25 [.pointer (some ⟨b.q, 0, none⟩), .agg ⟨[.int .i64 id, .int .i64 flow, .int .i64 size]⟩, .int .i64 now] σ fun e σ' l =>
      e = .ret (.tuple ⟨[.agg ⟨[.int .i64 (fN (max (now * R) S + size) R : Int), .int .i64 (fD (max (now * R) S + size) R : Int)]⟩, .int .i64 0]⟩) ∧ PutR σ b Q id flow size x (fN (max (now * R) S + size) R) (fD (max (now * R) S + size) R) σ' l := by
  have gq := H.gq
  obtain ⟨es, ck, gf, hki, hlk, hlen⟩ := H.mf
  obtain ⟨ep, cp, gp, hkp, hlp, hlenp⟩ := H.mp
  obtain ⟨gx, hxl, hxc⟩ := H.fl flow x hF
  have hq : b.q < σ.next := H.lt _ (by simp [QB.core])
  have hfm : b.fm < σ.next := H.lt _ (by simp [QB.core])
  have hpm : b.pm < σ.next := H.lt _ (by simp [QB.core])
  obtain ⟨j, e, hfind, hev, _, _⟩ := findV_some und2' (i := 0) (v := ptrOf x) hki ((hlk flow).trans (by show (Q.F flow).map ptrOf = _; rw [hF]; rfl))
  have hfindp := findV_none und2' (i := 0) hkp ((hlp id).trans (by show (Q.P id).map (packOf id) = none; rw [hP]; rfl))
  have hn' : ¬ (50000 : Int) ≤ ep.length := by omega
  have hM : max (now * R) S + size < 2000000000000000000 := by
    have : now * R ≤ 2147483647 * 1000000 := Nat.mul_le_mul hnow hR.2
    omega
  obtain ⟨M, hMe⟩ : ∃ M, max (now * R) S = M := ⟨_, rfl⟩
  have hgr := greater_frac (S := S) (R := R) (now := now) (by omega)
  rw [hMe] at hM hgr ⊢
  rw [← hx2, ← hx3] at hgr
  have s1 : (1 : Int) ≤ (size : Int) := by omega
  have s2 : (size : Int) ≤ 2000 := by omega
  have w1 : IntKind.i64.wrap (x.room - x.bytes) = x.room - x.bytes := wrapI (by omega) (by omega)
  have w2 : IntKind.i64.wrap (x.bytes + size) = x.bytes + size := wrapI (by omega) (by omega)
  have l1 : ¬ x.room - x.bytes < size := by omega
  have l2 : (0 : Int) ≤ now := by omega
  have l3 : (now : Int) ≤ 2147483647 := by omega
  have k1 : okR (now : Int) 1 = true := by simp [okR, okI, chk]; omega
  have k2 : okR x.n x.d = true := by rw [hx2, hx3]; exact okR_frac (by omega) (by omega) (by omega)
  simp only [FlowV.cells] at gx
  have ne := H.ne
  have n1 : ¬ x.blk = b.q := fun e' => hxc (by simp [QB.core, e'])
  have n2 : ¬ x.blk = b.pm := fun e' => hxc (by simp [QB.core, e'])
  have n3 : ¬ b.q = b.pm := ne.q_pm
  have n4 : ¬ b.pm = b.q := ne.q_pm.symm
  have n5 : ¬ b.q = x.blk := fun e' => n1 e'.symm
  have n6 : ¬ b.pm = x.blk := fun e' => n2 e'.symm
  refine enter (p := q8) Try.func25 rfl stat25 ?_
  simp only [go_sem, Nat.reducePow, Nat.reduceDiv, Nat.reduceMod, Nat.reduceAdd, Nat.reduceSub, Nat.reduceMul, Nat.reduceLeDiff, Nat.reduceLT, Nat.reduceEqDiff, reduceCtorEq, reduceIte, reduceDIte, if_pos rfl, Int.reduceLT, Int.reduceLE, Int.reduceEq, Int.reduceNeg, Int.reduceAdd, Int.reduceSub, Int.reduceMul, Int.reduceToNat, opLen, callW, q8, p8, p7, p6, p5, p4, p3, p2, p1, Try.f25]
  refine .of (qnone_call (q := b.q) (by simp only [go_sem, Nat.reducePow, Nat.reduceDiv, Nat.reduceMod, Nat.reduceAdd, Nat.reduceSub, Nat.reduceMul, Nat.reduceLeDiff, Nat.reduceLT, Nat.reduceEqDiff, reduceCtorEq, reduceIte, reduceDIte, if_pos rfl, Int.reduceLT, Int.reduceLE, Int.reduceEq, Int.reduceNeg, Int.reduceAdd, Int.reduceSub, Int.reduceMul, Int.reduceToNat, opLen, hq, gq]; rfl)) ?_
  simp only [go_sem, Nat.reducePow, Nat.reduceDiv, Nat.reduceMod, Nat.reduceAdd, Nat.reduceSub, Nat.reduceMul, Nat.reduceLeDiff, Nat.reduceLT, Nat.reduceEqDiff, reduceCtorEq, reduceIte, reduceDIte, if_pos rfl, Int.reduceLT, Int.reduceLE, Int.reduceEq, Int.reduceNeg, Int.reduceAdd, Int.reduceSub, Int.reduceMul, Int.reduceToNat, opLen, callW, q8, p8, p7, p6, p5, p4, p3, p2, p1, ptrOf, gq, gf, gp, hq, hfm, hpm, hfind, hev, hfindp, und2']
  refine .of (within_call _ _ _ _) ?_
  simp only [go_sem, Nat.reducePow, Nat.reduceDiv, Nat.reduceMod, Nat.reduceAdd, Nat.reduceSub, Nat.reduceMul, Nat.reduceLeDiff, Nat.reduceLT, Nat.reduceEqDiff, reduceCtorEq, reduceIte, reduceDIte, if_pos rfl, Int.reduceLT, Int.reduceLE, Int.reduceEq, Int.reduceNeg, Int.reduceAdd, Int.reduceSub, Int.reduceMul, Int.reduceToNat, opLen, callW, q8, p8, p7, p6, p5, p4, p3, p2, p1, hid.1, hid.2]
  refine .of (within_call _ _ _ _) ?_
  simp only [go_sem, Nat.reducePow, Nat.reduceDiv, Nat.reduceMod, Nat.reduceAdd, Nat.reduceSub, Nat.reduceMul, Nat.reduceLeDiff, Nat.reduceLT, Nat.reduceEqDiff, reduceCtorEq, reduceIte, reduceDIte, if_pos rfl, Int.reduceLT, Int.reduceLE, Int.reduceEq, Int.reduceNeg, Int.reduceAdd, Int.reduceSub, Int.reduceMul, Int.reduceToNat, opLen, callW, q8, p8, p7, p6, p5, p4, p3, p2, p1, hfl.1, hfl.2]
  refine .of (within_call _ _ _ _) ?_
  simp only [go_sem, Nat.reducePow, Nat.reduceDiv, Nat.reduceMod, Nat.reduceAdd, Nat.reduceSub, Nat.reduceMul, Nat.reduceLeDiff, Nat.reduceLT, Nat.reduceEqDiff, reduceCtorEq, reduceIte, reduceDIte, if_pos rfl, Int.reduceLT, Int.reduceLE, Int.reduceEq, Int.reduceNeg, Int.reduceAdd, Int.reduceSub, Int.reduceMul, Int.reduceToNat, opLen, callW, q8, p8, p7, p6, p5, p4, p3, p2, p1, s1, s2]
  refine .of (within_call _ _ _ _) ?_
  simp only [go_sem, Nat.reducePow, Nat.reduceDiv, Nat.reduceMod, Nat.reduceAdd, Nat.reduceSub, Nat.reduceMul, Nat.reduceLeDiff, Nat.reduceLT, Nat.reduceEqDiff, reduceCtorEq, reduceIte, reduceDIte, if_pos rfl, Int.reduceLT, Int.reduceLE, Int.reduceEq, Int.reduceNeg, Int.reduceAdd, Int.reduceSub, Int.reduceMul, Int.reduceToNat, opLen, callW, q8, p8, p7, p6, p5, p4, p3, p2, p1, l2, l3, l1, w1, gx, hxl, gq, gp, hq, hpm, hn']
  refine .of (whole_call' _ _) ?_
  simp only [go_sem, Nat.reducePow, Nat.reduceDiv, Nat.reduceMod, Nat.reduceAdd, Nat.reduceSub, Nat.reduceMul, Nat.reduceLeDiff, Nat.reduceLT, Nat.reduceEqDiff, reduceCtorEq, reduceIte, reduceDIte, if_pos rfl, Int.reduceLT, Int.reduceLE, Int.reduceEq, Int.reduceNeg, Int.reduceAdd, Int.reduceSub, Int.reduceMul, Int.reduceToNat, opLen, callW, q8, p8, p7, p6, p5, p4, p3, p2, p1, zerosN, gx, hxl]
  refine .of (greatest_call (by simp only [go_sem, Nat.reducePow, Nat.reduceDiv, Nat.reduceMod, Nat.reduceAdd, Nat.reduceSub, Nat.reduceMul, Nat.reduceLeDiff, Nat.reduceLT, Nat.reduceEqDiff, reduceCtorEq, reduceIte, reduceDIte, if_pos rfl, Int.reduceLT, Int.reduceLE, Int.reduceEq, Int.reduceNeg, Int.reduceAdd, Int.reduceSub, Int.reduceMul, Int.reduceToNat, opLen]) (by simp only [go_sem, Nat.reducePow, Nat.reduceDiv, Nat.reduceMod, Nat.reduceAdd, Nat.reduceSub, Nat.reduceMul, Nat.reduceLeDiff, Nat.reduceLT, Nat.reduceEqDiff, reduceCtorEq, reduceIte, reduceDIte, if_pos rfl, Int.reduceLT, Int.reduceLE, Int.reduceEq, Int.reduceNeg, Int.reduceAdd, Int.reduceSub, Int.reduceMul, Int.reduceToNat, opLen]) k1 k2) ?_
  simp only [go_sem, Nat.reducePow, Nat.reduceDiv, Nat.reduceMod, Nat.reduceAdd, Nat.reduceSub, Nat.reduceMul, Nat.reduceLeDiff, Nat.reduceLT, Nat.reduceEqDiff, reduceCtorEq, reduceIte, reduceDIte, if_pos rfl, Int.reduceLT, Int.reduceLE, Int.reduceEq, Int.reduceNeg, Int.reduceAdd, Int.reduceSub, Int.reduceMul, Int.reduceToNat, opLen, callW, q8, p8, p7, p6, p5, p4, p3, p2, p1, hgr, gx, hxl, hx1]
  refine .of (makeN_call size R _ (by omega) (by omega) (by omega)) ?_
  simp only [go_sem, Nat.reducePow, Nat.reduceDiv, Nat.reduceMod, Nat.reduceAdd, Nat.reduceSub, Nat.reduceMul, Nat.reduceLeDiff, Nat.reduceLT, Nat.reduceEqDiff, reduceCtorEq, reduceIte, reduceDIte, if_pos rfl, Int.reduceLT, Int.reduceLE, Int.reduceEq, Int.reduceNeg, Int.reduceAdd, Int.reduceSub, Int.reduceMul, Int.reduceToNat, opLen, callW, q8, p8, p7, p6, p5, p4, p3, p2, p1, gx, hxl]
  refine .of (addF_call M size R _ (by omega) (by omega) (by omega)) ?_
  simp only [go_sem, Nat.reducePow, Nat.reduceDiv, Nat.reduceMod, Nat.reduceAdd, Nat.reduceSub, Nat.reduceMul, Nat.reduceLeDiff, Nat.reduceLT, Nat.reduceEqDiff, reduceCtorEq, reduceIte, reduceDIte, if_pos rfl, Int.reduceLT, Int.reduceLE, Int.reduceEq, Int.reduceNeg, Int.reduceAdd, Int.reduceSub, Int.reduceMul, Int.reduceToNat, opLen, callW, q8, p8, p7, p6, p5, p4, p3, p2, p1, gx, hxl, w2, gq, gp, hq, hpm, hfindp, und2', n1, n2, n3, n4, n5, n6]
  have hx := H.hx
  have hA := H.hx.lt
  refine callX.ret (HX.put (hx.keep ?_ ?_) id _ _ hid.1 hid.2 (okR_frac (by omega) (by omega) (by omega)) ht.1 ht.2 hnew hL) ?_
  · simp only [go_sem, Nat.reducePow, Nat.reduceDiv, Nat.reduceMod, Nat.reduceAdd, Nat.reduceSub, Nat.reduceMul, Nat.reduceLeDiff, Nat.reduceLT, Nat.reduceEqDiff, reduceCtorEq, reduceIte, reduceDIte, if_pos rfl, Int.reduceLT, Int.reduceLE, Int.reduceEq, Int.reduceNeg, Int.reduceAdd, Int.reduceSub, Int.reduceMul, Int.reduceToNat, opLen]
  · intro c hc
    have hlt := hA c hc
    have m1 : ¬ x.blk = c := fun e' => hxc (by rw [e']; simp only [QB.core, List.mem_cons] at hc ⊢; rcases hc with h | h | h <;> simp [h])
    have m2 : ¬ b.pm = c := fun e' => by
      simp only [List.mem_cons] at hc
      rcases hc with h | h | h
      · exact ne.pm_h (e'.trans h)
      · exact ne.pm_m (e'.trans h)
      · exact (ne.A c h).2.2.1 e'.symm
    simp only [go_sem, Nat.reducePow, Nat.reduceDiv, Nat.reduceMod, Nat.reduceAdd, Nat.reduceSub, Nat.reduceMul, Nat.reduceLeDiff, Nat.reduceLT, Nat.reduceEqDiff, reduceCtorEq, reduceIte, reduceDIte, if_pos rfl, Int.reduceLT, Int.reduceLE, Int.reduceEq, Int.reduceNeg, Int.reduceAdd, Int.reduceSub, Int.reduceMul, Int.reduceToNat, opLen, hlt, m1, m2]
  intro σ' l hl ⟨hlg, A', hA', hx'⟩
  have nx := hl.1
  have kp := keep_log hl hlg
  have hA2 : ∀ c ∈ A', c ∈ b.A ∨ σ.next + 7 ≤ c := fun c hc => by
    have := hA' c hc
    simp only [go_sem, Nat.reducePow, Nat.reduceDiv, Nat.reduceMod, Nat.reduceAdd, Nat.reduceSub, Nat.reduceMul, Nat.reduceLeDiff, Nat.reduceLT, Nat.reduceEqDiff, reduceCtorEq, reduceIte, reduceDIte, if_pos rfl, Int.reduceLT, Int.reduceLE, Int.reduceEq, Int.reduceNeg, Int.reduceAdd, Int.reduceSub, Int.reduceMul, Int.reduceToNat, opLen] at this
    exact this
  have hl2 : ∀ c ∈ l, c ∈ b.h :: b.m :: b.A ∨ σ.next + 7 ≤ c := fun c hc => by
    rcases hlg c hc with h | h
    · exact .inl h
    · simp only [go_sem, Nat.reducePow, Nat.reduceDiv, Nat.reduceMod, Nat.reduceAdd, Nat.reduceSub, Nat.reduceMul, Nat.reduceLeDiff, Nat.reduceLT, Nat.reduceEqDiff, reduceCtorEq, reduceIte, reduceDIte, if_pos rfl, Int.reduceLT, Int.reduceLE, Int.reduceEq, Int.reduceNeg, Int.reduceAdd, Int.reduceSub, Int.reduceMul, Int.reduceToNat, opLen] at h
      exact .inr h
  have k6 := kp (σ.next + 6) (by simp only [go_sem, Nat.reducePow, Nat.reduceDiv, Nat.reduceMod, Nat.reduceAdd, Nat.reduceSub, Nat.reduceMul, Nat.reduceLeDiff, Nat.reduceLT, Nat.reduceEqDiff, reduceCtorEq, reduceIte, reduceDIte, if_pos rfl, Int.reduceLT, Int.reduceLE, Int.reduceEq, Int.reduceNeg, Int.reduceAdd, Int.reduceSub, Int.reduceMul, Int.reduceToNat, opLen]) fun hm => by have := hA _ hm; omega
  have k1 := kp (σ.next + 1) (by simp only [go_sem, Nat.reducePow, Nat.reduceDiv, Nat.reduceMod, Nat.reduceAdd, Nat.reduceSub, Nat.reduceMul, Nat.reduceLeDiff, Nat.reduceLT, Nat.reduceEqDiff, reduceCtorEq, reduceIte, reduceDIte, if_pos rfl, Int.reduceLT, Int.reduceLE, Int.reduceEq, Int.reduceNeg, Int.reduceAdd, Int.reduceSub, Int.reduceMul, Int.reduceToNat, opLen]) fun hm => by have := hA _ hm; omega
  have kx := kp x.blk (by simp only [go_sem, Nat.reducePow, Nat.reduceDiv, Nat.reduceMod, Nat.reduceAdd, Nat.reduceSub, Nat.reduceMul, Nat.reduceLeDiff, Nat.reduceLT, Nat.reduceEqDiff, reduceCtorEq, reduceIte, reduceDIte, if_pos rfl, Int.reduceLT, Int.reduceLE, Int.reduceEq, Int.reduceNeg, Int.reduceAdd, Int.reduceSub, Int.reduceMul, Int.reduceToNat, opLen, hxl]) fun hm => hxc (by simp only [QB.core, List.mem_cons] at hm ⊢; rcases hm with h | h | h <;> simp [h])
  have kpm := kp b.pm (by simp only [go_sem, Nat.reducePow, Nat.reduceDiv, Nat.reduceMod, Nat.reduceAdd, Nat.reduceSub, Nat.reduceMul, Nat.reduceLeDiff, Nat.reduceLT, Nat.reduceEqDiff, reduceCtorEq, reduceIte, reduceDIte, if_pos rfl, Int.reduceLT, Int.reduceLE, Int.reduceEq, Int.reduceNeg, Int.reduceAdd, Int.reduceSub, Int.reduceMul, Int.reduceToNat, opLen, hpm]) fun hm => by
    simp only [List.mem_cons] at hm
    rcases hm with h | h | h
    · exact ne.pm_h h
    · exact ne.pm_m h
    · exact (ne.A _ h).2.2.1 rfl
  have kc : ∀ c, c < σ.next → ¬ x.blk = c → ¬ b.pm = c → c ∉ b.h :: b.m :: b.A → σ'.get c = σ.get c := fun c c1 c2 c3 c4 => by
    have := kp c (by simp only [go_sem, Nat.reducePow, Nat.reduceDiv, Nat.reduceMod, Nat.reduceAdd, Nat.reduceSub, Nat.reduceMul, Nat.reduceLeDiff, Nat.reduceLT, Nat.reduceEqDiff, reduceCtorEq, reduceIte, reduceDIte, if_pos rfl, Int.reduceLT, Int.reduceLE, Int.reduceEq, Int.reduceNeg, Int.reduceAdd, Int.reduceSub, Int.reduceMul, Int.reduceToNat, opLen, c1]) c4
    simp only [go_sem, Nat.reducePow, Nat.reduceDiv, Nat.reduceMod, Nat.reduceAdd, Nat.reduceSub, Nat.reduceMul, Nat.reduceLeDiff, Nat.reduceLT, Nat.reduceEqDiff, reduceCtorEq, reduceIte, reduceDIte, if_pos rfl, Int.reduceLT, Int.reduceLE, Int.reduceEq, Int.reduceNeg, Int.reduceAdd, Int.reduceSub, Int.reduceMul, Int.reduceToNat, opLen, c1, c2, c3] at this
    exact this
  simp only [go_sem, Nat.reducePow, Nat.reduceDiv, Nat.reduceMod, Nat.reduceAdd, Nat.reduceSub, Nat.reduceMul, Nat.reduceLeDiff, Nat.reduceLT, Nat.reduceEqDiff, reduceCtorEq, reduceIte, reduceDIte, if_pos rfl, Int.reduceLT, Int.reduceLE, Int.reduceEq, Int.reduceNeg, Int.reduceAdd, Int.reduceSub, Int.reduceMul, Int.reduceToNat, opLen, hxl, hpm, n1, n2, n3, n4, n5, n6] at nx k6 k1 kx kpm
  clear kp hl hlg hA'
  simp only [go_sem, Nat.reducePow, Nat.reduceDiv, Nat.reduceMod, Nat.reduceAdd, Nat.reduceSub, Nat.reduceMul, Nat.reduceLeDiff, Nat.reduceLT, Nat.reduceEqDiff, reduceCtorEq, reduceIte, reduceDIte, if_pos rfl, Int.reduceLT, Int.reduceLE, Int.reduceEq, Int.reduceNeg, Int.reduceAdd, Int.reduceSub, Int.reduceMul, Int.reduceToNat, opLen, k6, k1, Nat.add_eq]
  refine qput_state H (K := 7) hF (by omega) hkp hlp hlenp hP hx' hA2 (fun c hc => ?_) kc nx kx kpm
  simp only [List.mem_cons, List.mem_append, List.not_mem_nil, or_false] at hc
  have fx : Foot b Q x.blk := .inr ⟨flow, x, hF, rfl⟩
  rcases hc with h | h | h | h | h | h | h | h | h
  · exact .inr (by omega)
  · exact .inr (by omega)
  · exact .inr (by omega)
  · exact .inr (by omega)
  · exact .inl (h ▸ fx)
  · exact .inl (h ▸ fx)
  · exact .inl (.inl (by simp [QB.core, h]))
  · rcases hl2 c h with h | h
    · exact .inl (.inl (by simp only [QB.core, List.mem_cons] at h ⊢; rcases h with h | h | h <;> simp [h]))
    · exact .inr (by omega)
  · exact .inr (by omega)
end Go.Ab

set_option linter.unusedSimpArgs false
set_option linter.unusedVariables false
namespace Go.Ab
open Go.Proofs

theorem qlen_call {σ : St} {b : QB} {Q : QV} (H : QAt σ b Q) : DCall Try.prog 28 [.pointer (some ⟨b.q, 0, none⟩)] σ (.ret (.int .i64 Q.L.length)) σ [] := by
  have gq := H.gq
  refine pure_call (enter (p := q8) Try.func28 rfl stat28 ?_) rfl
  simp only [go_sem, Nat.reducePow, Nat.reduceDiv, Nat.reduceMod, Nat.reduceAdd, Nat.reduceSub, Nat.reduceMul, Nat.reduceLeDiff, Nat.reduceLT, Nat.reduceEqDiff, reduceCtorEq, reduceIte, reduceDIte, if_pos rfl, Int.reduceLT, Int.reduceLE, Int.reduceEq, Int.reduceNeg, Int.reduceAdd, Int.reduceSub, Int.reduceMul, Int.reduceToNat, opLen, callW, q8, p8, p7, p6, p5, p4, p3, p2, p1, Try.f28]
  refine .of (qnone_call gq) ?_
  simp only [go_sem, Nat.reducePow, Nat.reduceDiv, Nat.reduceMod, Nat.reduceAdd, Nat.reduceSub, Nat.reduceMul, Nat.reduceLeDiff, Nat.reduceLT, Nat.reduceEqDiff, reduceCtorEq, reduceIte, reduceDIte, if_pos rfl, Int.reduceLT, Int.reduceLE, Int.reduceEq, Int.reduceNeg, Int.reduceAdd, Int.reduceSub, Int.reduceMul, Int.reduceToNat, opLen, callW, q8, p8, p7, p6, p5, p4, p3, p2, p1, gq]
  refine .of (len_hv H.hx.toV) ?_
  simp only [go_sem, Nat.reducePow, Nat.reduceDiv, Nat.reduceMod, Nat.reduceAdd, Nat.reduceSub, Nat.reduceMul, Nat.reduceLeDiff, Nat.reduceLT, Nat.reduceEqDiff, reduceCtorEq, reduceIte, reduceDIte, if_pos rfl, Int.reduceLT, Int.reduceLE, Int.reduceEq, Int.reduceNeg, Int.reduceAdd, Int.reduceSub, Int.reduceMul, Int.reduceToNat, opLen]

theorem QAt.change {σ σ' : St} {b : QB} {Q : QV} (H : QAt σ b Q) {flow : Int} {x x' : FlowV} {A' : List Nat} {P' : Int → Option (Int × Int)} {np' : Nat} {L' : List Item} {t' : Int} (hF : Q.F flow = some x) (hblk : x'.blk = x.blk)
    (hx' : HX σ' b.h b.m A' L' t') (hA : ∀ c ∈ A', c ∈ b.A ∨ σ.next ≤ c)
    (kc : ∀ c, c < σ.next → ¬ x.blk = c → ¬ b.pm = c → c ∉ b.h :: b.m :: b.A → σ'.get c = σ.get c) (nx : σ.next ≤ σ'.next)
    (kx : σ'.get x.blk = some (.cells (x'.cells flow) false)) (mp' : MapAt σ' b.pm (fun k => (P' k).map (packOf k)) np') :
    QAt σ' { b with A := A' } { Q with F := updF Q.F flow (some x'), P := P', np := np', L := L', t := t' } := by
  have ne := H.ne
  have lt := H.lt
  obtain ⟨gx, hxl, hxc⟩ := H.fl flow x hF
  have inh : ∀ c ∈ b.h :: b.m :: b.A, c ∈ b.core := fun c hc => by simp only [QB.core, List.mem_cons] at hc ⊢; rcases hc with h | h | h <;> simp [h]
  have xq : ¬ x.blk = b.q := fun e => hxc (by simp [QB.core, e])
  have xf : ¬ x.blk = b.fm := fun e => hxc (by simp [QB.core, e])
  have nq : b.q ∉ b.h :: b.m :: b.A := fun hm => by
    simp only [List.mem_cons] at hm
    rcases hm with h | h | h
    · exact ne.q_h h
    · exact ne.q_m h
    · exact (ne.A _ h).1 rfl
  have nf : b.fm ∉ b.h :: b.m :: b.A := fun hm => by
    simp only [List.mem_cons] at hm
    rcases hm with h | h | h
    · exact ne.fm_h h
    · exact ne.fm_m h
    · exact (ne.A _ h).2.1 rfl
  have newcore : ∀ c, c ∈ ({ b with A := A' } : QB).core → c ∈ b.core ∨ σ.next ≤ c := fun c hc => by
    simp only [QB.core, List.mem_cons] at hc ⊢
    rcases hc with h | h | h | h | h | h
    · simp [h]
    · simp [h]
    · simp [h]
    · simp [h]
    · simp [h]
    · rcases hA c h with h | h
      · simp [h]
      · exact .inr h
  exact { gq := (kc _ (lt _ (by simp [QB.core])) xq ne.q_pm.symm nq).trans H.gq
          hx := hx'
          mf := by
            obtain ⟨es, ck, gf, a, f, g⟩ := H.mf
            refine ⟨es, ck, (kc _ (lt _ (by simp [QB.core])) xf ne.fm_pm.symm nf).trans gf, a, fun k => ?_, g⟩
            rw [f]
            show (Q.F k).map ptrOf = (updF Q.F flow _ k).map ptrOf
            by_cases e : k = flow
            · subst e; rw [updF_same, hF]; simp only [Option.map, ptrOf, hblk]
            · rw [updF_other _ _ e]
          mp := mp'
          fl := fun k y hy => by
            have h1 : updF Q.F flow _ k = some y := hy
            clear hy
            by_cases e : k = flow
            · subst e
              rw [updF_same] at h1
              cases h1
              rw [hblk]
              refine ⟨kx, by omega, fun hm => ?_⟩
              rcases newcore _ hm with h | h
              · exact hxc h
              · omega
            · rw [updF_other _ _ e] at h1
              obtain ⟨a1, a2, a3⟩ := H.fl k y h1
              refine ⟨(kc _ a2 (fun e' => e (H.inj _ _ _ _ h1 hF e'.symm)) (fun e' => a3 (by simp [QB.core, e'])) (fun hm => a3 (inh _ hm))).trans a1, by omega, fun hm => ?_⟩
              rcases newcore _ hm with h | h
              · exact a3 h
              · omega
          inj := fun k k' y y' hy hy' hb => by
            have h1 : updF Q.F flow _ k = some y := hy
            have h2 : updF Q.F flow _ k' = some y' := hy'
            clear hy hy'
            by_cases e : k = flow <;> by_cases e' : k' = flow
            · rw [e, e']
            · rw [e, updF_same] at h1
              rw [updF_other _ _ e'] at h2
              cases h1
              rw [e]
              exact H.inj _ _ _ _ hF h2 (hblk.symm.trans hb)
            · rw [e', updF_same] at h2
              rw [updF_other _ _ e] at h1
              cases h2
              rw [e']
              exact H.inj _ _ _ _ h1 hF (hb.trans hblk)
            · rw [updF_other _ _ e] at h1
              rw [updF_other _ _ e'] at h2
              exact H.inj k k' y y' h1 h2 hb
          nodup := ne.core (n := σ.next) hA lt hx'.nodup
          lt := fun c hc => by
            have h3 := hx'.lt
            simp only [QB.core, List.mem_cons] at hc
            rcases hc with h | h | h | h | h | h
            · have := lt b.q (by simp [QB.core]); omega
            · have := lt b.fm (by simp [QB.core]); omega
            · have := lt b.pm (by simp [QB.core]); omega
            · exact h3 c (by simp [h])
            · exact h3 c (by simp [h])
            · exact h3 c (by simp [h]) }

def TakeR (σ : St) (b : QB) (Q : QV) (id flow size : Int) (x : FlowV) (σ' : St) (l : Log) : Prop :=
  (∀ c ∈ l, Foot b Q c ∨ σ.next ≤ c) ∧ QAt σ' b { Q with F := updF Q.F flow (some { x with bytes := x.bytes - size }), P := updF Q.P id none, np := Q.np - 1, L := outL Q.L 0 }

set_option maxRecDepth 20000 in
theorem qtake_call {σ : St} {b : QB} {Q : QV} (H : QAt σ b Q) {y : Item} (hy : Q.L[0]? = some y) {flow size : Int} (hP : Q.P y.id = some (flow, size)) {x : FlowV} (hF : Q.F flow = some x) (hsz : 0 ≤ size ∧ size ≤ 2000) (hb : 0 ≤ x.bytes ∧ x.bytes ≤ 100000000) :
    callX Try.prog 26 [.pointer (some ⟨b.q, 0, none⟩)] σ fun e σ' l =>
      e = .ret (.tuple ⟨[.agg ⟨[.int .i64 y.id, .int .i64 flow, .int .i64 size]⟩, .agg ⟨[.int .i64 y.n, .int .i64 y.d]⟩, .bool true]⟩) ∧ TakeR σ b Q y.id flow size x σ' l := by
  have gq := H.gq
  obtain ⟨es, ck, gf, hki, hlk, hlen⟩ := H.mf
  obtain ⟨ep, cp, gp, hkp, hlp, hlenp⟩ := H.mp
  obtain ⟨gx, hxl, hxc⟩ := H.fl flow x hF
  have hq : b.q < σ.next := H.lt _ (by simp [QB.core])
  have hfm : b.fm < σ.next := H.lt _ (by simp [QB.core])
  have hpm : b.pm < σ.next := H.lt _ (by simp [QB.core])
  obtain ⟨j, e, hfind, hev, _, _⟩ := findV_some und2' (i := 0) (v := ptrOf x) hki ((hlk flow).trans (by show (Q.F flow).map ptrOf = _; rw [hF]; rfl))
  obtain ⟨jp, ep', hfindp, hevp, hjp, hkeyp⟩ := findV_some und2' (i := 0) (v := packOf y.id (flow, size)) hkp ((hlp y.id).trans (by show (Q.P y.id).map (packOf y.id) = _; rw [hP]; rfl))
  have w2 : IntKind.i64.wrap (x.bytes - size) = x.bytes - size := wrapI (by omega) (by omega)
  have l0 : ((Q.L.length : Int) == 0) = false := by
    have := (List.getElem?_eq_some_iff.1 hy).1
    rw [beq_eq_false_iff_ne]; omega
  have ne := H.ne
  have hx := H.hx
  have hA := H.hx.lt
  have n1 : ¬ x.blk = b.q := fun e' => hxc (by simp [QB.core, e'])
  have n2 : ¬ x.blk = b.pm := fun e' => hxc (by simp [QB.core, e'])
  have n3 : ¬ b.q = b.pm := ne.q_pm
  have n4 : ¬ b.pm = b.q := ne.q_pm.symm
  have n5 : ¬ b.q = x.blk := fun e' => n1 e'.symm
  have n6 : ¬ b.pm = x.blk := fun e' => n2 e'.symm
  have n7 : ¬ b.pm = b.fm := ne.fm_pm.symm
  have n8 : ¬ x.blk = b.fm := fun e' => hxc (by simp [QB.core, e'])
  simp only [FlowV.cells] at gx
  have inh : ∀ c ∈ b.h :: b.m :: b.A, c ∈ b.core := fun c hc => by simp only [QB.core, List.mem_cons] at hc ⊢; rcases hc with h | h | h <;> simp [h]
  have nq : b.q ∉ b.h :: b.m :: b.A := fun hm => by
    simp only [List.mem_cons] at hm
    rcases hm with h | h | h
    · exact ne.q_h h
    · exact ne.q_m h
    · exact (ne.A _ h).1 rfl
  have nf : b.fm ∉ b.h :: b.m :: b.A := fun hm => by
    simp only [List.mem_cons] at hm
    rcases hm with h | h | h
    · exact ne.fm_h h
    · exact ne.fm_m h
    · exact (ne.A _ h).2.1 rfl
  have np : b.pm ∉ b.h :: b.m :: b.A := fun hm => by
    simp only [List.mem_cons] at hm
    rcases hm with h | h | h
    · exact ne.pm_h h
    · exact ne.pm_m h
    · exact (ne.A _ h).2.2.1 rfl
  refine enter (p := q8) Try.func26 rfl stat26 ?_
  simp only [go_sem, Nat.reducePow, Nat.reduceDiv, Nat.reduceMod, Nat.reduceAdd, Nat.reduceSub, Nat.reduceMul, Nat.reduceLeDiff, Nat.reduceLT, Nat.reduceEqDiff, reduceCtorEq, reduceIte, reduceDIte, if_pos rfl, Int.reduceLT, Int.reduceLE, Int.reduceEq, Int.reduceNeg, Int.reduceAdd, Int.reduceSub, Int.reduceMul, Int.reduceToNat, opLen, callW, q8, p8, p7, p6, p5, p4, p3, p2, p1, Try.f26]
  refine .of (qnone_call (q := b.q) (by simp only [go_sem, Nat.reducePow, Nat.reduceDiv, Nat.reduceMod, Nat.reduceAdd, Nat.reduceSub, Nat.reduceMul, Nat.reduceLeDiff, Nat.reduceLT, Nat.reduceEqDiff, reduceCtorEq, reduceIte, reduceDIte, if_pos rfl, Int.reduceLT, Int.reduceLE, Int.reduceEq, Int.reduceNeg, Int.reduceAdd, Int.reduceSub, Int.reduceMul, Int.reduceToNat, opLen, hq, gq]; rfl)) ?_
  simp only [go_sem, Nat.reducePow, Nat.reduceDiv, Nat.reduceMod, Nat.reduceAdd, Nat.reduceSub, Nat.reduceMul, Nat.reduceLeDiff, Nat.reduceLT, Nat.reduceEqDiff, reduceCtorEq, reduceIte, reduceDIte, if_pos rfl, Int.reduceLT, Int.reduceLE, Int.reduceEq, Int.reduceNeg, Int.reduceAdd, Int.reduceSub, Int.reduceMul, Int.reduceToNat, opLen, callW, q8, p8, p7, p6, p5, p4, p3, p2, p1]
  refine .of (qlen_call (H.keep ?_ ?_)) ?_
  · simp only [go_sem, Nat.reducePow, Nat.reduceDiv, Nat.reduceMod, Nat.reduceAdd, Nat.reduceSub, Nat.reduceMul, Nat.reduceLeDiff, Nat.reduceLT, Nat.reduceEqDiff, reduceCtorEq, reduceIte, reduceDIte, if_pos rfl, Int.reduceLT, Int.reduceLE, Int.reduceEq, Int.reduceNeg, Int.reduceAdd, Int.reduceSub, Int.reduceMul, Int.reduceToNat, opLen]
  · intro c hc
    have : c < σ.next := by
      rcases hc with hc | ⟨k, z, hz, rfl⟩
      · exact H.lt c hc
      · exact (H.fl k z hz).2.1
    simp only [go_sem, Nat.reducePow, Nat.reduceDiv, Nat.reduceMod, Nat.reduceAdd, Nat.reduceSub, Nat.reduceMul, Nat.reduceLeDiff, Nat.reduceLT, Nat.reduceEqDiff, reduceCtorEq, reduceIte, reduceDIte, if_pos rfl, Int.reduceLT, Int.reduceLE, Int.reduceEq, Int.reduceNeg, Int.reduceAdd, Int.reduceSub, Int.reduceMul, Int.reduceToNat, opLen, this]
  simp only [go_sem, Nat.reducePow, Nat.reduceDiv, Nat.reduceMod, Nat.reduceAdd, Nat.reduceSub, Nat.reduceMul, Nat.reduceLeDiff, Nat.reduceLT, Nat.reduceEqDiff, reduceCtorEq, reduceIte, reduceDIte, if_pos rfl, Int.reduceLT, Int.reduceLE, Int.reduceEq, Int.reduceNeg, Int.reduceAdd, Int.reduceSub, Int.reduceMul, Int.reduceToNat, opLen, callW, q8, p8, p7, p6, p5, p4, p3, p2, p1, l0, gq, hq]
  refine callX.ret (HX.take (hx.keep ?_ ?_) hy) ?_
  · simp only [go_sem, Nat.reducePow, Nat.reduceDiv, Nat.reduceMod, Nat.reduceAdd, Nat.reduceSub, Nat.reduceMul, Nat.reduceLeDiff, Nat.reduceLT, Nat.reduceEqDiff, reduceCtorEq, reduceIte, reduceDIte, if_pos rfl, Int.reduceLT, Int.reduceLE, Int.reduceEq, Int.reduceNeg, Int.reduceAdd, Int.reduceSub, Int.reduceMul, Int.reduceToNat, opLen]
  · intro c hc
    have := hA c hc
    simp only [go_sem, Nat.reducePow, Nat.reduceDiv, Nat.reduceMod, Nat.reduceAdd, Nat.reduceSub, Nat.reduceMul, Nat.reduceLeDiff, Nat.reduceLT, Nat.reduceEqDiff, reduceCtorEq, reduceIte, reduceDIte, if_pos rfl, Int.reduceLT, Int.reduceLE, Int.reduceEq, Int.reduceNeg, Int.reduceAdd, Int.reduceSub, Int.reduceMul, Int.reduceToNat, opLen, this]
  intro σ' l hl ⟨hlg, hx'⟩
  have nx := hl.1
  have kp := keep_log hl hlg
  have hl2 : ∀ c ∈ l, c ∈ b.h :: b.m :: b.A ∨ σ.next + 2 ≤ c := fun c hc => by
    rcases hlg c hc with h | h
    · exact .inl h
    · simp only [go_sem, Nat.reducePow, Nat.reduceDiv, Nat.reduceMod, Nat.reduceAdd, Nat.reduceSub, Nat.reduceMul, Nat.reduceLeDiff, Nat.reduceLT, Nat.reduceEqDiff, reduceCtorEq, reduceIte, reduceDIte, if_pos rfl, Int.reduceLT, Int.reduceLE, Int.reduceEq, Int.reduceNeg, Int.reduceAdd, Int.reduceSub, Int.reduceMul, Int.reduceToNat, opLen] at h
      exact .inr h
  have k0 := kp σ.next (by simp only [go_sem, Nat.reducePow, Nat.reduceDiv, Nat.reduceMod, Nat.reduceAdd, Nat.reduceSub, Nat.reduceMul, Nat.reduceLeDiff, Nat.reduceLT, Nat.reduceEqDiff, reduceCtorEq, reduceIte, reduceDIte, if_pos rfl, Int.reduceLT, Int.reduceLE, Int.reduceEq, Int.reduceNeg, Int.reduceAdd, Int.reduceSub, Int.reduceMul, Int.reduceToNat, opLen]) fun hm => by have := hA _ hm; omega
  have k1 := kp (σ.next + 1) (by simp only [go_sem, Nat.reducePow, Nat.reduceDiv, Nat.reduceMod, Nat.reduceAdd, Nat.reduceSub, Nat.reduceMul, Nat.reduceLeDiff, Nat.reduceLT, Nat.reduceEqDiff, reduceCtorEq, reduceIte, reduceDIte, if_pos rfl, Int.reduceLT, Int.reduceLE, Int.reduceEq, Int.reduceNeg, Int.reduceAdd, Int.reduceSub, Int.reduceMul, Int.reduceToNat, opLen]) fun hm => by have := hA _ hm; omega
  have kc : ∀ c, c < σ.next → c ∉ b.h :: b.m :: b.A → σ'.get c = σ.get c := fun c c1 c4 => by
    have := kp c (by simp only [go_sem, Nat.reducePow, Nat.reduceDiv, Nat.reduceMod, Nat.reduceAdd, Nat.reduceSub, Nat.reduceMul, Nat.reduceLeDiff, Nat.reduceLT, Nat.reduceEqDiff, reduceCtorEq, reduceIte, reduceDIte, if_pos rfl, Int.reduceLT, Int.reduceLE, Int.reduceEq, Int.reduceNeg, Int.reduceAdd, Int.reduceSub, Int.reduceMul, Int.reduceToNat, opLen, c1]) c4
    simp only [go_sem, Nat.reducePow, Nat.reduceDiv, Nat.reduceMod, Nat.reduceAdd, Nat.reduceSub, Nat.reduceMul, Nat.reduceLeDiff, Nat.reduceLT, Nat.reduceEqDiff, reduceCtorEq, reduceIte, reduceDIte, if_pos rfl, Int.reduceLT, Int.reduceLE, Int.reduceEq, Int.reduceNeg, Int.reduceAdd, Int.reduceSub, Int.reduceMul, Int.reduceToNat, opLen, c1] at this
    exact this
  have gq' := (kc b.q hq nq).trans gq
  have gf' := (kc b.fm hfm nf).trans gf
  have gp' := (kc b.pm hpm np).trans gp
  have gx' := (kc x.blk hxl fun hm => hxc (inh _ hm)).trans gx
  simp only [go_sem, Nat.reducePow, Nat.reduceDiv, Nat.reduceMod, Nat.reduceAdd, Nat.reduceSub, Nat.reduceMul, Nat.reduceLeDiff, Nat.reduceLT, Nat.reduceEqDiff, reduceCtorEq, reduceIte, reduceDIte, if_pos rfl, Int.reduceLT, Int.reduceLE, Int.reduceEq, Int.reduceNeg, Int.reduceAdd, Int.reduceSub, Int.reduceMul, Int.reduceToNat, opLen] at nx k0 k1
  clear kp hl hlg
  have hq' : b.q < σ'.next := by omega
  have hfm' : b.fm < σ'.next := by omega
  have hpm' : b.pm < σ'.next := by omega
  have hxl' : x.blk < σ'.next := by omega
  have h0' : σ.next < σ'.next := by omega
  have h1' : σ.next + 1 < σ'.next := by omega
  simp only [go_sem, Nat.reducePow, Nat.reduceDiv, Nat.reduceMod, Nat.reduceAdd, Nat.reduceSub, Nat.reduceMul, Nat.reduceLeDiff, Nat.reduceLT, Nat.reduceEqDiff, reduceCtorEq, reduceIte, reduceDIte, if_pos rfl, Int.reduceLT, Int.reduceLE, Int.reduceEq, Int.reduceNeg, Int.reduceAdd, Int.reduceSub, Int.reduceMul, Int.reduceToNat, opLen, callW, q8, p8, p7, p6, p5, p4, p3, p2, p1, packOf, ptrOf, k0, k1, gq', gf', gp', gx', hq', hfm', hpm', hxl', h0', h1', hfind, hev, hfindp, hevp, und2', w2, n1, n2, n3, n4, n5, n6, n7, n8, hq, hfm, hpm, hxl]
  obtain ⟨kd1, kd2⟩ := delV_KI hkp hjp hkeyp
  have kd3 := delV_length hjp
  have fx : Foot b Q x.blk := .inr ⟨flow, x, hF, rfl⟩
  refine ⟨fun c hc => ?_, H.change (x' := { x with bytes := x.bytes - size }) (A' := b.A) hF rfl ?_ (fun c hc => .inl hc) ?_ ?_ ?_ ?_⟩
  · simp only [List.mem_cons, List.mem_append, List.not_mem_nil, or_false] at hc
    rcases hc with (h | h) | h | h | h | h | h
    · rcases hl2 c h with h | h
      · exact .inl (.inl (inh c h))
      · exact .inr (by omega)
    · exact .inr (by omega)
    · exact .inr (by omega)
    · exact .inl (.inl (by simp [QB.core, h]))
    · exact .inl (h ▸ fx)
    · exact .inr (by omega)
    · exact .inr (by omega)
  · refine hx'.keep (by simp only [go_sem, Nat.reducePow, Nat.reduceDiv, Nat.reduceMod, Nat.reduceAdd, Nat.reduceSub, Nat.reduceMul, Nat.reduceLeDiff, Nat.reduceLT, Nat.reduceEqDiff, reduceCtorEq, reduceIte, reduceDIte, if_pos rfl, Int.reduceLT, Int.reduceLE, Int.reduceEq, Int.reduceNeg, Int.reduceAdd, Int.reduceSub, Int.reduceMul, Int.reduceToNat, opLen]) fun c hc => ?_
    have c1 := hA c hc
    have c2 : c < σ'.next := by omega
    have c3 : ¬ b.pm = c := fun e' => np (e' ▸ hc)
    have c4 : ¬ x.blk = c := fun e' => hxc (e' ▸ inh c hc)
    simp only [go_sem, Nat.reducePow, Nat.reduceDiv, Nat.reduceMod, Nat.reduceAdd, Nat.reduceSub, Nat.reduceMul, Nat.reduceLeDiff, Nat.reduceLT, Nat.reduceEqDiff, reduceCtorEq, reduceIte, reduceDIte, if_pos rfl, Int.reduceLT, Int.reduceLE, Int.reduceEq, Int.reduceNeg, Int.reduceAdd, Int.reduceSub, Int.reduceMul, Int.reduceToNat, opLen, c1, c2, c3, c4]
  · intro c c1 c2 c3 c4
    have c5 : c < σ'.next := by omega
    simp only [go_sem, Nat.reducePow, Nat.reduceDiv, Nat.reduceMod, Nat.reduceAdd, Nat.reduceSub, Nat.reduceMul, Nat.reduceLeDiff, Nat.reduceLT, Nat.reduceEqDiff, reduceCtorEq, reduceIte, reduceDIte, if_pos rfl, Int.reduceLT, Int.reduceLE, Int.reduceEq, Int.reduceNeg, Int.reduceAdd, Int.reduceSub, Int.reduceMul, Int.reduceToNat, opLen, c1, c2, c3, c5]
    exact kc c c1 c4
  · simp only [go_sem, Nat.reducePow, Nat.reduceDiv, Nat.reduceMod, Nat.reduceAdd, Nat.reduceSub, Nat.reduceMul, Nat.reduceLeDiff, Nat.reduceLT, Nat.reduceEqDiff, reduceCtorEq, reduceIte, reduceDIte, if_pos rfl, Int.reduceLT, Int.reduceLE, Int.reduceEq, Int.reduceNeg, Int.reduceAdd, Int.reduceSub, Int.reduceMul, Int.reduceToNat, opLen]; omega
  · simp only [go_sem, Nat.reducePow, Nat.reduceDiv, Nat.reduceMod, Nat.reduceAdd, Nat.reduceSub, Nat.reduceMul, Nat.reduceLeDiff, Nat.reduceLT, Nat.reduceEqDiff, reduceCtorEq, reduceIte, reduceDIte, if_pos rfl, Int.reduceLT, Int.reduceLE, Int.reduceEq, Int.reduceNeg, Int.reduceAdd, Int.reduceSub, Int.reduceMul, Int.reduceToNat, opLen, FlowV.cells, hxl, hxl', n1, n2]
  · refine ⟨delE ep jp, cp, by simp only [go_sem, Nat.reducePow, Nat.reduceDiv, Nat.reduceMod, Nat.reduceAdd, Nat.reduceSub, Nat.reduceMul, Nat.reduceLeDiff, Nat.reduceLT, Nat.reduceEqDiff, reduceCtorEq, reduceIte, reduceDIte, if_pos rfl, Int.reduceLT, Int.reduceLE, Int.reduceEq, Int.reduceNeg, Int.reduceAdd, Int.reduceSub, Int.reduceMul, Int.reduceToNat, opLen, hpm, hpm', n2], kd1, fun k => ?_, by omega⟩
    rw [kd2]
    show _ = (updF Q.P y.id none k).map (packOf k)
    by_cases e' : k = y.id
    · subst e'; rw [if_pos rfl, updF_same]; rfl
    · rw [if_neg e', updF_other _ _ e', hlp]
end Go.Ab

set_option linter.unusedSimpArgs false
set_option linter.unusedVariables false
namespace Go.Ab
open Go.Proofs

theorem number_loop {D : List Nat} {v : Value} {σ : St} (B : BigS σ v D) (hv : val D < 9223372036854775808) (hLow : Low D) (a1 a2 a3 b6 b7 b8 b9 b10 b11 c24 c25 c26 c27 : Value) : ∀ (k N : Nat) (x12 x13 x14 x15 x16 x17 x18 x19 x20 x21 x22 x23 : Value) (Q : RR → Prop), k ≤ D.length → D.length ≤ 1000 → N = val (D.drop k) →
    (∀ y12 y13 y14 y15 y16 y17 y18 y19 y20 y21 y22 y23, Q ⟨.exit 0, ⟨[v, a1, a2, a3, .int .u64 (val D : Int), .int .i64 (-1), b6, b7, b8, b9, b10, b11, y12, y13, y14, y15, y16, y17, y18, y19, y20, y21, y22, y23, c24, c25, c26, c27], []⟩, σ, []⟩) →
    loopX Try.prog false (loopOf (Try.f97.body.getD .skip)) ⟨[v, a1, a2, a3, .int .u64 (N : Int), .int .i64 ((k : Int) - 1), b6, b7, b8, b9, b10, b11, x12, x13, x14, x15, x16, x17, x18, x19, x20, x21, x22, x23, c24, c25, c26, c27], []⟩ σ Q := by
  intro k
  induction k with
  | zero =>
    intro N x12 x13 x14 x15 x16 x17 x18 x19 x20 x21 x22 x23 Q _ _ hN hQ
    rw [List.drop_zero] at hN
    subst hN
    refine turn q8 97 (by kernel_rfl) ?_
    simp only [go_sem, Nat.reducePow, Nat.reduceDiv, Nat.reduceMod, Nat.reduceAdd, Nat.reduceSub, Nat.reduceMul, Nat.reduceLeDiff, Nat.reduceLT, Nat.reduceEqDiff, reduceCtorEq, reduceIte, reduceDIte, if_pos rfl, Int.reduceLT, Int.reduceLE, Int.reduceEq, Int.reduceNeg, Int.reduceAdd, Int.reduceSub, Int.reduceMul, Int.reduceToNat, opLen, callW, q8, p8, p7, p6, p5, p4, p3, p2, p1, loopOf, Try.f97, Option.getD, Int.natCast_zero, Int.zero_sub, hQ]
  | succ j ih =>
    intro N x12 x13 x14 x15 x16 x17 x18 x19 x20 x21 x22 x23 Q hk hl hN hQ
    have e : ((j + 1 : Nat) : Int) - 1 = (j : Int) := by omega
    obtain ⟨d, hd⟩ : ∃ d, D[j]? = some d := ⟨_, List.getElem?_eq_getElem (show j < D.length by omega)⟩
    obtain ⟨bb, sp, cap, vs, ro, rfl, h2, h3, h4⟩ := B.at hd
    have hdl : d < 65536 := hLow d (List.mem_of_getElem? hd)
    have hdrop : val (D.drop j) = d + 65536 * N := by
      rw [hN, List.drop_eq_getElem_cons (show j < D.length by omega)]
      have : D[j]'(by omega) = d := by
        have := hd
        rw [List.getElem?_eq_getElem (by omega)] at this
        simpa using this
      rw [this]; rfl
    have hle : val (D.drop j) ≤ val D := by
      have := val_append (D.take j) (D.drop j)
      rw [List.take_append_drop] at this
      have h1 : 1 * val (D.drop j) ≤ 65536 ^ (D.take j).length * val (D.drop j) := Nat.mul_le_mul_right _ (Nat.one_le_pow _ _ (by omega))
      omega
    have c1 : (0 : Int) ≤ (j : Int) := by omega
    have c2 : (j : Int) < (D.length : Int) := by omega
    have w1 : IntKind.u64.wrap ((N : Int) * 65536) = ((N * 65536 : Nat) : Int) := by
      have : (N : Int) * 65536 = ((N * 65536 : Nat) : Int) := by omega
      rw [this]; exact wrapUN (by omega)
    have w2 : IntKind.u64.wrap (d : Int) = (d : Int) := wrapUN (by omega)
    have w3 : IntKind.u64.wrap (((N * 65536 : Nat) : Int) + (d : Int)) = ((val (D.drop j) : Nat) : Int) := by
      have : ((N * 65536 : Nat) : Int) + (d : Int) = ((val (D.drop j) : Nat) : Int) := by omega
      rw [this]; exact wrapUN (by omega)
    have w4 : IntKind.i64.wrap ((j : Int) - 1) = (j : Int) - 1 := wrapI (by omega) (by omega)
    rw [e]
    refine turn q8 97 (by kernel_rfl) ?_
    simp only [go_sem, Nat.reducePow, Nat.reduceDiv, Nat.reduceMod, Nat.reduceAdd, Nat.reduceSub, Nat.reduceMul, Nat.reduceLeDiff, Nat.reduceLT, Nat.reduceEqDiff, reduceCtorEq, reduceIte, reduceDIte, if_pos rfl, Int.reduceLT, Int.reduceLE, Int.reduceEq, Int.reduceNeg, Int.reduceAdd, Int.reduceSub, Int.reduceMul, Int.reduceToNat, opLen, callW, q8, p8, p7, p6, p5, p4, p3, p2, p1, loopOf, Try.f97, Option.getD, c1, c2, h3, h4, w1, w2, w3, w4, Int.toNat_natCast, Nat.mul_one, Nat.zero_add]
    refine ih _ _ _ _ _ _ _ _ _ _ _ _ _ _ (by omega) hl rfl fun y12 y13 y14 y15 y16 y17 y18 y19 y20 y21 y22 y23 => ?_
    simp only [go_sem, Nat.reducePow, Nat.reduceDiv, Nat.reduceMod, Nat.reduceAdd, Nat.reduceSub, Nat.reduceMul, Nat.reduceLeDiff, Nat.reduceLT, Nat.reduceEqDiff, reduceCtorEq, reduceIte, reduceDIte, if_pos rfl, Int.reduceLT, Int.reduceLE, Int.reduceEq, Int.reduceNeg, Int.reduceAdd, Int.reduceSub, Int.reduceMul, Int.reduceToNat, opLen]
    exact hQ y12 y13 y14 y15 y16 y17 y18 y19 y20 y21 y22 y23

theorem number_call {n : Nat} {v : Value} {σ : St} (B : BigS σ v (dig n)) (hn : n < 9223372036854775808) : DCall Try.prog 97 [v] σ (.ret (.tuple ⟨[.int .i64 (n : Int), .bool true]⟩)) σ [] := by
  have hl : (dig n).length ≤ 4 := dig_length_le (by omega)
  have hol := B.len
  have c1 : ¬ (4 : Int) < ((dig n).length : Int) := by omega
  have w1 : IntKind.i64.wrap (((dig n).length : Int) - 1) = ((dig n).length : Int) - 1 := wrapI (by omega) (by omega)
  have w2 : IntKind.i64.wrap (n : Int) = (n : Int) := wrapIN hn
  have c2 : (n : Int) < 9223372036854775808 := by omega
  have e0 : (0 : Int) = ((0 : Nat) : Int) := rfl
  have B' := B
  rcases B' with ⟨rfl, hd⟩ | ⟨bb, sp, cap, G, ro, rfl, _⟩
  · have hn0 : n = 0 := dig_nil.1 hd
    subst hn0
    refine pure_call (enter (p := q8) Try.func97 rfl stat97 ?_) rfl
    simp only [go_sem, Nat.reducePow, Nat.reduceDiv, Nat.reduceMod, Nat.reduceAdd, Nat.reduceSub, Nat.reduceMul, Nat.reduceLeDiff, Nat.reduceLT, Nat.reduceEqDiff, reduceCtorEq, reduceIte, reduceDIte, if_pos rfl, Int.reduceLT, Int.reduceLE, Int.reduceEq, Int.reduceNeg, Int.reduceAdd, Int.reduceSub, Int.reduceMul, Int.reduceToNat, opLen, callW, q8, p8, p7, p6, p5, p4, p3, p2, p1, Try.f97]
    refine turn q8 97 (by kernel_rfl) ?_
    simp only [go_sem, Nat.reducePow, Nat.reduceDiv, Nat.reduceMod, Nat.reduceAdd, Nat.reduceSub, Nat.reduceMul, Nat.reduceLeDiff, Nat.reduceLT, Nat.reduceEqDiff, reduceCtorEq, reduceIte, reduceDIte, if_pos rfl, Int.reduceLT, Int.reduceLE, Int.reduceEq, Int.reduceNeg, Int.reduceAdd, Int.reduceSub, Int.reduceMul, Int.reduceToNat, opLen, callW, q8, p8, p7, p6, p5, p4, p3, p2, p1, Int.natCast_zero]
  · refine pure_call (enter (p := q8) Try.func97 rfl stat97 ?_) rfl
    simp only [go_sem, Nat.reducePow, Nat.reduceDiv, Nat.reduceMod, Nat.reduceAdd, Nat.reduceSub, Nat.reduceMul, Nat.reduceLeDiff, Nat.reduceLT, Nat.reduceEqDiff, reduceCtorEq, reduceIte, reduceDIte, if_pos rfl, Int.reduceLT, Int.reduceLE, Int.reduceEq, Int.reduceNeg, Int.reduceAdd, Int.reduceSub, Int.reduceMul, Int.reduceToNat, opLen, callW, q8, p8, p7, p6, p5, p4, p3, p2, p1, c1, w1, Try.f97]
    refine number_loop B (by rw [val_dig]; exact hn) (dig_low n) _ _ _ _ _ _ _ _ _ _ _ _ _ (dig n).length 0 _ _ _ _ _ _ _ _ _ _ _ _ _ (Nat.le_refl _) (by omega) (by rw [List.drop_length]; rfl) fun y12 y13 y14 y15 y16 y17 y18 y19 y20 y21 y22 y23 => ?_
    simp only [go_sem, Nat.reducePow, Nat.reduceDiv, Nat.reduceMod, Nat.reduceAdd, Nat.reduceSub, Nat.reduceMul, Nat.reduceLeDiff, Nat.reduceLT, Nat.reduceEqDiff, reduceCtorEq, reduceIte, reduceDIte, if_pos rfl, Int.reduceLT, Int.reduceLE, Int.reduceEq, Int.reduceNeg, Int.reduceAdd, Int.reduceSub, Int.reduceMul, Int.reduceToNat, opLen, callW, q8, p8, p7, p6, p5, p4, p3, p2, p1, val_dig, w2, c2]
theorem kept_of {f : FuncId} {args : List Value} {σ σ' : St} {e : AE} (d : DCall Try.prog f args σ e σ' []) : σ.next ≤ σ'.next ∧ ∀ c, c < σ.next → σ'.get c = σ.get c := ⟨d.1.1, fun c hc => d.1.2 c hc (by simp)⟩

theorem frac_call {n d : Nat} {v w : Value} {σ : St} (bn : BigS σ v (dig n)) (bd : BigS σ w (dig d)) (hd : 0 < d) (sn : (dig n).length ≤ 20) (sd : (dig d).length ≤ 20) (h1 : n / Nat.gcd n d < 9223372036854775808) (h2 : d / Nat.gcd n d < 9223372036854775808) :
    callX Try.prog 65 [v, .bool false, w] σ (fun e _ l => e = .ret (.tuple ⟨[.agg ⟨[.int .i64 ((n / Nat.gcd n d : Nat) : Int), .int .i64 ((d / Nat.gcd n d : Nat) : Int)]⟩, .int .i64 0]⟩) ∧ ∀ c ∈ l, σ.next ≤ c) := by
  have bd0 := bd
  have g0 : 0 < Nat.gcd n d := Nat.gcd_pos_of_pos_right _ hd
  rcases bd0 with ⟨rfl, hz⟩ | ⟨bb, sp, cap, G, ro, rfl, _⟩
  · have := dig_nil.1 hz; omega
  have l0 : (((dig d).length : Int) == 0) = false := by
    have : dig d ≠ [] := fun h => by have := dig_nil.1 h; omega
    have h3 : (dig d).length ≠ 0 := fun h => this (List.eq_nil_of_length_eq_zero h)
    rw [beq_eq_false_iff_ne]; omega
  let σ1 := σ.new (.cells [.int .i64 0, .int .i64 0] false)
  have k1 : σ.next ≤ σ1.next ∧ ∀ c, c < σ.next → σ1.get c = σ.get c := ⟨Nat.le_succ _, fun c hc => by rw [St.get_new, if_neg (by omega)]⟩
  have t1 : σ1.get σ.next = some (.cells [.int .i64 0, .int .i64 0] false) := by rw [St.get_new, if_pos rfl]
  have lt1 : σ.next < σ1.next := Nat.lt_succ_self _
  have bn1 := bn.keep k1.1 k1.2
  have bd1 := bd.keep k1.1 k1.2
  obtain ⟨σ2, g, d2, bg⟩ := gcdB_call bn1 bd1 sn sd
  have k2 := kept_of d2
  have sg : (dig (Nat.gcd n d)).length ≤ 20 := Nat.le_trans (dig_len_mono (Nat.gcd_le_right _ hd)) sd
  obtain ⟨σ3, x, xr, d3, bx, _, _, _⟩ := div_call (bn1.keep k2.1 k2.2) bg g0 sn sg
  have k3 := kept_of d3
  have bd3 := (bd1.keep k2.1 k2.2).keep k3.1 k3.2
  obtain ⟨σ4, y, yr, d4, by', _, _, _⟩ := div_call bd3 (bg.keep k3.1 k3.2) g0 sd sg
  have k4 := kept_of d4
  have d5 := number_call (bx.keep k4.1 k4.2) h1
  have d6 := number_call by' h2
  have t4 : σ4.get σ.next = some (.cells [.int .i64 0, .int .i64 0] false) := (k4.2 _ (by omega)).trans ((k3.2 _ (by omega)).trans ((k2.2 _ lt1).trans t1))
  refine enter (p := q8) Try.func65 rfl stat65 ?_
  simp only [go_sem, Nat.reducePow, Nat.reduceDiv, Nat.reduceMod, Nat.reduceAdd, Nat.reduceSub, Nat.reduceMul, Nat.reduceLeDiff, Nat.reduceLT, Nat.reduceEqDiff, reduceCtorEq, reduceIte, reduceDIte, if_pos rfl, Int.reduceLT, Int.reduceLE, Int.reduceEq, Int.reduceNeg, Int.reduceAdd, Int.reduceSub, Int.reduceMul, Int.reduceToNat, opLen, callW, q8, p8, p7, p6, p5, p4, p3, p2, p1, l0, Try.f65]
  refine .of d2 ?_
  simp only [go_sem, Nat.reducePow, Nat.reduceDiv, Nat.reduceMod, Nat.reduceAdd, Nat.reduceSub, Nat.reduceMul, Nat.reduceLeDiff, Nat.reduceLT, Nat.reduceEqDiff, reduceCtorEq, reduceIte, reduceDIte, if_pos rfl, Int.reduceLT, Int.reduceLE, Int.reduceEq, Int.reduceNeg, Int.reduceAdd, Int.reduceSub, Int.reduceMul, Int.reduceToNat, opLen, callW, q8, p8, p7, p6, p5, p4, p3, p2, p1]
  refine .of d3 ?_
  simp only [go_sem, Nat.reducePow, Nat.reduceDiv, Nat.reduceMod, Nat.reduceAdd, Nat.reduceSub, Nat.reduceMul, Nat.reduceLeDiff, Nat.reduceLT, Nat.reduceEqDiff, reduceCtorEq, reduceIte, reduceDIte, if_pos rfl, Int.reduceLT, Int.reduceLE, Int.reduceEq, Int.reduceNeg, Int.reduceAdd, Int.reduceSub, Int.reduceMul, Int.reduceToNat, opLen, callW, q8, p8, p7, p6, p5, p4, p3, p2, p1]
  refine .of d4 ?_
  simp only [go_sem, Nat.reducePow, Nat.reduceDiv, Nat.reduceMod, Nat.reduceAdd, Nat.reduceSub, Nat.reduceMul, Nat.reduceLeDiff, Nat.reduceLT, Nat.reduceEqDiff, reduceCtorEq, reduceIte, reduceDIte, if_pos rfl, Int.reduceLT, Int.reduceLE, Int.reduceEq, Int.reduceNeg, Int.reduceAdd, Int.reduceSub, Int.reduceMul, Int.reduceToNat, opLen, callW, q8, p8, p7, p6, p5, p4, p3, p2, p1]
  refine .of d5 ?_
  simp only [go_sem, Nat.reducePow, Nat.reduceDiv, Nat.reduceMod, Nat.reduceAdd, Nat.reduceSub, Nat.reduceMul, Nat.reduceLeDiff, Nat.reduceLT, Nat.reduceEqDiff, reduceCtorEq, reduceIte, reduceDIte, if_pos rfl, Int.reduceLT, Int.reduceLE, Int.reduceEq, Int.reduceNeg, Int.reduceAdd, Int.reduceSub, Int.reduceMul, Int.reduceToNat, opLen, callW, q8, p8, p7, p6, p5, p4, p3, p2, p1]
  refine .of d6 ?_
  simp only [go_sem, Nat.reducePow, Nat.reduceDiv, Nat.reduceMod, Nat.reduceAdd, Nat.reduceSub, Nat.reduceMul, Nat.reduceLeDiff, Nat.reduceLT, Nat.reduceEqDiff, reduceCtorEq, reduceIte, reduceDIte, if_pos rfl, Int.reduceLT, Int.reduceLE, Int.reduceEq, Int.reduceNeg, Int.reduceAdd, Int.reduceSub, Int.reduceMul, Int.reduceToNat, opLen, callW, q8, p8, p7, p6, p5, p4, p3, p2, p1, t4]

theorem rmake_call (a r : Nat) (σ : St) (hr : 0 < r) (hr2 : r < 9223372036854775808) (ha : a < 9223372036854775808) :
    DCall Try.prog 27 [.int .i64 (a : Int), .int .i64 (r : Int)] σ (.ret (.tuple ⟨[.agg ⟨[.int .i64 (fN a r : Int), .int .i64 (fD a r : Int)]⟩, .int .i64 0]⟩)) σ [] := by
  have o1 : okI (a : Int) = true := by simp [okI]; omega
  have o2 : okI (r : Int) = true := by simp [okI]; omega
  have n1 : ((a : Int).natAbs : Int) = (a : Int) := by omega
  have n2 : ((r : Int).natAbs : Int) = (r : Int) := by omega
  have z1 := fun σ => sizeB_call (a : Int) σ o1
  have z2 := fun σ => sizeB_call (r : Int) σ o2
  simp only [n1] at z1
  simp only [n2] at z2
  let σ1 := σ.new (.cells [.int .i64 0, .int .i64 0] false)
  have lt1 : σ.next < σ1.next := Nat.lt_succ_self _
  have t1 : σ1.get σ.next = some (.cells [.int .i64 0, .int .i64 0] false) := by rw [St.get_new, if_pos rfl]
  obtain ⟨σ2, v, d2, bv, _⟩ := of_call (n := a) (by omega) σ1
  have k2 := kept_of d2
  obtain ⟨σ3, w, d3, bw, _⟩ := of_call (n := r) (by omega) σ2
  have k3 := kept_of d3
  have hf := frac_call (bv.keep k3.1 k3.2) bw hr (Nat.le_trans (dig_length_le (k := 4) (by omega)) (by omega)) (Nat.le_trans (dig_length_le (k := 4) (by omega)) (by omega))
    (Nat.lt_of_le_of_lt (Nat.div_le_self _ _) ha) (Nat.lt_of_le_of_lt (Nat.div_le_self _ _) hr2)
  have f1 : ¬ (a : Int) < 0 := by omega
  have f2 : ¬ (r : Int) < 0 := by omega
  have t3 : σ3.get σ.next = some (.cells [.int .i64 0, .int .i64 0] false) := (k3.2 _ (by omega)).trans ((k2.2 _ lt1).trans t1)
  refine pure_call (enter (p := q8) Try.func27 rfl stat27 ?_) rfl
  simp only [go_sem, Nat.reducePow, Nat.reduceDiv, Nat.reduceMod, Nat.reduceAdd, Nat.reduceSub, Nat.reduceMul, Nat.reduceLeDiff, Nat.reduceLT, Nat.reduceEqDiff, reduceCtorEq, reduceIte, reduceDIte, if_pos rfl, Int.reduceLT, Int.reduceLE, Int.reduceEq, Int.reduceNeg, Int.reduceAdd, Int.reduceSub, Int.reduceMul, Int.reduceToNat, opLen, callW, q8, p8, p7, p6, p5, p4, p3, p2, p1, Try.f27]
  refine .of (z1 _) ?_
  simp only [go_sem, Nat.reducePow, Nat.reduceDiv, Nat.reduceMod, Nat.reduceAdd, Nat.reduceSub, Nat.reduceMul, Nat.reduceLeDiff, Nat.reduceLT, Nat.reduceEqDiff, reduceCtorEq, reduceIte, reduceDIte, if_pos rfl, Int.reduceLT, Int.reduceLE, Int.reduceEq, Int.reduceNeg, Int.reduceAdd, Int.reduceSub, Int.reduceMul, Int.reduceToNat, opLen, callW, q8, p8, p7, p6, p5, p4, p3, p2, p1]
  refine .of d2 ?_
  have lt3 : σ.next ≤ σ3.next := by have := k2.1; have := k3.1; omega
  have fin : ∀ l : Log, (∀ c ∈ l, σ3.next ≤ c) → ∀ c, c ∈ l ∨ c = σ.next → σ.next ≤ c := fun l h c hc => by
    rcases hc with h' | h'
    · have := h c h'; omega
    · omega
  by_cases h0 : a = 0
  · have e0 : ((a : Int) != 0) = false := by simp [h0]
    simp only [go_sem, Nat.reducePow, Nat.reduceDiv, Nat.reduceMod, Nat.reduceAdd, Nat.reduceSub, Nat.reduceMul, Nat.reduceLeDiff, Nat.reduceLT, Nat.reduceEqDiff, reduceCtorEq, reduceIte, reduceDIte, if_pos rfl, Int.reduceLT, Int.reduceLE, Int.reduceEq, Int.reduceNeg, Int.reduceAdd, Int.reduceSub, Int.reduceMul, Int.reduceToNat, opLen, callW, q8, p8, p7, p6, p5, p4, p3, p2, p1, e0]
    refine .of (z2 _) ?_
    simp only [go_sem, Nat.reducePow, Nat.reduceDiv, Nat.reduceMod, Nat.reduceAdd, Nat.reduceSub, Nat.reduceMul, Nat.reduceLeDiff, Nat.reduceLT, Nat.reduceEqDiff, reduceCtorEq, reduceIte, reduceDIte, if_pos rfl, Int.reduceLT, Int.reduceLE, Int.reduceEq, Int.reduceNeg, Int.reduceAdd, Int.reduceSub, Int.reduceMul, Int.reduceToNat, opLen, callW, q8, p8, p7, p6, p5, p4, p3, p2, p1]
    refine .of d3 ?_
    simp only [go_sem, Nat.reducePow, Nat.reduceDiv, Nat.reduceMod, Nat.reduceAdd, Nat.reduceSub, Nat.reduceMul, Nat.reduceLeDiff, Nat.reduceLT, Nat.reduceEqDiff, reduceCtorEq, reduceIte, reduceDIte, if_pos rfl, Int.reduceLT, Int.reduceLE, Int.reduceEq, Int.reduceNeg, Int.reduceAdd, Int.reduceSub, Int.reduceMul, Int.reduceToNat, opLen, callW, q8, p8, p7, p6, p5, p4, p3, p2, p1]
    refine callX.ret hf ?_
    intro σ' l hl h1
    have t5 := (hl.2 σ.next (by omega) fun hm => by have := h1 _ hm; omega).trans t3
    simp only [go_sem, Nat.reducePow, Nat.reduceDiv, Nat.reduceMod, Nat.reduceAdd, Nat.reduceSub, Nat.reduceMul, Nat.reduceLeDiff, Nat.reduceLT, Nat.reduceEqDiff, reduceCtorEq, reduceIte, reduceDIte, if_pos rfl, Int.reduceLT, Int.reduceLE, Int.reduceEq, Int.reduceNeg, Int.reduceAdd, Int.reduceSub, Int.reduceMul, Int.reduceToNat, opLen, callW, q8, p8, p7, p6, p5, p4, p3, p2, p1, t5]
    exact ⟨rfl, fin l h1⟩
  · have e0 : ((a : Int) != 0) = true := by simp [h0]
    simp only [go_sem, Nat.reducePow, Nat.reduceDiv, Nat.reduceMod, Nat.reduceAdd, Nat.reduceSub, Nat.reduceMul, Nat.reduceLeDiff, Nat.reduceLT, Nat.reduceEqDiff, reduceCtorEq, reduceIte, reduceDIte, if_pos rfl, Int.reduceLT, Int.reduceLE, Int.reduceEq, Int.reduceNeg, Int.reduceAdd, Int.reduceSub, Int.reduceMul, Int.reduceToNat, opLen, callW, q8, p8, p7, p6, p5, p4, p3, p2, p1, e0, f1, f2]
    refine .of (z2 _) ?_
    simp only [go_sem, Nat.reducePow, Nat.reduceDiv, Nat.reduceMod, Nat.reduceAdd, Nat.reduceSub, Nat.reduceMul, Nat.reduceLeDiff, Nat.reduceLT, Nat.reduceEqDiff, reduceCtorEq, reduceIte, reduceDIte, if_pos rfl, Int.reduceLT, Int.reduceLE, Int.reduceEq, Int.reduceNeg, Int.reduceAdd, Int.reduceSub, Int.reduceMul, Int.reduceToNat, opLen, callW, q8, p8, p7, p6, p5, p4, p3, p2, p1]
    refine .of d3 ?_
    simp only [go_sem, Nat.reducePow, Nat.reduceDiv, Nat.reduceMod, Nat.reduceAdd, Nat.reduceSub, Nat.reduceMul, Nat.reduceLeDiff, Nat.reduceLT, Nat.reduceEqDiff, reduceCtorEq, reduceIte, reduceDIte, if_pos rfl, Int.reduceLT, Int.reduceLE, Int.reduceEq, Int.reduceNeg, Int.reduceAdd, Int.reduceSub, Int.reduceMul, Int.reduceToNat, opLen, callW, q8, p8, p7, p6, p5, p4, p3, p2, p1]
    refine callX.ret hf ?_
    intro σ' l hl h1
    have t5 := (hl.2 σ.next (by omega) fun hm => by have := h1 _ hm; omega).trans t3
    simp only [go_sem, Nat.reducePow, Nat.reduceDiv, Nat.reduceMod, Nat.reduceAdd, Nat.reduceSub, Nat.reduceMul, Nat.reduceLeDiff, Nat.reduceLT, Nat.reduceEqDiff, reduceCtorEq, reduceIte, reduceDIte, if_pos rfl, Int.reduceLT, Int.reduceLE, Int.reduceEq, Int.reduceNeg, Int.reduceAdd, Int.reduceSub, Int.reduceMul, Int.reduceToNat, opLen, callW, q8, p8, p7, p6, p5, p4, p3, p2, p1, t5]
    exact ⟨rfl, fin l h1⟩
end Go.Ab

set_option linter.unusedSimpArgs false
set_option linter.unusedVariables false
namespace Go.Ab
open Go.Proofs

theorem known12_call (σ : St) : DCall Try.prog 12 [] σ (.ret (.bool true)) σ [] := whole_call (n := 300) (d := 30) (by kernel_rfl) rfl rfl σ
theorem known22_call (σ : St) : DCall Try.prog 22 [] σ (.ret (.bool true)) σ [] := whole_call (n := 300) (d := 30) (by kernel_rfl) rfl rfl σ
theorem known33_call (σ : St) : DCall Try.prog 33 [] σ (.ret (.bool true)) σ [] := whole_call (n := 300) (d := 30) (by kernel_rfl) rfl rfl σ

end Go.Ab

set_option linter.unusedSimpArgs false
set_option linter.unusedVariables false
namespace Go.Ab
open Go.Proofs

/-- What is sent, as it came in. -/
def SendsIn (σ : St) (sa : Option Addr) (len : Nat) (vs : List Value) (A Z : Nat → Int) : Prop :=
  (0 < len → sa = some ⟨0, 0, some 0⟩ ∧ σ.get 0 = some (.cells vs true)) ∧
  ∀ i, i < len → lget? vs (i * 2) = some (.int .i64 (A i)) ∧ lget? vs (i * 2 + 1) = some (.int .i64 (Z i)) ∧ okI (A i) = true ∧ okI (Z i) = true

noncomputable def boundO : Code := loopOf (Try.f6.body.getD .skip)
noncomputable def boundI : Code := loopOf (nthC 1 (nthC 1 boundO))

structure F6 (ts : List Value) (R more : Int) (sa : Option Addr) (len cap q i : Nat) : Prop where
  size : ts.length = 169
  t0 : lget ts 0 = .int .i64 R
  t1 : lget ts 1 = .int .i64 more
  t2 : lget ts 2 = .slice sa len cap
  t7 : lget ts 7 = .pointer (some ⟨q, 0, none⟩)
  t8 : lget ts 8 = .int .i64 i

/-- How the inner loop is left: known, or all sums are small enough. -/
def E6I (R more : Int) (sa : Option Addr) (len cap q i : Nat) (A Z : Nat → Nat) (σ₀ : St) (x : AX) (fr : Fr) (σ : St) : Prop :=
  ∃ ts, fr = ⟨ts, []⟩ ∧ ((x = .ret ∧ ts.length = 169 ∧ lget ts 6 = .bool true) ∨ (x = .exit 2 ∧ σ = σ₀ ∧ F6 ts R more sa len cap q i ∧ ∀ n, n ≤ i → ((bs Z i (n + 1) : Nat) : Int) ≤ more + R * ((A i : Int) - (A (i - n) : Int))))

def I6I (R more : Int) (sa : Option Addr) (len cap q i : Nat) (A Z : Nat → Nat) (σ₀ : St) (m : Nat) (fr : Fr) (σ : St) : Prop :=
  ∃ ts n, fr = ⟨ts, []⟩ ∧ σ = σ₀ ∧ F6 ts R more sa len cap q i ∧ n ≤ i + 1 ∧ m + n = i + 2 ∧ lget ts 9 = .int .i64 (bs Z i n : Nat) ∧ lget ts 10 = .int .i64 ((i : Int) - n) ∧ ∀ k, k < n → ((bs Z i (k + 1) : Nat) : Int) ≤ more + R * ((A i : Int) - (A (i - k) : Int))

theorem mul_bound {R d M D : Int} (h0 : 0 ≤ R) (h1 : R ≤ M) (h2 : -D ≤ d) (h3 : d ≤ D) (hD : 0 ≤ D) : -(M * D) ≤ R * d ∧ R * d ≤ M * D := by
  have a1 : R * d ≤ R * D := Int.mul_le_mul_of_nonneg_left h3 h0
  have a2 : R * D ≤ M * D := Int.mul_le_mul_of_nonneg_right h1 hD
  have a3 : R * (-D) ≤ R * d := Int.mul_le_mul_of_nonneg_left h2 h0
  have a4 : R * (-D) = -(R * D) := Int.mul_neg _ _
  omega

theorem bound_inner {R more : Int} {sa : Option Addr} {len cap q i : Nat} {vs : List Value} {Ai Zi : Nat → Int} {A Z : Nat → Nat} {σ : St} (hn0 : 0 < σ.next) (hi : i < len) (hlen : len ≤ 40) (K : SendsIn σ sa len vs Ai Zi) (hR : 1 ≤ R ∧ R ≤ 1000000) (hm : 0 ≤ more ∧ more ≤ 100000)
    (hA : ∀ j, j ≤ i → Ai j = A j ∧ A j ≤ 2147483647) (hZ : ∀ j, j ≤ i → Zi j = Z j ∧ Z j ≤ 2000) :
    ∀ m fr σ', I6I R more sa len cap q i A Z σ m fr σ' → loopX Try.prog false boundI fr σ' (endL (E6I R more sa len cap q i A Z σ) fun c => σ.next ≤ c) := by
  refine loop_ind q8 6 (by kernel_rfl) _ _ _ ?_
  rintro m fr σ' ⟨ts, n, rfl, rfl, F, hn, hmn, h9, h10, hk⟩
  obtain ⟨rfl, g0⟩ := K.1 (by omega)
  have e0 := F.t0
  have e1 := F.t1
  have e2 := F.t2
  have e8 := F.t8
  have el := F.size
  have nz : ¬ σ'.next = 0 := by omega
  by_cases hne : n = i + 1
  · have c1 : ¬ (0 : Int) ≤ (i : Int) - (n : Int) := by omega
    simp only [go_sem, Nat.reducePow, Nat.reduceDiv, Nat.reduceMod, Nat.reduceAdd, Nat.reduceSub, Nat.reduceMul, Nat.reduceLeDiff, Nat.reduceLT, Nat.reduceEqDiff, reduceCtorEq, reduceIte, reduceDIte, if_pos rfl, Int.reduceLT, Int.reduceLE, Int.reduceEq, Int.reduceNeg, Int.reduceAdd, Int.reduceSub, Int.reduceMul, Int.reduceToNat, opLen, callW, q8, p8, p7, p6, p5, p4, p3, p2, p1, boundI, boundO, nthC, loopOf, Try.f6, Option.getD, lget_put, lgetq_put, List.length_set, h9, h10, el, c1]
    exact ⟨_, rfl, .inr ⟨rfl, rfl, ⟨by simp only [List.length_set, el], by simp only [go_sem, Nat.reducePow, Nat.reduceDiv, Nat.reduceMod, Nat.reduceAdd, Nat.reduceSub, Nat.reduceMul, Nat.reduceLeDiff, Nat.reduceLT, Nat.reduceEqDiff, reduceCtorEq, reduceIte, reduceDIte, if_pos rfl, Int.reduceLT, Int.reduceLE, Int.reduceEq, Int.reduceNeg, Int.reduceAdd, Int.reduceSub, Int.reduceMul, Int.reduceToNat, opLen, lget_put, List.length_set, el, e0], by simp only [go_sem, Nat.reducePow, Nat.reduceDiv, Nat.reduceMod, Nat.reduceAdd, Nat.reduceSub, Nat.reduceMul, Nat.reduceLeDiff, Nat.reduceLT, Nat.reduceEqDiff, reduceCtorEq, reduceIte, reduceDIte, if_pos rfl, Int.reduceLT, Int.reduceLE, Int.reduceEq, Int.reduceNeg, Int.reduceAdd, Int.reduceSub, Int.reduceMul, Int.reduceToNat, opLen, lget_put, List.length_set, el, e1], by simp only [go_sem, Nat.reducePow, Nat.reduceDiv, Nat.reduceMod, Nat.reduceAdd, Nat.reduceSub, Nat.reduceMul, Nat.reduceLeDiff, Nat.reduceLT, Nat.reduceEqDiff, reduceCtorEq, reduceIte, reduceDIte, if_pos rfl, Int.reduceLT, Int.reduceLE, Int.reduceEq, Int.reduceNeg, Int.reduceAdd, Int.reduceSub, Int.reduceMul, Int.reduceToNat, opLen, lget_put, List.length_set, el, e2], by simp only [go_sem, Nat.reducePow, Nat.reduceDiv, Nat.reduceMod, Nat.reduceAdd, Nat.reduceSub, Nat.reduceMul, Nat.reduceLeDiff, Nat.reduceLT, Nat.reduceEqDiff, reduceCtorEq, reduceIte, reduceDIte, if_pos rfl, Int.reduceLT, Int.reduceLE, Int.reduceEq, Int.reduceNeg, Int.reduceAdd, Int.reduceSub, Int.reduceMul, Int.reduceToNat, opLen, lget_put, List.length_set, el, F.t7], by simp only [go_sem, Nat.reducePow, Nat.reduceDiv, Nat.reduceMod, Nat.reduceAdd, Nat.reduceSub, Nat.reduceMul, Nat.reduceLeDiff, Nat.reduceLT, Nat.reduceEqDiff, reduceCtorEq, reduceIte, reduceDIte, if_pos rfl, Int.reduceLT, Int.reduceLE, Int.reduceEq, Int.reduceNeg, Int.reduceAdd, Int.reduceSub, Int.reduceMul, Int.reduceToNat, opLen, lget_put, List.length_set, el, e8]⟩, fun k hk' => hk k (by omega)⟩⟩
  · obtain ⟨j, hj⟩ : ∃ j, i - n = j := ⟨_, rfl⟩
    have ej : (i : Int) - (n : Int) = (j : Int) := by omega
    rw [ej] at h10
    have c1 : (0 : Int) ≤ (j : Int) := by omega
    have c2 : (j : Int) < (len : Int) := by omega
    have c3 : (0 : Int) ≤ (i : Int) := by omega
    have c4 : (i : Int) < (len : Int) := by omega
    obtain ⟨a1, a2, _, _⟩ := K.2 j (by omega)
    obtain ⟨a3, a4, _, _⟩ := K.2 i hi
    have hb := bs_le (Z := Z) (i := i) (z := 2000) (fun j hj => (hZ j hj).2) (n + 1)
    have hb' : bs Z i (n + 1) ≤ 41 * 2000 := Nat.le_trans hb (Nat.mul_le_mul_right _ (by omega))
    have hs : bs Z i (n + 1) = Z j + bs Z i n := by show Z (i - n) + bs Z i n = _; rw [hj]
    have z1 := (hZ j (by omega)).1
    have y1 := hA j (by omega)
    have y2 := hA i (Nat.le_refl _)
    obtain ⟨m1, m2⟩ := mul_bound (R := R) (d := (A i : Int) - (A j : Int)) (M := 1000000) (D := 2147483647) (by omega) hR.2 (by omega) (by omega) (by omega)
    have w1 : IntKind.i64.wrap (((bs Z i n : Nat) : Int) + Zi j) = ((bs Z i (n + 1) : Nat) : Int) := by
      rw [z1, hs]
      have : ((bs Z i n : Nat) : Int) + (Z j : Int) = ((Z j + bs Z i n : Nat) : Int) := by omega
      rw [this]; exact wrapIN (by omega)
    have w2 : IntKind.i64.wrap (Ai i - Ai j) = (A i : Int) - (A j : Int) := by rw [y1.1, y2.1]; exact wrapI (by omega) (by omega)
    have w3 : IntKind.i64.wrap (R * ((A i : Int) - (A j : Int))) = R * ((A i : Int) - (A j : Int)) := wrapI (by omega) (by omega)
    have w4 : IntKind.i64.wrap (more + R * ((A i : Int) - (A j : Int))) = more + R * ((A i : Int) - (A j : Int)) := wrapI (by omega) (by omega)
    have w5 : IntKind.i64.wrap ((j : Int) - 1) = (j : Int) - 1 := wrapI (by omega) (by omega)
    by_cases hx : more + R * ((A i : Int) - (A j : Int)) < ((bs Z i (n + 1) : Nat) : Int)
    · simp only [go_sem, Nat.reducePow, Nat.reduceDiv, Nat.reduceMod, Nat.reduceAdd, Nat.reduceSub, Nat.reduceMul, Nat.reduceLeDiff, Nat.reduceLT, Nat.reduceEqDiff, reduceCtorEq, reduceIte, reduceDIte, if_pos rfl, Int.reduceLT, Int.reduceLE, Int.reduceEq, Int.reduceNeg, Int.reduceAdd, Int.reduceSub, Int.reduceMul, Int.reduceToNat, opLen, callW, q8, p8, p7, p6, p5, p4, p3, p2, p1, boundI, boundO, nthC, loopOf, Try.f6, Option.getD, lget_put, lgetq_put, List.length_set, Int.toNat_natCast, e0, e1, e2, e8, g0, nz, h9, h10, el, c1, c2, c3, c4, a1, a2, a3, a4, w1, w2, w3, w4, hx]
      refine .of (known22_call _) ?_
      simp only [go_sem, Nat.reducePow, Nat.reduceDiv, Nat.reduceMod, Nat.reduceAdd, Nat.reduceSub, Nat.reduceMul, Nat.reduceLeDiff, Nat.reduceLT, Nat.reduceEqDiff, reduceCtorEq, reduceIte, reduceDIte, if_pos rfl, Int.reduceLT, Int.reduceLE, Int.reduceEq, Int.reduceNeg, Int.reduceAdd, Int.reduceSub, Int.reduceMul, Int.reduceToNat, opLen, lget_put, lgetq_put, List.length_set, el]
      exact ⟨_, rfl, .inl ⟨rfl, by simp only [List.length_set, el], by simp only [go_sem, Nat.reducePow, Nat.reduceDiv, Nat.reduceMod, Nat.reduceAdd, Nat.reduceSub, Nat.reduceMul, Nat.reduceLeDiff, Nat.reduceLT, Nat.reduceEqDiff, reduceCtorEq, reduceIte, reduceDIte, if_pos rfl, Int.reduceLT, Int.reduceLE, Int.reduceEq, Int.reduceNeg, Int.reduceAdd, Int.reduceSub, Int.reduceMul, Int.reduceToNat, opLen, lget_put, List.length_set, el]⟩⟩
    · simp only [go_sem, Nat.reducePow, Nat.reduceDiv, Nat.reduceMod, Nat.reduceAdd, Nat.reduceSub, Nat.reduceMul, Nat.reduceLeDiff, Nat.reduceLT, Nat.reduceEqDiff, reduceCtorEq, reduceIte, reduceDIte, if_pos rfl, Int.reduceLT, Int.reduceLE, Int.reduceEq, Int.reduceNeg, Int.reduceAdd, Int.reduceSub, Int.reduceMul, Int.reduceToNat, opLen, callW, q8, p8, p7, p6, p5, p4, p3, p2, p1, boundI, boundO, nthC, loopOf, Try.f6, Option.getD, lget_put, lgetq_put, List.length_set, Int.toNat_natCast, e0, e1, e2, e8, g0, nz, h9, h10, el, c1, c2, c3, c4, a1, a2, a3, a4, w1, w2, w3, w4, w5, hx]
      refine ⟨m - 1, by omega, _, n + 1, rfl, rfl, ⟨by simp only [List.length_set, el], by simp only [go_sem, Nat.reducePow, Nat.reduceDiv, Nat.reduceMod, Nat.reduceAdd, Nat.reduceSub, Nat.reduceMul, Nat.reduceLeDiff, Nat.reduceLT, Nat.reduceEqDiff, reduceCtorEq, reduceIte, reduceDIte, if_pos rfl, Int.reduceLT, Int.reduceLE, Int.reduceEq, Int.reduceNeg, Int.reduceAdd, Int.reduceSub, Int.reduceMul, Int.reduceToNat, opLen, lget_put, List.length_set, el, e0], by simp only [go_sem, Nat.reducePow, Nat.reduceDiv, Nat.reduceMod, Nat.reduceAdd, Nat.reduceSub, Nat.reduceMul, Nat.reduceLeDiff, Nat.reduceLT, Nat.reduceEqDiff, reduceCtorEq, reduceIte, reduceDIte, if_pos rfl, Int.reduceLT, Int.reduceLE, Int.reduceEq, Int.reduceNeg, Int.reduceAdd, Int.reduceSub, Int.reduceMul, Int.reduceToNat, opLen, lget_put, List.length_set, el, e1], by simp only [go_sem, Nat.reducePow, Nat.reduceDiv, Nat.reduceMod, Nat.reduceAdd, Nat.reduceSub, Nat.reduceMul, Nat.reduceLeDiff, Nat.reduceLT, Nat.reduceEqDiff, reduceCtorEq, reduceIte, reduceDIte, if_pos rfl, Int.reduceLT, Int.reduceLE, Int.reduceEq, Int.reduceNeg, Int.reduceAdd, Int.reduceSub, Int.reduceMul, Int.reduceToNat, opLen, lget_put, List.length_set, el, e2], by simp only [go_sem, Nat.reducePow, Nat.reduceDiv, Nat.reduceMod, Nat.reduceAdd, Nat.reduceSub, Nat.reduceMul, Nat.reduceLeDiff, Nat.reduceLT, Nat.reduceEqDiff, reduceCtorEq, reduceIte, reduceDIte, if_pos rfl, Int.reduceLT, Int.reduceLE, Int.reduceEq, Int.reduceNeg, Int.reduceAdd, Int.reduceSub, Int.reduceMul, Int.reduceToNat, opLen, lget_put, List.length_set, el, F.t7], by simp only [go_sem, Nat.reducePow, Nat.reduceDiv, Nat.reduceMod, Nat.reduceAdd, Nat.reduceSub, Nat.reduceMul, Nat.reduceLeDiff, Nat.reduceLT, Nat.reduceEqDiff, reduceCtorEq, reduceIte, reduceDIte, if_pos rfl, Int.reduceLT, Int.reduceLE, Int.reduceEq, Int.reduceNeg, Int.reduceAdd, Int.reduceSub, Int.reduceMul, Int.reduceToNat, opLen, lget_put, List.length_set, el, e8]⟩, by omega, by omega, by simp only [go_sem, Nat.reducePow, Nat.reduceDiv, Nat.reduceMod, Nat.reduceAdd, Nat.reduceSub, Nat.reduceMul, Nat.reduceLeDiff, Nat.reduceLT, Nat.reduceEqDiff, reduceCtorEq, reduceIte, reduceDIte, if_pos rfl, Int.reduceLT, Int.reduceLE, Int.reduceEq, Int.reduceNeg, Int.reduceAdd, Int.reduceSub, Int.reduceMul, Int.reduceToNat, opLen, lget_put, List.length_set, el], ?_, ?_⟩
      · simp only [go_sem, Nat.reducePow, Nat.reduceDiv, Nat.reduceMod, Nat.reduceAdd, Nat.reduceSub, Nat.reduceMul, Nat.reduceLeDiff, Nat.reduceLT, Nat.reduceEqDiff, reduceCtorEq, reduceIte, reduceDIte, if_pos rfl, Int.reduceLT, Int.reduceLE, Int.reduceEq, Int.reduceNeg, Int.reduceAdd, Int.reduceSub, Int.reduceMul, Int.reduceToNat, opLen, lget_put, List.length_set, el]
        congr 1; omega
      · intro k hk'
        by_cases hkn : k = n
        · subst hkn; rw [hj]; omega
        · exact hk k (by omega)
end Go.Ab

set_option linter.unusedSimpArgs false
set_option linter.unusedVariables false
namespace Go.Ab
open Go.Proofs

theorem QAt.foot_lt {σ : St} {b : QB} {Q : QV} (H : QAt σ b Q) {c : Nat} (h : Foot b Q c) : c < σ.next := by
  rcases h with h | ⟨k, x, hx, rfl⟩
  · exact H.lt c h
  · exact (H.fl k x hx).2.1

structure OB (σ : St) (b : QB) (Q : QV) (R : Nat) (A Z : Nat → Nat) (i lo : Nat) : Prop where
  at' : QAt σ b Q
  fl : ∃ x, Q.F 1 = some x ∧ x.rate = R ∧ x.room = 1000000000 ∧ 0 ≤ x.bytes ∧ x.bytes ≤ 2000 * i ∧ x.n = fN (clk A Z R i) R ∧ x.d = fD (clk A Z R i) R
  foot : ∀ c, Foot b Q c → lo ≤ c
  free : ∀ k : Int, (i : Int) ≤ k → Q.P k = none
  np : Q.np = i
  len : Q.L.length = i
  t : Q.t = i
  ids : ∀ y ∈ Q.L, y.id < i

structure Valid (Ai Zi : Nat → Int) (j : Nat) : Prop where
  a0 : 0 ≤ Ai j
  a1 : Ai j ≤ 2147483647
  z0 : 1 ≤ Zi j
  z1 : Zi j ≤ 2000
  mono : 0 < j → Ai (j - 1) ≤ Ai j

def E6O (x : AX) (fr : Fr) (_ : St) : Prop := ∃ ts, fr = ⟨ts, []⟩ ∧ ts.length = 169 ∧ ((x = .ret ∧ lget ts 6 = .bool true) ∨ x = .exit 0)

def I6O (R : Nat) (more : Int) (sa : Option Addr) (len cap lo : Nat) (vs : List Value) (Ai Zi : Nat → Int) (m : Nat) (fr : Fr) (σ : St) : Prop :=
  ∃ ts i b Q, fr = ⟨ts, []⟩ ∧ F6 ts R more sa len cap b.q i ∧ m + i = len + 1 ∧ i ≤ len ∧ OB σ b Q R (fun j => (Ai j).toNat) (fun j => (Zi j).toNat) i lo ∧ SendsIn σ sa len vs Ai Zi ∧ lo ≤ σ.next ∧ ∀ j, j < i → Valid Ai Zi j

theorem cmpR_frac_le {a b r : Nat} (hr : 0 < r) (h : a ≤ b) : cmpR (fN a r : Int) (fD a r : Int) (fN b r : Int) (fD b r : Int) ≤ 0 := by
  rw [cmpR_le]
  have e1 : (fN a r : Int) * (fD b r : Int) = ((fN a r * fD b r : Nat) : Int) := (Int.natCast_mul _ _).symm
  have e2 : (fN b r : Int) * (fD a r : Int) = ((fN b r * fD a r : Nat) : Int) := (Int.natCast_mul _ _).symm
  rw [e1, e2, Int.ofNat_le]
  have c1 := f_cross a r
  have c2 := f_cross b r
  have k : fN a r * fD b r * r ≤ fN b r * fD a r * r := by
    calc fN a r * fD b r * r = (fN a r * r) * fD b r := by rw [Nat.mul_assoc, Nat.mul_comm (fD b r), ← Nat.mul_assoc]
      _ = (a * fD a r) * fD b r := by rw [c1]
      _ ≤ (b * fD a r) * fD b r := Nat.mul_le_mul_right _ (Nat.mul_le_mul_right _ h)
      _ = (b * fD b r) * fD a r := by rw [Nat.mul_assoc, Nat.mul_comm (fD a r), ← Nat.mul_assoc]
      _ = (fN b r * r) * fD a r := by rw [c2]
      _ = fN b r * fD a r * r := by rw [Nat.mul_assoc, Nat.mul_comm r, ← Nat.mul_assoc]
  exact Nat.le_of_mul_le_mul_right k hr

set_option maxRecDepth 20000 in
theorem bound_bad1 {R : Nat} {more : Int} {len cap q i : Nat} {vs : List Value} {Ai Zi : Int} {ts : List Value} {σ : St} (F : F6 ts R more (some ⟨0, 0, some 0⟩) len cap q i) (hil : i < len) (g0 : σ.get 0 = some (.cells vs true)) (hn : 0 < σ.next) (a1 : lget? vs (i * 2) = some (.int .i64 Ai)) (a2 : lget? vs (i * 2 + 1) = some (.int .i64 Zi)) (v1 : Ai < 0) (I : Nat → Fr → St → Prop) (B : Nat → Prop) (m : Nat) :
    wp (cP Try.prog) q8 (btAll 6) false boundO ⟨ts, []⟩ σ (stepW I E6O B m) := by
  have e2 := F.t2
  have e8 := F.t8
  have el := F.size
  have c1 : (i : Int) < (len : Int) := by omega
  have c2 : (0 : Int) ≤ (i : Int) := by omega
  have nz : ¬ σ.next = 0 := by omega
  simp only [go_sem, Nat.reducePow, Nat.reduceDiv, Nat.reduceMod, Nat.reduceAdd, Nat.reduceSub, Nat.reduceMul, Nat.reduceLeDiff, Nat.reduceLT, Nat.reduceEqDiff, reduceCtorEq, reduceIte, reduceDIte, if_pos rfl, Int.reduceLT, Int.reduceLE, Int.reduceEq, Int.reduceNeg, Int.reduceAdd, Int.reduceSub, Int.reduceMul, Int.reduceToNat, opLen, callW, q8, p8, p7, p6, p5, p4, p3, p2, p1, boundO, loopOf, Try.f6, Option.getD, Int.toNat_natCast, lget_put, lgetq_put, List.length_set, e2, e8, el, c1, c2, g0, nz, undef, a1, a2, v1]
  refine .of (known22_call _) ?_
  simp only [go_sem, Nat.reducePow, Nat.reduceDiv, Nat.reduceMod, Nat.reduceAdd, Nat.reduceSub, Nat.reduceMul, Nat.reduceLeDiff, Nat.reduceLT, Nat.reduceEqDiff, reduceCtorEq, reduceIte, reduceDIte, if_pos rfl, Int.reduceLT, Int.reduceLE, Int.reduceEq, Int.reduceNeg, Int.reduceAdd, Int.reduceSub, Int.reduceMul, Int.reduceToNat, opLen, lget_put, lgetq_put, List.length_set, el]
  exact ⟨_, rfl, by simp only [List.length_set, el], .inl ⟨rfl, by simp only [go_sem, Nat.reducePow, Nat.reduceDiv, Nat.reduceMod, Nat.reduceAdd, Nat.reduceSub, Nat.reduceMul, Nat.reduceLeDiff, Nat.reduceLT, Nat.reduceEqDiff, reduceCtorEq, reduceIte, reduceDIte, if_pos rfl, Int.reduceLT, Int.reduceLE, Int.reduceEq, Int.reduceNeg, Int.reduceAdd, Int.reduceSub, Int.reduceMul, Int.reduceToNat, opLen, lget_put, List.length_set, el]⟩⟩

set_option maxRecDepth 20000 in
theorem bound_bad2 {R : Nat} {more : Int} {len cap q i : Nat} {vs : List Value} {Ai Zi : Int} {ts : List Value} {σ : St} (F : F6 ts R more (some ⟨0, 0, some 0⟩) len cap q i) (hil : i < len) (g0 : σ.get 0 = some (.cells vs true)) (hn : 0 < σ.next) (a1 : lget? vs (i * 2) = some (.int .i64 Ai)) (a2 : lget? vs (i * 2 + 1) = some (.int .i64 Zi)) (v1 : ¬ Ai < 0) (v2 : 2147483647 < Ai) (I : Nat → Fr → St → Prop) (B : Nat → Prop) (m : Nat) :
    wp (cP Try.prog) q8 (btAll 6) false boundO ⟨ts, []⟩ σ (stepW I E6O B m) := by
  have e2 := F.t2
  have e8 := F.t8
  have el := F.size
  have c1 : (i : Int) < (len : Int) := by omega
  have c2 : (0 : Int) ≤ (i : Int) := by omega
  have nz : ¬ σ.next = 0 := by omega
  simp only [go_sem, Nat.reducePow, Nat.reduceDiv, Nat.reduceMod, Nat.reduceAdd, Nat.reduceSub, Nat.reduceMul, Nat.reduceLeDiff, Nat.reduceLT, Nat.reduceEqDiff, reduceCtorEq, reduceIte, reduceDIte, if_pos rfl, Int.reduceLT, Int.reduceLE, Int.reduceEq, Int.reduceNeg, Int.reduceAdd, Int.reduceSub, Int.reduceMul, Int.reduceToNat, opLen, callW, q8, p8, p7, p6, p5, p4, p3, p2, p1, boundO, loopOf, Try.f6, Option.getD, Int.toNat_natCast, lget_put, lgetq_put, List.length_set, e2, e8, el, c1, c2, g0, nz, undef, a1, a2, v1, v2]
  refine .of (known22_call _) ?_
  simp only [go_sem, Nat.reducePow, Nat.reduceDiv, Nat.reduceMod, Nat.reduceAdd, Nat.reduceSub, Nat.reduceMul, Nat.reduceLeDiff, Nat.reduceLT, Nat.reduceEqDiff, reduceCtorEq, reduceIte, reduceDIte, if_pos rfl, Int.reduceLT, Int.reduceLE, Int.reduceEq, Int.reduceNeg, Int.reduceAdd, Int.reduceSub, Int.reduceMul, Int.reduceToNat, opLen, lget_put, lgetq_put, List.length_set, el]
  exact ⟨_, rfl, by simp only [List.length_set, el], .inl ⟨rfl, by simp only [go_sem, Nat.reducePow, Nat.reduceDiv, Nat.reduceMod, Nat.reduceAdd, Nat.reduceSub, Nat.reduceMul, Nat.reduceLeDiff, Nat.reduceLT, Nat.reduceEqDiff, reduceCtorEq, reduceIte, reduceDIte, if_pos rfl, Int.reduceLT, Int.reduceLE, Int.reduceEq, Int.reduceNeg, Int.reduceAdd, Int.reduceSub, Int.reduceMul, Int.reduceToNat, opLen, lget_put, List.length_set, el]⟩⟩

set_option maxRecDepth 20000 in
theorem bound_bad3 {R : Nat} {more : Int} {len cap q i : Nat} {vs : List Value} {Ai Zi : Int} {ts : List Value} {σ : St} (F : F6 ts R more (some ⟨0, 0, some 0⟩) len cap q i) (hil : i < len) (g0 : σ.get 0 = some (.cells vs true)) (hn : 0 < σ.next) (a1 : lget? vs (i * 2) = some (.int .i64 Ai)) (a2 : lget? vs (i * 2 + 1) = some (.int .i64 Zi)) (v1 : ¬ Ai < 0) (v2 : ¬ 2147483647 < Ai) (v3 : Zi < 1) (I : Nat → Fr → St → Prop) (B : Nat → Prop) (m : Nat) :
    wp (cP Try.prog) q8 (btAll 6) false boundO ⟨ts, []⟩ σ (stepW I E6O B m) := by
  have e2 := F.t2
  have e8 := F.t8
  have el := F.size
  have c1 : (i : Int) < (len : Int) := by omega
  have c2 : (0 : Int) ≤ (i : Int) := by omega
  have nz : ¬ σ.next = 0 := by omega
  simp only [go_sem, Nat.reducePow, Nat.reduceDiv, Nat.reduceMod, Nat.reduceAdd, Nat.reduceSub, Nat.reduceMul, Nat.reduceLeDiff, Nat.reduceLT, Nat.reduceEqDiff, reduceCtorEq, reduceIte, reduceDIte, if_pos rfl, Int.reduceLT, Int.reduceLE, Int.reduceEq, Int.reduceNeg, Int.reduceAdd, Int.reduceSub, Int.reduceMul, Int.reduceToNat, opLen, callW, q8, p8, p7, p6, p5, p4, p3, p2, p1, boundO, loopOf, Try.f6, Option.getD, Int.toNat_natCast, lget_put, lgetq_put, List.length_set, e2, e8, el, c1, c2, g0, nz, undef, a1, a2, v1, v2, v3]
  refine .of (known22_call _) ?_
  simp only [go_sem, Nat.reducePow, Nat.reduceDiv, Nat.reduceMod, Nat.reduceAdd, Nat.reduceSub, Nat.reduceMul, Nat.reduceLeDiff, Nat.reduceLT, Nat.reduceEqDiff, reduceCtorEq, reduceIte, reduceDIte, if_pos rfl, Int.reduceLT, Int.reduceLE, Int.reduceEq, Int.reduceNeg, Int.reduceAdd, Int.reduceSub, Int.reduceMul, Int.reduceToNat, opLen, lget_put, lgetq_put, List.length_set, el]
  exact ⟨_, rfl, by simp only [List.length_set, el], .inl ⟨rfl, by simp only [go_sem, Nat.reducePow, Nat.reduceDiv, Nat.reduceMod, Nat.reduceAdd, Nat.reduceSub, Nat.reduceMul, Nat.reduceLeDiff, Nat.reduceLT, Nat.reduceEqDiff, reduceCtorEq, reduceIte, reduceDIte, if_pos rfl, Int.reduceLT, Int.reduceLE, Int.reduceEq, Int.reduceNeg, Int.reduceAdd, Int.reduceSub, Int.reduceMul, Int.reduceToNat, opLen, lget_put, List.length_set, el]⟩⟩

set_option maxRecDepth 20000 in
theorem bound_bad4 {R : Nat} {more : Int} {len cap q i : Nat} {vs : List Value} {Ai Zi : Int} {ts : List Value} {σ : St} (F : F6 ts R more (some ⟨0, 0, some 0⟩) len cap q i) (hil : i < len) (g0 : σ.get 0 = some (.cells vs true)) (hn : 0 < σ.next) (a1 : lget? vs (i * 2) = some (.int .i64 Ai)) (a2 : lget? vs (i * 2 + 1) = some (.int .i64 Zi)) (v1 : ¬ Ai < 0) (v2 : ¬ 2147483647 < Ai) (v3 : ¬ Zi < 1) (v4 : 2000 < Zi) (I : Nat → Fr → St → Prop) (B : Nat → Prop) (m : Nat) :
    wp (cP Try.prog) q8 (btAll 6) false boundO ⟨ts, []⟩ σ (stepW I E6O B m) := by
  have e2 := F.t2
  have e8 := F.t8
  have el := F.size
  have c1 : (i : Int) < (len : Int) := by omega
  have c2 : (0 : Int) ≤ (i : Int) := by omega
  have nz : ¬ σ.next = 0 := by omega
  simp only [go_sem, Nat.reducePow, Nat.reduceDiv, Nat.reduceMod, Nat.reduceAdd, Nat.reduceSub, Nat.reduceMul, Nat.reduceLeDiff, Nat.reduceLT, Nat.reduceEqDiff, reduceCtorEq, reduceIte, reduceDIte, if_pos rfl, Int.reduceLT, Int.reduceLE, Int.reduceEq, Int.reduceNeg, Int.reduceAdd, Int.reduceSub, Int.reduceMul, Int.reduceToNat, opLen, callW, q8, p8, p7, p6, p5, p4, p3, p2, p1, boundO, loopOf, Try.f6, Option.getD, Int.toNat_natCast, lget_put, lgetq_put, List.length_set, e2, e8, el, c1, c2, g0, nz, undef, a1, a2, v1, v2, v3, v4]
  refine .of (known22_call _) ?_
  simp only [go_sem, Nat.reducePow, Nat.reduceDiv, Nat.reduceMod, Nat.reduceAdd, Nat.reduceSub, Nat.reduceMul, Nat.reduceLeDiff, Nat.reduceLT, Nat.reduceEqDiff, reduceCtorEq, reduceIte, reduceDIte, if_pos rfl, Int.reduceLT, Int.reduceLE, Int.reduceEq, Int.reduceNeg, Int.reduceAdd, Int.reduceSub, Int.reduceMul, Int.reduceToNat, opLen, lget_put, lgetq_put, List.length_set, el]
  exact ⟨_, rfl, by simp only [List.length_set, el], .inl ⟨rfl, by simp only [go_sem, Nat.reducePow, Nat.reduceDiv, Nat.reduceMod, Nat.reduceAdd, Nat.reduceSub, Nat.reduceMul, Nat.reduceLeDiff, Nat.reduceLT, Nat.reduceEqDiff, reduceCtorEq, reduceIte, reduceDIte, if_pos rfl, Int.reduceLT, Int.reduceLE, Int.reduceEq, Int.reduceNeg, Int.reduceAdd, Int.reduceSub, Int.reduceMul, Int.reduceToNat, opLen, lget_put, List.length_set, el]⟩⟩

set_option maxRecDepth 20000 in
theorem bound_bad5 {R : Nat} {more : Int} {len cap q k : Nat} {vs : List Value} {Ai Zi Ak : Int} {ts : List Value} {σ : St} (F : F6 ts R more (some ⟨0, 0, some 0⟩) len cap q (k + 1)) (hil : k + 1 < len) (hlen : len ≤ 40) (g0 : σ.get 0 = some (.cells vs true)) (hn : 0 < σ.next) (a1 : lget? vs ((k + 1) * 2) = some (.int .i64 Ai)) (a2 : lget? vs ((k + 1) * 2 + 1) = some (.int .i64 Zi)) (a3 : lget? vs (k * 2) = some (.int .i64 Ak)) (v1 : ¬ Ai < 0) (v2 : ¬ 2147483647 < Ai) (v3 : ¬ Zi < 1) (v4 : ¬ 2000 < Zi) (v5 : Ai < Ak) (I : Nat → Fr → St → Prop) (B : Nat → Prop) (m : Nat) :
    wp (cP Try.prog) q8 (btAll 6) false boundO ⟨ts, []⟩ σ (stepW I E6O B m) := by
  have e2 := F.t2
  have e8 := F.t8
  have el := F.size
  have ek : ((k + 1 : Nat) : Int) - 1 = (k : Int) := by omega
  have w1 : IntKind.i64.wrap (k : Int) = (k : Int) := wrapIN (by omega)
  have c1 : ((k + 1 : Nat) : Int) < (len : Int) := by omega
  have c2 : (0 : Int) ≤ ((k + 1 : Nat) : Int) := by omega
  have c3 : (0 : Int) < ((k + 1 : Nat) : Int) := by omega
  have c4 : (k : Int) < (len : Int) := by omega
  have c5 : (0 : Int) ≤ (k : Int) := by omega
  have nz : ¬ σ.next = 0 := by omega
  simp only [go_sem, Nat.reducePow, Nat.reduceDiv, Nat.reduceMod, Nat.reduceAdd, Nat.reduceSub, Nat.reduceMul, Nat.reduceLeDiff, Nat.reduceLT, Nat.reduceEqDiff, reduceCtorEq, reduceIte, reduceDIte, if_pos rfl, Int.reduceLT, Int.reduceLE, Int.reduceEq, Int.reduceNeg, Int.reduceAdd, Int.reduceSub, Int.reduceMul, Int.reduceToNat, opLen, callW, q8, p8, p7, p6, p5, p4, p3, p2, p1, boundO, loopOf, Try.f6, Option.getD, Int.toNat_natCast, lget_put, lgetq_put, List.length_set, e2, e8, el, ek, w1, c1, c2, c3, c4, c5, g0, nz, undef, a1, a2, a3, v1, v2, v3, v4, v5]
  refine .of (known22_call _) ?_
  simp only [go_sem, Nat.reducePow, Nat.reduceDiv, Nat.reduceMod, Nat.reduceAdd, Nat.reduceSub, Nat.reduceMul, Nat.reduceLeDiff, Nat.reduceLT, Nat.reduceEqDiff, reduceCtorEq, reduceIte, reduceDIte, if_pos rfl, Int.reduceLT, Int.reduceLE, Int.reduceEq, Int.reduceNeg, Int.reduceAdd, Int.reduceSub, Int.reduceMul, Int.reduceToNat, opLen, lget_put, lgetq_put, List.length_set, el]
  exact ⟨_, rfl, by simp only [List.length_set, el], .inl ⟨rfl, by simp only [go_sem, Nat.reducePow, Nat.reduceDiv, Nat.reduceMod, Nat.reduceAdd, Nat.reduceSub, Nat.reduceMul, Nat.reduceLeDiff, Nat.reduceLT, Nat.reduceEqDiff, reduceCtorEq, reduceIte, reduceDIte, if_pos rfl, Int.reduceLT, Int.reduceLE, Int.reduceEq, Int.reduceNeg, Int.reduceAdd, Int.reduceSub, Int.reduceMul, Int.reduceToNat, opLen, lget_put, List.length_set, el]⟩⟩

end Go.Ab

set_option linter.unusedSimpArgs false
set_option linter.unusedVariables false
namespace Go.Ab
open Go.Proofs

def StepB (R : Nat) (more : Int) (len cap lo : Nat) (vs : List Value) (Ai Zi : Nat → Int) (m : Nat) (r : RR) : Prop :=
  stepW (I6O R more (some ⟨0, 0, some 0⟩) len cap lo vs Ai Zi) E6O (fun c => lo ≤ c) m r

theorem okI_nat {n : Nat} (h : n < 9223372036854775808) : okI (n : Int) = true := by simp [okI]; omega

theorem valid_mono {Ai Zi : Nat → Int} {A : Nat → Nat} {i : Nat} (hv : ∀ j, j ≤ i → Valid Ai Zi j) (hA : ∀ j, j ≤ i → Ai j = A j ∧ A j ≤ 2147483647) : ∀ n, n ≤ i → A (i - n) ≤ A i
  | 0, _ => Nat.le_refl _
  | n + 1, h => by
    have ih := valid_mono hv hA n (by omega)
    have h1 := (hv (i - n) (by omega)).mono (by omega)
    have e : i - n - 1 = i - (n + 1) := by omega
    rw [e] at h1
    have h2 := (hA (i - n) (by omega)).1
    have h3 := (hA (i - (n + 1)) (by omega)).1
    omega

theorem OB.keep {σ σ' : St} {b : QB} {Q : QV} {R i lo : Nat} {A Z : Nat → Nat} (H : OB σ b Q R A Z i lo) (hn : σ.next ≤ σ'.next) (hg : ∀ c, c < σ.next → σ'.get c = σ.get c) : OB σ' b Q R A Z i lo :=
  { H with at' := H.at'.keep hn fun c hc => hg c (H.at'.foot_lt hc) }

theorem OB.put {σ σ' : St} {b : QB} {Q : QV} {R i lo : Nat} {A Z : Nat → Nat} {x : FlowV} {l : Log} (H : OB σ b Q R A Z i lo) (hx : Q.F 1 = some x) (hx1 : x.rate = R) (hx2 : x.room = 1000000000) (hx3 : 0 ≤ x.bytes) (hx4 : x.bytes ≤ 2000 * i)
    (hZ : Z i ≤ 2000) (hlo : lo ≤ σ.next) (h : PutR σ b Q i 1 (Z i) x (fN (max (A i * R) (clk A Z R i) + Z i) R) (fD (max (A i * R) (clk A Z R i) + Z i) R) σ' l) :
    (∀ c ∈ l, lo ≤ c) ∧ ∃ A' Q', OB σ' { b with A := A' } Q' R A Z (i + 1) lo := by
  obtain ⟨h1, A', h2, h3⟩ := h
  refine ⟨fun c hc => ?_, A', _, ⟨h3, ⟨{ x with bytes := x.bytes + (Z i : Int), n := (fN (max (A i * R) (clk A Z R i) + Z i) R : Int), d := (fD (max (A i * R) (clk A Z R i) + Z i) R : Int) }, by show updF Q.F 1 _ 1 = _; exact if_pos rfl, hx1, hx2, ?_, ?_, rfl, rfl⟩, ?_, ?_, ?_, ?_, ?_, ?_⟩⟩
  · rcases h1 c hc with h | h
    · exact H.foot c h
    · omega
  · show 0 ≤ x.bytes + (Z i : Int); omega
  · show x.bytes + (Z i : Int) ≤ 2000 * ((i + 1 : Nat) : Int); omega
  · intro c hc
    rcases hc with hc | ⟨k, y, hy, rfl⟩
    · have hf := fun c (hc : c ∈ b.core) => H.foot c (.inl hc)
      simp only [QB.core, List.mem_cons] at hc hf
      rcases hc with h | h | h | h | h | h
      · exact hf c (by simp [h])
      · exact hf c (by simp [h])
      · exact hf c (by simp [h])
      · exact hf c (by simp [h])
      · exact hf c (by simp [h])
      · rcases h2 c h with h | h
        · exact hf c (by simp [h])
        · omega
    · by_cases hk : k = 1
      · subst hk
        have e : updF Q.F 1 (some { x with bytes := x.bytes + (Z i : Int), n := (fN (max (A i * R) (clk A Z R i) + Z i) R : Int), d := (fD (max (A i * R) (clk A Z R i) + Z i) R : Int) }) 1 = some y := hy
        simp only [updF, if_true, Option.some.injEq] at e
        subst e
        exact H.foot _ (.inr ⟨1, x, hx, rfl⟩)
      · have e : Q.F k = some y := by simpa [updF, hk] using hy
        exact H.foot _ (.inr ⟨k, y, e, rfl⟩)
  · intro k hk
    have hki : ¬ k = (i : Int) := by omega
    show updF Q.P i _ k = none
    simp only [updF, hki, if_false]
    exact H.free k (by omega)
  · show Q.np + 1 = i + 1; rw [H.np]
  · show (riseL _ _ _).length = i + 1
    rw [riseL_length, List.length_append, H.len]; rfl
  · show Q.t + 1 = ((i + 1 : Nat) : Int); rw [H.t]; omega
  · intro y hy
    have hy := (riseL_mem_iff _ _ _).1 hy
    rw [List.mem_append, List.mem_singleton] at hy
    rcases hy with hy | rfl
    · have := H.ids y hy; omega
    · show (i : Int) < ((i + 1 : Nat) : Int); omega

set_option maxHeartbeats 1000000 in
set_option maxRecDepth 20000 in
theorem bound_good0 {R : Nat} {more : Int} {len cap lo i : Nat} {vs : List Value} {Ai Zi : Nat → Int} {ts : List Value} {σ : St} {b : QB} {Q : QV} {m : Nat} (hlo : 0 < lo) (hlen : len ≤ 40) (hR : 1 ≤ R ∧ R ≤ 1000000) (hm : 0 ≤ more ∧ more ≤ 100000)
    (F : F6 ts R more (some ⟨0, 0, some 0⟩) len cap b.q i) (hil : i < len) (hmi : m + i = len + 1) (K : SendsIn σ (some ⟨0, 0, some 0⟩) len vs Ai Zi) (hn : lo ≤ σ.next) (hv : ∀ j, j ≤ i → Valid Ai Zi j) (H : OB σ b Q R (fun j => (Ai j).toNat) (fun j => (Zi j).toNat) i lo) (hi0 : i = 0) :
    wp (cP Try.prog) q8 (btAll 6) false boundO ⟨ts, []⟩ σ (stepW (I6O R more (some ⟨0, 0, some 0⟩) len cap lo vs Ai Zi) E6O (fun c => lo ≤ c) m) := by
  obtain ⟨A, hAe⟩ : ∃ A : Nat → Nat, (fun j => (Ai j).toNat) = A := ⟨_, rfl⟩
  obtain ⟨Z, hZe⟩ : ∃ Z : Nat → Nat, (fun j => (Zi j).toNat) = Z := ⟨_, rfl⟩
  have hA : ∀ j, j ≤ i → Ai j = A j ∧ A j ≤ 2147483647 := fun j hj => by
    have := hv j hj
    have h0 := this.a0
    have h1 := this.a1
    rw [← hAe]
    show Ai j = (((Ai j).toNat : Nat) : Int) ∧ (Ai j).toNat ≤ 2147483647
    omega
  have hZ : ∀ j, j ≤ i → Zi j = Z j ∧ Z j ≤ 2000 := fun j hj => by
    have := hv j hj
    have h0 := this.z0
    have h1 := this.z1
    rw [← hZe]
    show Zi j = (((Zi j).toNat : Nat) : Int) ∧ (Zi j).toNat ≤ 2000
    omega
  have hZ1 : 1 ≤ Z i := by
    have h1 := (hv i (Nat.le_refl _)).z0
    have h2 := (hZ i (Nat.le_refl _)).1
    omega
  rw [hAe, hZe] at H
  have g0 := (K.1 (by omega)).2
  obtain ⟨a1, a2, _, _⟩ := K.2 i hil
  obtain ⟨v1, v2, v3, v4, v5⟩ := hv i (Nat.le_refl _)
  have v1' : ¬ Ai i < 0 := by omega
  have v2' : ¬ 2147483647 < Ai i := by omega
  have v3' : ¬ Zi i < 1 := by omega
  have v4' : ¬ 2000 < Zi i := by omega
  have e0 := F.t0
  have e1 := F.t1
  have e2 := F.t2
  have e7 := F.t7
  have e8 := F.t8
  have el := F.size
  have c1 : (i : Int) < (len : Int) := by omega
  have c2 : (0 : Int) ≤ (i : Int) := by omega
  have nz : ¬ σ.next = 0 := by omega
  have c3 : ¬ (0 : Int) < (i : Int) := by omega
  simp only [go_sem, Nat.reducePow, Nat.reduceDiv, Nat.reduceMod, Nat.reduceAdd, Nat.reduceSub, Nat.reduceMul, Nat.reduceLeDiff, Nat.reduceLT, Nat.reduceEqDiff, reduceCtorEq, reduceIte, reduceDIte, if_pos rfl, Int.reduceLT, Int.reduceLE, Int.reduceEq, Int.reduceNeg, Int.reduceAdd, Int.reduceSub, Int.reduceMul, Int.reduceToNat, opLen, callW, q8, p8, p7, p6, p5, p4, p3, p2, p1, boundO, loopOf, Try.f6, Option.getD, Int.toNat_natCast, lget_put, lgetq_put, List.length_set, e2, e8, el, c1, c2, g0, nz, undef, a1, a2, v1', v2', v3', v4', c3]
  refine loop_then (bound_inner (q := b.q) (R := R) (more := more) (cap := cap) (vs := vs) (A := A) (Z := Z) (by omega) hil hlen K (by omega) hm hA hZ (i + 2) _ _ ⟨_, 0, rfl, rfl, ⟨by simp only [List.length_set, el], by simp only [go_sem, Nat.reducePow, Nat.reduceDiv, Nat.reduceMod, Nat.reduceAdd, Nat.reduceSub, Nat.reduceMul, Nat.reduceLeDiff, Nat.reduceLT, Nat.reduceEqDiff, reduceCtorEq, reduceIte, reduceDIte, if_pos rfl, Int.reduceLT, Int.reduceLE, Int.reduceEq, Int.reduceNeg, Int.reduceAdd, Int.reduceSub, Int.reduceMul, Int.reduceToNat, opLen, lget_put, List.length_set, el, e0], by simp only [go_sem, Nat.reducePow, Nat.reduceDiv, Nat.reduceMod, Nat.reduceAdd, Nat.reduceSub, Nat.reduceMul, Nat.reduceLeDiff, Nat.reduceLT, Nat.reduceEqDiff, reduceCtorEq, reduceIte, reduceDIte, if_pos rfl, Int.reduceLT, Int.reduceLE, Int.reduceEq, Int.reduceNeg, Int.reduceAdd, Int.reduceSub, Int.reduceMul, Int.reduceToNat, opLen, lget_put, List.length_set, el, e1], by simp only [go_sem, Nat.reducePow, Nat.reduceDiv, Nat.reduceMod, Nat.reduceAdd, Nat.reduceSub, Nat.reduceMul, Nat.reduceLeDiff, Nat.reduceLT, Nat.reduceEqDiff, reduceCtorEq, reduceIte, reduceDIte, if_pos rfl, Int.reduceLT, Int.reduceLE, Int.reduceEq, Int.reduceNeg, Int.reduceAdd, Int.reduceSub, Int.reduceMul, Int.reduceToNat, opLen, lget_put, List.length_set, el, e2], by simp only [go_sem, Nat.reducePow, Nat.reduceDiv, Nat.reduceMod, Nat.reduceAdd, Nat.reduceSub, Nat.reduceMul, Nat.reduceLeDiff, Nat.reduceLT, Nat.reduceEqDiff, reduceCtorEq, reduceIte, reduceDIte, if_pos rfl, Int.reduceLT, Int.reduceLE, Int.reduceEq, Int.reduceNeg, Int.reduceAdd, Int.reduceSub, Int.reduceMul, Int.reduceToNat, opLen, lget_put, List.length_set, el, e7], by simp only [go_sem, Nat.reducePow, Nat.reduceDiv, Nat.reduceMod, Nat.reduceAdd, Nat.reduceSub, Nat.reduceMul, Nat.reduceLeDiff, Nat.reduceLT, Nat.reduceEqDiff, reduceCtorEq, reduceIte, reduceDIte, if_pos rfl, Int.reduceLT, Int.reduceLE, Int.reduceEq, Int.reduceNeg, Int.reduceAdd, Int.reduceSub, Int.reduceMul, Int.reduceToNat, opLen, lget_put, List.length_set, el, e8]⟩, by omega, by omega, by simp only [go_sem, Nat.reducePow, Nat.reduceDiv, Nat.reduceMod, Nat.reduceAdd, Nat.reduceSub, Nat.reduceMul, Nat.reduceLeDiff, Nat.reduceLT, Nat.reduceEqDiff, reduceCtorEq, reduceIte, reduceDIte, if_pos rfl, Int.reduceLT, Int.reduceLE, Int.reduceEq, Int.reduceNeg, Int.reduceAdd, Int.reduceSub, Int.reduceMul, Int.reduceToNat, opLen, lget_put, List.length_set, el]; rfl, by simp only [go_sem, Nat.reducePow, Nat.reduceDiv, Nat.reduceMod, Nat.reduceAdd, Nat.reduceSub, Nat.reduceMul, Nat.reduceLeDiff, Nat.reduceLT, Nat.reduceEqDiff, reduceCtorEq, reduceIte, reduceDIte, if_pos rfl, Int.reduceLT, Int.reduceLE, Int.reduceEq, Int.reduceNeg, Int.reduceAdd, Int.reduceSub, Int.reduceMul, Int.reduceToNat, opLen, lget_put, List.length_set, el, e8, Int.natCast_zero, Int.sub_zero], fun k hk => absurd hk (Nat.not_lt_zero k)⟩) ?_
  clear e0 e1 e2 e7 e8 el F
  rintro x fr' σ' lg hlg hB ⟨ts', rfl, hE⟩
  rcases hE with ⟨rfl, hl6, h6⟩ | ⟨rfl, rfl, F, hk⟩
  · simp only [go_sem, Nat.reducePow, Nat.reduceDiv, Nat.reduceMod, Nat.reduceAdd, Nat.reduceSub, Nat.reduceMul, Nat.reduceLeDiff, Nat.reduceLT, Nat.reduceEqDiff, reduceCtorEq, reduceIte, reduceDIte, if_pos rfl, Int.reduceLT, Int.reduceLE, Int.reduceEq, Int.reduceNeg, Int.reduceAdd, Int.reduceSub, Int.reduceMul, Int.reduceToNat, opLen]
    exact ⟨fun c hc => by have := hB c hc; omega, _, rfl, hl6, .inl ⟨rfl, h6⟩⟩
  · obtain ⟨x, hx, hx1, hx2, hx3, hx4, hx5, hx6⟩ := H.fl
    have e0 := F.t0
    have e1 := F.t1
    have e2 := F.t2
    have e7 := F.t7
    have e8 := F.t8
    have el := F.size
    have az := hZ i (Nat.le_refl _)
    have aa := hA i (Nat.le_refl _)
    have hS : clk A Z R i < 1000000000000000000 := by
      have h1 := clk_le (A := A) (Z := Z) (R := R) (i := i) (a := 2147483647) (z := 2000) (fun j hj => (hA j (by omega)).2) (fun j hj => (hZ j (by omega)).2)
      have h2 : 2147483647 * R ≤ 2147483647 * 1000000 := Nat.mul_le_mul_left _ hR.2
      omega
    have hAR : A i * R ≤ 2147483647 * 1000000 := Nat.mul_le_mul aa.2 hR.2
    have hcl : clk A Z R (i + 1) ≤ A i * R + more.toNat := by
      refine clk_bound fun n hn => ?_
      have h1 := hk n hn
      have h2 : A (i - n) ≤ A i := valid_mono hv hA n hn
      have h3 : ((A i : Int) - (A (i - n) : Int)) = ((A i - A (i - n) : Nat) : Int) := by omega
      have h4 : (R : Int) * ((A i - A (i - n) : Nat) : Int) = ((R * (A i - A (i - n)) : Nat) : Int) := (Int.natCast_mul _ _).symm
      rw [h3, h4] at h1
      exact ⟨h2, by omega⟩
    have hcl' : max (A i * R) (clk A Z R i) + Z i ≤ A i * R + more.toNat := hcl
    have hmo : more = (more.toNat : Int) := by omega
    have w10 : IntKind.i64.wrap ((A i : Int) * (R : Int)) = ((A i * R : Nat) : Int) := by rw [← Int.natCast_mul]; exact wrapIN (by omega)
    have w11 : IntKind.i64.wrap (((A i * R : Nat) : Int) + more) = ((A i * R + more.toNat : Nat) : Int) := by
      have : ((A i * R : Nat) : Int) + more = ((A i * R + more.toNat : Nat) : Int) := by omega
      rw [this]; exact wrapIN (by omega)
    have w12 : IntKind.i64.wrap ((i : Int) + 1) = ((i + 1 : Nat) : Int) := by
      have : (i : Int) + 1 = ((i + 1 : Nat) : Int) := by omega
      rw [this]; exact wrapIN (by omega)
    rw [aa.1] at a1
    rw [az.1] at a2
    simp only [go_sem, Nat.reducePow, Nat.reduceDiv, Nat.reduceMod, Nat.reduceAdd, Nat.reduceSub, Nat.reduceMul, Nat.reduceLeDiff, Nat.reduceLT, Nat.reduceEqDiff, reduceCtorEq, reduceIte, reduceDIte, if_pos rfl, Int.reduceLT, Int.reduceLE, Int.reduceEq, Int.reduceNeg, Int.reduceAdd, Int.reduceSub, Int.reduceMul, Int.reduceToNat, opLen, callW, q8, p8, p7, p6, p5, p4, p3, p2, p1, lget_put, lgetq_put, List.length_set, Int.toNat_natCast, e0, e1, e2, e7, e8, el, g0, nz, c1, c2, a1, a2]
    refine callX.ret (qput_call H.at' (i : Int) 1 (Z i) (A i) (clk A Z R i) R hx (H.free _ (by omega)) (by omega) (by omega) (by omega) (by omega) hx1 hx5 hx6 hR hS (by omega) (by omega) (by omega) (by rw [H.np]; omega) (fun y hy => by have := H.ids y hy; omega) (by rw [H.len]; omega) (by rw [H.t]; omega)) ?_
    intro σ1 l1 hl1 hP1
    have hk0 : σ1.get 0 = some (.cells vs true) := by
      refine (hl1.2 0 (by omega) fun hm => ?_).trans g0
      rcases hP1.1 0 hm with h | h
      · have := H.foot 0 h; omega
      · omega
    have n1 := hl1.1
    obtain ⟨hlo1, A', Q', H1⟩ := H.put hx hx1 hx2 hx3 hx4 az.2 hn hP1
    have nz1 : ¬ σ1.next = 0 := by omega
    have an : ∀ l : List Nat, (l.any fun _ => false) = false := fun l => by simp
    have hM : max (A i * R) (clk A Z R i) + Z i < 9223372036854775807 := by omega
    have hle := cmpR_frac_le (r := R) (by omega) hcl'
    generalize max (A i * R) (clk A Z R i) + Z i = M at hM hle hP1
    have o1 : okI (fN M R : Int) = true := okI_nat (by have := fN_le M R; omega)
    have o2 : okI (fD M R : Int) = true := okI_nat (by have := fD_le M R; omega)
    have o3 : okI (fN (A i * R + more.toNat) R : Int) = true := okI_nat (by have := fN_le (A i * R + more.toNat) R; omega)
    have o4 : okI (fD (A i * R + more.toNat) R : Int) = true := okI_nat (by have := fD_le (A i * R + more.toNat) R; omega)
    have p1 : 1 ≤ (fD M R : Int) := by have := fD_pos (a := M) (r := R) (by omega); omega
    have p2 : 1 ≤ (fD (A i * R + more.toNat) R : Int) := by have := fD_pos (a := A i * R + more.toNat) (r := R) (by omega); omega
    have hnl : ¬ 0 < cmpR (fN M R : Int) (fD M R : Int) (fN (A i * R + more.toNat) R : Int) (fD (A i * R + more.toNat) R : Int) := by omega
    simp only [go_sem, Nat.reducePow, Nat.reduceDiv, Nat.reduceMod, Nat.reduceAdd, Nat.reduceSub, Nat.reduceMul, Nat.reduceLeDiff, Nat.reduceLT, Nat.reduceEqDiff, reduceCtorEq, reduceIte, reduceDIte, if_pos rfl, Int.reduceLT, Int.reduceLE, Int.reduceEq, Int.reduceNeg, Int.reduceAdd, Int.reduceSub, Int.reduceMul, Int.reduceToNat, opLen, callW, q8, p8, p7, p6, p5, p4, p3, p2, p1, lget_put, lgetq_put, List.length_set, Int.toNat_natCast, e0, e1, e2, e7, e8, el, hk0, nz, nz1, an, c1, c2, a1, a2, w10, w11]
    refine .of (rmake_call (A i * R + more.toNat) R _ (by omega) (by omega) (by omega)) ?_
    simp only [go_sem, Nat.reducePow, Nat.reduceDiv, Nat.reduceMod, Nat.reduceAdd, Nat.reduceSub, Nat.reduceMul, Nat.reduceLeDiff, Nat.reduceLT, Nat.reduceEqDiff, reduceCtorEq, reduceIte, reduceDIte, if_pos rfl, Int.reduceLT, Int.reduceLE, Int.reduceEq, Int.reduceNeg, Int.reduceAdd, Int.reduceSub, Int.reduceMul, Int.reduceToNat, opLen, callW, q8, p8, p7, p6, p5, p4, p3, p2, p1, lget_put, lgetq_put, List.length_set, e0, e1, e2, e7, e8, el]
    refine .of (cmpB_call _ _ _ _ _ o1 o2 o3 o4 p1 p2) ?_
    simp only [go_sem, Nat.reducePow, Nat.reduceDiv, Nat.reduceMod, Nat.reduceAdd, Nat.reduceSub, Nat.reduceMul, Nat.reduceLeDiff, Nat.reduceLT, Nat.reduceEqDiff, reduceCtorEq, reduceIte, reduceDIte, if_pos rfl, Int.reduceLT, Int.reduceLE, Int.reduceEq, Int.reduceNeg, Int.reduceAdd, Int.reduceSub, Int.reduceMul, Int.reduceToNat, opLen, callW, q8, p8, p7, p6, p5, p4, p3, p2, p1, lget_put, lgetq_put, List.length_set, e0, e1, e2, e7, e8, el, hnl, w12]
    refine ⟨fun c hc => ?_, m - 1, by omega, _, i + 1, { b with A := A' }, Q', rfl, ⟨by simp only [List.length_set, el], by simp only [go_sem, Nat.reducePow, Nat.reduceDiv, Nat.reduceMod, Nat.reduceAdd, Nat.reduceSub, Nat.reduceMul, Nat.reduceLeDiff, Nat.reduceLT, Nat.reduceEqDiff, reduceCtorEq, reduceIte, reduceDIte, if_pos rfl, Int.reduceLT, Int.reduceLE, Int.reduceEq, Int.reduceNeg, Int.reduceAdd, Int.reduceSub, Int.reduceMul, Int.reduceToNat, opLen, lget_put, List.length_set, el, e0], by simp only [go_sem, Nat.reducePow, Nat.reduceDiv, Nat.reduceMod, Nat.reduceAdd, Nat.reduceSub, Nat.reduceMul, Nat.reduceLeDiff, Nat.reduceLT, Nat.reduceEqDiff, reduceCtorEq, reduceIte, reduceDIte, if_pos rfl, Int.reduceLT, Int.reduceLE, Int.reduceEq, Int.reduceNeg, Int.reduceAdd, Int.reduceSub, Int.reduceMul, Int.reduceToNat, opLen, lget_put, List.length_set, el, e1], by simp only [go_sem, Nat.reducePow, Nat.reduceDiv, Nat.reduceMod, Nat.reduceAdd, Nat.reduceSub, Nat.reduceMul, Nat.reduceLeDiff, Nat.reduceLT, Nat.reduceEqDiff, reduceCtorEq, reduceIte, reduceDIte, if_pos rfl, Int.reduceLT, Int.reduceLE, Int.reduceEq, Int.reduceNeg, Int.reduceAdd, Int.reduceSub, Int.reduceMul, Int.reduceToNat, opLen, lget_put, List.length_set, el, e2], by simp only [go_sem, Nat.reducePow, Nat.reduceDiv, Nat.reduceMod, Nat.reduceAdd, Nat.reduceSub, Nat.reduceMul, Nat.reduceLeDiff, Nat.reduceLT, Nat.reduceEqDiff, reduceCtorEq, reduceIte, reduceDIte, if_pos rfl, Int.reduceLT, Int.reduceLE, Int.reduceEq, Int.reduceNeg, Int.reduceAdd, Int.reduceSub, Int.reduceMul, Int.reduceToNat, opLen, lget_put, List.length_set, el, e7], by simp only [go_sem, Nat.reducePow, Nat.reduceDiv, Nat.reduceMod, Nat.reduceAdd, Nat.reduceSub, Nat.reduceMul, Nat.reduceLeDiff, Nat.reduceLT, Nat.reduceEqDiff, reduceCtorEq, reduceIte, reduceDIte, if_pos rfl, Int.reduceLT, Int.reduceLE, Int.reduceEq, Int.reduceNeg, Int.reduceAdd, Int.reduceSub, Int.reduceMul, Int.reduceToNat, opLen, lget_put, List.length_set, el, e8]⟩, by omega, by omega, ?_, ⟨fun _ => ⟨rfl, ?_⟩, K.2⟩, ?_, fun j hj => hv j (by omega)⟩
    · rcases hc with hc | (hc | hc) | hc
      · have := hB c hc; omega
      · exact hlo1 c hc
      · omega
      · omega
    · rw [hAe, hZe]
      refine H1.keep (by simp only [go_sem, Nat.reducePow, Nat.reduceDiv, Nat.reduceMod, Nat.reduceAdd, Nat.reduceSub, Nat.reduceMul, Nat.reduceLeDiff, Nat.reduceLT, Nat.reduceEqDiff, reduceCtorEq, reduceIte, reduceDIte, if_pos rfl, Int.reduceLT, Int.reduceLE, Int.reduceEq, Int.reduceNeg, Int.reduceAdd, Int.reduceSub, Int.reduceMul, Int.reduceToNat, opLen] <;> omega) fun c hc => ?_
      have q1 : ¬ σ1.next = c := by omega
      have q2 : ¬ σ1.next + 1 = c := by omega
      have q3 : c < σ1.next + 1 := by omega
      simp only [go_sem, Nat.reducePow, Nat.reduceDiv, Nat.reduceMod, Nat.reduceAdd, Nat.reduceSub, Nat.reduceMul, Nat.reduceLeDiff, Nat.reduceLT, Nat.reduceEqDiff, reduceCtorEq, reduceIte, reduceDIte, if_pos rfl, Int.reduceLT, Int.reduceLE, Int.reduceEq, Int.reduceNeg, Int.reduceAdd, Int.reduceSub, Int.reduceMul, Int.reduceToNat, opLen, hc, q1, q2, q3]
    · have q3 : 0 < σ1.next := by omega
      simp only [go_sem, Nat.reducePow, Nat.reduceDiv, Nat.reduceMod, Nat.reduceAdd, Nat.reduceSub, Nat.reduceMul, Nat.reduceLeDiff, Nat.reduceLT, Nat.reduceEqDiff, reduceCtorEq, reduceIte, reduceDIte, if_pos rfl, Int.reduceLT, Int.reduceLE, Int.reduceEq, Int.reduceNeg, Int.reduceAdd, Int.reduceSub, Int.reduceMul, Int.reduceToNat, opLen, nz1, q3, hk0]
    · simp only [go_sem, Nat.reducePow, Nat.reduceDiv, Nat.reduceMod, Nat.reduceAdd, Nat.reduceSub, Nat.reduceMul, Nat.reduceLeDiff, Nat.reduceLT, Nat.reduceEqDiff, reduceCtorEq, reduceIte, reduceDIte, if_pos rfl, Int.reduceLT, Int.reduceLE, Int.reduceEq, Int.reduceNeg, Int.reduceAdd, Int.reduceSub, Int.reduceMul, Int.reduceToNat, opLen] <;> omega

set_option maxHeartbeats 1000000 in
set_option maxRecDepth 20000 in
theorem bound_good1 {R : Nat} {more : Int} {len cap lo i : Nat} {vs : List Value} {Ai Zi : Nat → Int} {ts : List Value} {σ : St} {b : QB} {Q : QV} {m : Nat} (hlo : 0 < lo) (hlen : len ≤ 40) (hR : 1 ≤ R ∧ R ≤ 1000000) (hm : 0 ≤ more ∧ more ≤ 100000)
    (F : F6 ts R more (some ⟨0, 0, some 0⟩) len cap b.q i) (hil : i < len) (hmi : m + i = len + 1) (K : SendsIn σ (some ⟨0, 0, some 0⟩) len vs Ai Zi) (hn : lo ≤ σ.next) (hv : ∀ j, j ≤ i → Valid Ai Zi j) (H : OB σ b Q R (fun j => (Ai j).toNat) (fun j => (Zi j).toNat) i lo) (k : Nat) (hik : i = k + 1) :
    wp (cP Try.prog) q8 (btAll 6) false boundO ⟨ts, []⟩ σ (stepW (I6O R more (some ⟨0, 0, some 0⟩) len cap lo vs Ai Zi) E6O (fun c => lo ≤ c) m) := by
  obtain ⟨A, hAe⟩ : ∃ A : Nat → Nat, (fun j => (Ai j).toNat) = A := ⟨_, rfl⟩
  obtain ⟨Z, hZe⟩ : ∃ Z : Nat → Nat, (fun j => (Zi j).toNat) = Z := ⟨_, rfl⟩
  have hA : ∀ j, j ≤ i → Ai j = A j ∧ A j ≤ 2147483647 := fun j hj => by
    have := hv j hj
    have h0 := this.a0
    have h1 := this.a1
    rw [← hAe]
    show Ai j = (((Ai j).toNat : Nat) : Int) ∧ (Ai j).toNat ≤ 2147483647
    omega
  have hZ : ∀ j, j ≤ i → Zi j = Z j ∧ Z j ≤ 2000 := fun j hj => by
    have := hv j hj
    have h0 := this.z0
    have h1 := this.z1
    rw [← hZe]
    show Zi j = (((Zi j).toNat : Nat) : Int) ∧ (Zi j).toNat ≤ 2000
    omega
  have hZ1 : 1 ≤ Z i := by
    have h1 := (hv i (Nat.le_refl _)).z0
    have h2 := (hZ i (Nat.le_refl _)).1
    omega
  rw [hAe, hZe] at H
  have g0 := (K.1 (by omega)).2
  obtain ⟨a1, a2, _, _⟩ := K.2 i hil
  obtain ⟨v1, v2, v3, v4, v5⟩ := hv i (Nat.le_refl _)
  have v1' : ¬ Ai i < 0 := by omega
  have v2' : ¬ 2147483647 < Ai i := by omega
  have v3' : ¬ Zi i < 1 := by omega
  have v4' : ¬ 2000 < Zi i := by omega
  have e0 := F.t0
  have e1 := F.t1
  have e2 := F.t2
  have e7 := F.t7
  have e8 := F.t8
  have el := F.size
  have c1 : (i : Int) < (len : Int) := by omega
  have c2 : (0 : Int) ≤ (i : Int) := by omega
  have nz : ¬ σ.next = 0 := by omega
  have c3 : (0 : Int) < (i : Int) := by omega
  have ek : (i : Int) - 1 = (k : Int) := by omega
  have w1 : IntKind.i64.wrap (k : Int) = (k : Int) := wrapIN (by omega)
  have c4 : (k : Int) < (len : Int) := by omega
  have c5 : (0 : Int) ≤ (k : Int) := by omega
  obtain ⟨a3, _, _, _⟩ := K.2 k (by omega)
  have v5' : ¬ Ai i < Ai k := by
    have h := v5 (by omega)
    rw [show i - 1 = k by omega] at h
    omega
  simp only [go_sem, Nat.reducePow, Nat.reduceDiv, Nat.reduceMod, Nat.reduceAdd, Nat.reduceSub, Nat.reduceMul, Nat.reduceLeDiff, Nat.reduceLT, Nat.reduceEqDiff, reduceCtorEq, reduceIte, reduceDIte, if_pos rfl, Int.reduceLT, Int.reduceLE, Int.reduceEq, Int.reduceNeg, Int.reduceAdd, Int.reduceSub, Int.reduceMul, Int.reduceToNat, opLen, callW, q8, p8, p7, p6, p5, p4, p3, p2, p1, boundO, loopOf, Try.f6, Option.getD, Int.toNat_natCast, lget_put, lgetq_put, List.length_set, e2, e8, el, c1, c2, g0, nz, undef, a1, a2, v1', v2', v3', v4', c3, ek, w1, c4, c5, a3, v5']
  refine loop_then (bound_inner (q := b.q) (R := R) (more := more) (cap := cap) (vs := vs) (A := A) (Z := Z) (by omega) hil hlen K (by omega) hm hA hZ (i + 2) _ _ ⟨_, 0, rfl, rfl, ⟨by simp only [List.length_set, el], by simp only [go_sem, Nat.reducePow, Nat.reduceDiv, Nat.reduceMod, Nat.reduceAdd, Nat.reduceSub, Nat.reduceMul, Nat.reduceLeDiff, Nat.reduceLT, Nat.reduceEqDiff, reduceCtorEq, reduceIte, reduceDIte, if_pos rfl, Int.reduceLT, Int.reduceLE, Int.reduceEq, Int.reduceNeg, Int.reduceAdd, Int.reduceSub, Int.reduceMul, Int.reduceToNat, opLen, lget_put, List.length_set, el, e0], by simp only [go_sem, Nat.reducePow, Nat.reduceDiv, Nat.reduceMod, Nat.reduceAdd, Nat.reduceSub, Nat.reduceMul, Nat.reduceLeDiff, Nat.reduceLT, Nat.reduceEqDiff, reduceCtorEq, reduceIte, reduceDIte, if_pos rfl, Int.reduceLT, Int.reduceLE, Int.reduceEq, Int.reduceNeg, Int.reduceAdd, Int.reduceSub, Int.reduceMul, Int.reduceToNat, opLen, lget_put, List.length_set, el, e1], by simp only [go_sem, Nat.reducePow, Nat.reduceDiv, Nat.reduceMod, Nat.reduceAdd, Nat.reduceSub, Nat.reduceMul, Nat.reduceLeDiff, Nat.reduceLT, Nat.reduceEqDiff, reduceCtorEq, reduceIte, reduceDIte, if_pos rfl, Int.reduceLT, Int.reduceLE, Int.reduceEq, Int.reduceNeg, Int.reduceAdd, Int.reduceSub, Int.reduceMul, Int.reduceToNat, opLen, lget_put, List.length_set, el, e2], by simp only [go_sem, Nat.reducePow, Nat.reduceDiv, Nat.reduceMod, Nat.reduceAdd, Nat.reduceSub, Nat.reduceMul, Nat.reduceLeDiff, Nat.reduceLT, Nat.reduceEqDiff, reduceCtorEq, reduceIte, reduceDIte, if_pos rfl, Int.reduceLT, Int.reduceLE, Int.reduceEq, Int.reduceNeg, Int.reduceAdd, Int.reduceSub, Int.reduceMul, Int.reduceToNat, opLen, lget_put, List.length_set, el, e7], by simp only [go_sem, Nat.reducePow, Nat.reduceDiv, Nat.reduceMod, Nat.reduceAdd, Nat.reduceSub, Nat.reduceMul, Nat.reduceLeDiff, Nat.reduceLT, Nat.reduceEqDiff, reduceCtorEq, reduceIte, reduceDIte, if_pos rfl, Int.reduceLT, Int.reduceLE, Int.reduceEq, Int.reduceNeg, Int.reduceAdd, Int.reduceSub, Int.reduceMul, Int.reduceToNat, opLen, lget_put, List.length_set, el, e8]⟩, by omega, by omega, by simp only [go_sem, Nat.reducePow, Nat.reduceDiv, Nat.reduceMod, Nat.reduceAdd, Nat.reduceSub, Nat.reduceMul, Nat.reduceLeDiff, Nat.reduceLT, Nat.reduceEqDiff, reduceCtorEq, reduceIte, reduceDIte, if_pos rfl, Int.reduceLT, Int.reduceLE, Int.reduceEq, Int.reduceNeg, Int.reduceAdd, Int.reduceSub, Int.reduceMul, Int.reduceToNat, opLen, lget_put, List.length_set, el]; rfl, by simp only [go_sem, Nat.reducePow, Nat.reduceDiv, Nat.reduceMod, Nat.reduceAdd, Nat.reduceSub, Nat.reduceMul, Nat.reduceLeDiff, Nat.reduceLT, Nat.reduceEqDiff, reduceCtorEq, reduceIte, reduceDIte, if_pos rfl, Int.reduceLT, Int.reduceLE, Int.reduceEq, Int.reduceNeg, Int.reduceAdd, Int.reduceSub, Int.reduceMul, Int.reduceToNat, opLen, lget_put, List.length_set, el, e8, Int.natCast_zero, Int.sub_zero], fun k hk => absurd hk (Nat.not_lt_zero k)⟩) ?_
  clear e0 e1 e2 e7 e8 el F
  rintro x fr' σ' lg hlg hB ⟨ts', rfl, hE⟩
  rcases hE with ⟨rfl, hl6, h6⟩ | ⟨rfl, rfl, F, hk⟩
  · simp only [go_sem, Nat.reducePow, Nat.reduceDiv, Nat.reduceMod, Nat.reduceAdd, Nat.reduceSub, Nat.reduceMul, Nat.reduceLeDiff, Nat.reduceLT, Nat.reduceEqDiff, reduceCtorEq, reduceIte, reduceDIte, if_pos rfl, Int.reduceLT, Int.reduceLE, Int.reduceEq, Int.reduceNeg, Int.reduceAdd, Int.reduceSub, Int.reduceMul, Int.reduceToNat, opLen]
    exact ⟨fun c hc => by have := hB c hc; omega, _, rfl, hl6, .inl ⟨rfl, h6⟩⟩
  · obtain ⟨x, hx, hx1, hx2, hx3, hx4, hx5, hx6⟩ := H.fl
    have e0 := F.t0
    have e1 := F.t1
    have e2 := F.t2
    have e7 := F.t7
    have e8 := F.t8
    have el := F.size
    have az := hZ i (Nat.le_refl _)
    have aa := hA i (Nat.le_refl _)
    have hS : clk A Z R i < 1000000000000000000 := by
      have h1 := clk_le (A := A) (Z := Z) (R := R) (i := i) (a := 2147483647) (z := 2000) (fun j hj => (hA j (by omega)).2) (fun j hj => (hZ j (by omega)).2)
      have h2 : 2147483647 * R ≤ 2147483647 * 1000000 := Nat.mul_le_mul_left _ hR.2
      omega
    have hAR : A i * R ≤ 2147483647 * 1000000 := Nat.mul_le_mul aa.2 hR.2
    have hcl : clk A Z R (i + 1) ≤ A i * R + more.toNat := by
      refine clk_bound fun n hn => ?_
      have h1 := hk n hn
      have h2 : A (i - n) ≤ A i := valid_mono hv hA n hn
      have h3 : ((A i : Int) - (A (i - n) : Int)) = ((A i - A (i - n) : Nat) : Int) := by omega
      have h4 : (R : Int) * ((A i - A (i - n) : Nat) : Int) = ((R * (A i - A (i - n)) : Nat) : Int) := (Int.natCast_mul _ _).symm
      rw [h3, h4] at h1
      exact ⟨h2, by omega⟩
    have hcl' : max (A i * R) (clk A Z R i) + Z i ≤ A i * R + more.toNat := hcl
    have hmo : more = (more.toNat : Int) := by omega
    have w10 : IntKind.i64.wrap ((A i : Int) * (R : Int)) = ((A i * R : Nat) : Int) := by rw [← Int.natCast_mul]; exact wrapIN (by omega)
    have w11 : IntKind.i64.wrap (((A i * R : Nat) : Int) + more) = ((A i * R + more.toNat : Nat) : Int) := by
      have : ((A i * R : Nat) : Int) + more = ((A i * R + more.toNat : Nat) : Int) := by omega
      rw [this]; exact wrapIN (by omega)
    have w12 : IntKind.i64.wrap ((i : Int) + 1) = ((i + 1 : Nat) : Int) := by
      have : (i : Int) + 1 = ((i + 1 : Nat) : Int) := by omega
      rw [this]; exact wrapIN (by omega)
    rw [aa.1] at a1
    rw [az.1] at a2
    simp only [go_sem, Nat.reducePow, Nat.reduceDiv, Nat.reduceMod, Nat.reduceAdd, Nat.reduceSub, Nat.reduceMul, Nat.reduceLeDiff, Nat.reduceLT, Nat.reduceEqDiff, reduceCtorEq, reduceIte, reduceDIte, if_pos rfl, Int.reduceLT, Int.reduceLE, Int.reduceEq, Int.reduceNeg, Int.reduceAdd, Int.reduceSub, Int.reduceMul, Int.reduceToNat, opLen, callW, q8, p8, p7, p6, p5, p4, p3, p2, p1, lget_put, lgetq_put, List.length_set, Int.toNat_natCast, e0, e1, e2, e7, e8, el, g0, nz, c1, c2, a1, a2]
    refine callX.ret (qput_call H.at' (i : Int) 1 (Z i) (A i) (clk A Z R i) R hx (H.free _ (by omega)) (by omega) (by omega) (by omega) (by omega) hx1 hx5 hx6 hR hS (by omega) (by omega) (by omega) (by rw [H.np]; omega) (fun y hy => by have := H.ids y hy; omega) (by rw [H.len]; omega) (by rw [H.t]; omega)) ?_
    intro σ1 l1 hl1 hP1
    have hk0 : σ1.get 0 = some (.cells vs true) := by
      refine (hl1.2 0 (by omega) fun hm => ?_).trans g0
      rcases hP1.1 0 hm with h | h
      · have := H.foot 0 h; omega
      · omega
    have n1 := hl1.1
    obtain ⟨hlo1, A', Q', H1⟩ := H.put hx hx1 hx2 hx3 hx4 az.2 hn hP1
    have nz1 : ¬ σ1.next = 0 := by omega
    have an : ∀ l : List Nat, (l.any fun _ => false) = false := fun l => by simp
    have hM : max (A i * R) (clk A Z R i) + Z i < 9223372036854775807 := by omega
    have hle := cmpR_frac_le (r := R) (by omega) hcl'
    generalize max (A i * R) (clk A Z R i) + Z i = M at hM hle hP1
    have o1 : okI (fN M R : Int) = true := okI_nat (by have := fN_le M R; omega)
    have o2 : okI (fD M R : Int) = true := okI_nat (by have := fD_le M R; omega)
    have o3 : okI (fN (A i * R + more.toNat) R : Int) = true := okI_nat (by have := fN_le (A i * R + more.toNat) R; omega)
    have o4 : okI (fD (A i * R + more.toNat) R : Int) = true := okI_nat (by have := fD_le (A i * R + more.toNat) R; omega)
    have p1 : 1 ≤ (fD M R : Int) := by have := fD_pos (a := M) (r := R) (by omega); omega
    have p2 : 1 ≤ (fD (A i * R + more.toNat) R : Int) := by have := fD_pos (a := A i * R + more.toNat) (r := R) (by omega); omega
    have hnl : ¬ 0 < cmpR (fN M R : Int) (fD M R : Int) (fN (A i * R + more.toNat) R : Int) (fD (A i * R + more.toNat) R : Int) := by omega
    simp only [go_sem, Nat.reducePow, Nat.reduceDiv, Nat.reduceMod, Nat.reduceAdd, Nat.reduceSub, Nat.reduceMul, Nat.reduceLeDiff, Nat.reduceLT, Nat.reduceEqDiff, reduceCtorEq, reduceIte, reduceDIte, if_pos rfl, Int.reduceLT, Int.reduceLE, Int.reduceEq, Int.reduceNeg, Int.reduceAdd, Int.reduceSub, Int.reduceMul, Int.reduceToNat, opLen, callW, q8, p8, p7, p6, p5, p4, p3, p2, p1, lget_put, lgetq_put, List.length_set, Int.toNat_natCast, e0, e1, e2, e7, e8, el, hk0, nz, nz1, an, c1, c2, a1, a2, w10, w11]
    refine .of (rmake_call (A i * R + more.toNat) R _ (by omega) (by omega) (by omega)) ?_
    simp only [go_sem, Nat.reducePow, Nat.reduceDiv, Nat.reduceMod, Nat.reduceAdd, Nat.reduceSub, Nat.reduceMul, Nat.reduceLeDiff, Nat.reduceLT, Nat.reduceEqDiff, reduceCtorEq, reduceIte, reduceDIte, if_pos rfl, Int.reduceLT, Int.reduceLE, Int.reduceEq, Int.reduceNeg, Int.reduceAdd, Int.reduceSub, Int.reduceMul, Int.reduceToNat, opLen, callW, q8, p8, p7, p6, p5, p4, p3, p2, p1, lget_put, lgetq_put, List.length_set, e0, e1, e2, e7, e8, el]
    refine .of (cmpB_call _ _ _ _ _ o1 o2 o3 o4 p1 p2) ?_
    simp only [go_sem, Nat.reducePow, Nat.reduceDiv, Nat.reduceMod, Nat.reduceAdd, Nat.reduceSub, Nat.reduceMul, Nat.reduceLeDiff, Nat.reduceLT, Nat.reduceEqDiff, reduceCtorEq, reduceIte, reduceDIte, if_pos rfl, Int.reduceLT, Int.reduceLE, Int.reduceEq, Int.reduceNeg, Int.reduceAdd, Int.reduceSub, Int.reduceMul, Int.reduceToNat, opLen, callW, q8, p8, p7, p6, p5, p4, p3, p2, p1, lget_put, lgetq_put, List.length_set, e0, e1, e2, e7, e8, el, hnl, w12]
    refine ⟨fun c hc => ?_, m - 1, by omega, _, i + 1, { b with A := A' }, Q', rfl, ⟨by simp only [List.length_set, el], by simp only [go_sem, Nat.reducePow, Nat.reduceDiv, Nat.reduceMod, Nat.reduceAdd, Nat.reduceSub, Nat.reduceMul, Nat.reduceLeDiff, Nat.reduceLT, Nat.reduceEqDiff, reduceCtorEq, reduceIte, reduceDIte, if_pos rfl, Int.reduceLT, Int.reduceLE, Int.reduceEq, Int.reduceNeg, Int.reduceAdd, Int.reduceSub, Int.reduceMul, Int.reduceToNat, opLen, lget_put, List.length_set, el, e0], by simp only [go_sem, Nat.reducePow, Nat.reduceDiv, Nat.reduceMod, Nat.reduceAdd, Nat.reduceSub, Nat.reduceMul, Nat.reduceLeDiff, Nat.reduceLT, Nat.reduceEqDiff, reduceCtorEq, reduceIte, reduceDIte, if_pos rfl, Int.reduceLT, Int.reduceLE, Int.reduceEq, Int.reduceNeg, Int.reduceAdd, Int.reduceSub, Int.reduceMul, Int.reduceToNat, opLen, lget_put, List.length_set, el, e1], by simp only [go_sem, Nat.reducePow, Nat.reduceDiv, Nat.reduceMod, Nat.reduceAdd, Nat.reduceSub, Nat.reduceMul, Nat.reduceLeDiff, Nat.reduceLT, Nat.reduceEqDiff, reduceCtorEq, reduceIte, reduceDIte, if_pos rfl, Int.reduceLT, Int.reduceLE, Int.reduceEq, Int.reduceNeg, Int.reduceAdd, Int.reduceSub, Int.reduceMul, Int.reduceToNat, opLen, lget_put, List.length_set, el, e2], by simp only [go_sem, Nat.reducePow, Nat.reduceDiv, Nat.reduceMod, Nat.reduceAdd, Nat.reduceSub, Nat.reduceMul, Nat.reduceLeDiff, Nat.reduceLT, Nat.reduceEqDiff, reduceCtorEq, reduceIte, reduceDIte, if_pos rfl, Int.reduceLT, Int.reduceLE, Int.reduceEq, Int.reduceNeg, Int.reduceAdd, Int.reduceSub, Int.reduceMul, Int.reduceToNat, opLen, lget_put, List.length_set, el, e7], by simp only [go_sem, Nat.reducePow, Nat.reduceDiv, Nat.reduceMod, Nat.reduceAdd, Nat.reduceSub, Nat.reduceMul, Nat.reduceLeDiff, Nat.reduceLT, Nat.reduceEqDiff, reduceCtorEq, reduceIte, reduceDIte, if_pos rfl, Int.reduceLT, Int.reduceLE, Int.reduceEq, Int.reduceNeg, Int.reduceAdd, Int.reduceSub, Int.reduceMul, Int.reduceToNat, opLen, lget_put, List.length_set, el, e8]⟩, by omega, by omega, ?_, ⟨fun _ => ⟨rfl, ?_⟩, K.2⟩, ?_, fun j hj => hv j (by omega)⟩
    · rcases hc with hc | (hc | hc) | hc
      · have := hB c hc; omega
      · exact hlo1 c hc
      · omega
      · omega
    · rw [hAe, hZe]
      refine H1.keep (by simp only [go_sem, Nat.reducePow, Nat.reduceDiv, Nat.reduceMod, Nat.reduceAdd, Nat.reduceSub, Nat.reduceMul, Nat.reduceLeDiff, Nat.reduceLT, Nat.reduceEqDiff, reduceCtorEq, reduceIte, reduceDIte, if_pos rfl, Int.reduceLT, Int.reduceLE, Int.reduceEq, Int.reduceNeg, Int.reduceAdd, Int.reduceSub, Int.reduceMul, Int.reduceToNat, opLen] <;> omega) fun c hc => ?_
      have q1 : ¬ σ1.next = c := by omega
      have q2 : ¬ σ1.next + 1 = c := by omega
      have q3 : c < σ1.next + 1 := by omega
      simp only [go_sem, Nat.reducePow, Nat.reduceDiv, Nat.reduceMod, Nat.reduceAdd, Nat.reduceSub, Nat.reduceMul, Nat.reduceLeDiff, Nat.reduceLT, Nat.reduceEqDiff, reduceCtorEq, reduceIte, reduceDIte, if_pos rfl, Int.reduceLT, Int.reduceLE, Int.reduceEq, Int.reduceNeg, Int.reduceAdd, Int.reduceSub, Int.reduceMul, Int.reduceToNat, opLen, hc, q1, q2, q3]
    · have q3 : 0 < σ1.next := by omega
      simp only [go_sem, Nat.reducePow, Nat.reduceDiv, Nat.reduceMod, Nat.reduceAdd, Nat.reduceSub, Nat.reduceMul, Nat.reduceLeDiff, Nat.reduceLT, Nat.reduceEqDiff, reduceCtorEq, reduceIte, reduceDIte, if_pos rfl, Int.reduceLT, Int.reduceLE, Int.reduceEq, Int.reduceNeg, Int.reduceAdd, Int.reduceSub, Int.reduceMul, Int.reduceToNat, opLen, nz1, q3, hk0]
    · simp only [go_sem, Nat.reducePow, Nat.reduceDiv, Nat.reduceMod, Nat.reduceAdd, Nat.reduceSub, Nat.reduceMul, Nat.reduceLeDiff, Nat.reduceLT, Nat.reduceEqDiff, reduceCtorEq, reduceIte, reduceDIte, if_pos rfl, Int.reduceLT, Int.reduceLE, Int.reduceEq, Int.reduceNeg, Int.reduceAdd, Int.reduceSub, Int.reduceMul, Int.reduceToNat, opLen] <;> omega

end Go.Ab

set_option linter.unusedSimpArgs false
set_option linter.unusedVariables false
namespace Go.Ab
open Go.Proofs

set_option maxHeartbeats 1000000 in
set_option maxRecDepth 20000 in
theorem bound_outer {R : Nat} {more : Int} {sa : Option Addr} {len cap lo : Nat} {vs : List Value} {Ai Zi : Nat → Int} (hlo : 0 < len → 0 < lo) (hlen : len ≤ 40) (hR : 1 ≤ R ∧ R ≤ 1000000) (hm : 0 ≤ more ∧ more ≤ 100000)
    (hol : ∀ σ, opLen (cP Try.prog).T σ 62 (.slice sa len cap) = some (.val (.int .i64 (len : Int)) [])) :
    ∀ m fr σ, I6O R more sa len cap lo vs Ai Zi m fr σ → loopX Try.prog false boundO fr σ (endL E6O fun c => lo ≤ c) := by
  refine loop_ind q8 6 (by kernel_rfl) _ _ _ ?_
  rintro m fr σ ⟨ts, i, b, Q, rfl, F, hmi, hil, H, K, hn, hv⟩
  by_cases hi : i < len
  · obtain ⟨rfl, g0⟩ := K.1 (by omega)
    have hlo := hlo (by omega)
    have hn0 : 0 < σ.next := by omega
    obtain ⟨a1, a2, _, _⟩ := K.2 i hi
    by_cases v1 : Ai i < 0
    · exact bound_bad1 F hi g0 hn0 a1 a2 v1 _ _ _
    by_cases v2 : 2147483647 < Ai i
    · exact bound_bad2 F hi g0 hn0 a1 a2 v1 v2 _ _ _
    by_cases v3 : Zi i < 1
    · exact bound_bad3 F hi g0 hn0 a1 a2 v1 v2 v3 _ _ _
    by_cases v4 : 2000 < Zi i
    · exact bound_bad4 F hi g0 hn0 a1 a2 v1 v2 v3 v4 _ _ _
    have val : (0 < i → Ai (i - 1) ≤ Ai i) → ∀ j, j ≤ i → Valid Ai Zi j := fun hmono j hj => by
      by_cases hji : j = i
      · subst hji
        exact ⟨by omega, by omega, by omega, by omega, hmono⟩
      · exact hv j (by omega)
    by_cases hi0 : i = 0
    · exact bound_good0 hlo hlen hR hm F hi hmi K hn (val fun h => absurd h (by omega)) H hi0
    · obtain ⟨k, rfl⟩ : ∃ k, i = k + 1 := ⟨i - 1, by omega⟩
      by_cases v5 : Ai (k + 1) < Ai k
      · exact bound_bad5 F hi hlen g0 hn0 a1 a2 (K.2 k (by omega)).1 v1 v2 v3 v4 v5 _ _ _
      · exact bound_good1 hlo hlen hR hm F hi hmi K hn (val fun _ => by show Ai k ≤ _; omega) H k rfl
  · obtain rfl : i = len := by omega
    have e2 := F.t2
    have e8 := F.t8
    have el := F.size
    have c1 : ¬ (i : Int) < (i : Int) := by omega
    simp only [go_sem, Nat.reducePow, Nat.reduceDiv, Nat.reduceMod, Nat.reduceAdd, Nat.reduceSub, Nat.reduceMul, Nat.reduceLeDiff, Nat.reduceLT, Nat.reduceEqDiff, reduceCtorEq, reduceIte, reduceDIte, if_pos rfl, Int.reduceLT, Int.reduceLE, Int.reduceEq, Int.reduceNeg, Int.reduceAdd, Int.reduceSub, Int.reduceMul, Int.reduceToNat, callW, q8, p8, p7, p6, p5, p4, p3, p2, p1, boundO, loopOf, Try.f6, Option.getD, lget_put, lgetq_put, List.length_set, e2, e8, el, hol, c1]
    exact ⟨_, rfl, by simp only [List.length_set, el], .inr rfl⟩

set_option maxHeartbeats 1000000 in
set_option maxRecDepth 20000 in
theorem bound_known {R more : Int} {sa : Option Addr} {len cap : Nat} {σ : St} (hol : ∀ σ, opLen (cP Try.prog).T σ 62 (.slice sa len cap) = some (.val (.int .i64 (len : Int)) []))
    (h : 40 < (len : Int) ∨ R < 1 ∨ 1000000 < R ∨ more < 0 ∨ 100000 < more) :
    callX Try.prog 6 [.int .i64 R, .int .i64 more, .slice sa len cap] σ fun e σ' l => e = .ret (.bool true) ∧ ∀ c ∈ l, σ.next ≤ c := by
  refine enter (p := q8) Try.func6 rfl (by kernel_rfl) ?_
  by_cases h1 : 40 < (len : Int)
  · simp only [go_sem, Nat.reducePow, Nat.reduceDiv, Nat.reduceMod, Nat.reduceAdd, Nat.reduceSub, Nat.reduceMul, Nat.reduceLeDiff, Nat.reduceLT, Nat.reduceEqDiff, reduceCtorEq, reduceIte, reduceDIte, if_pos rfl, Int.reduceLT, Int.reduceLE, Int.reduceEq, Int.reduceNeg, Int.reduceAdd, Int.reduceSub, Int.reduceMul, Int.reduceToNat, callW, q8, p8, p7, p6, p5, p4, p3, p2, p1, undef, Try.f6, hol, h1]
    refine .of (known22_call _) ?_
    simp only [go_sem, Nat.reducePow, Nat.reduceDiv, Nat.reduceMod, Nat.reduceAdd, Nat.reduceSub, Nat.reduceMul, Nat.reduceLeDiff, Nat.reduceLT, Nat.reduceEqDiff, reduceCtorEq, reduceIte, reduceDIte, if_pos rfl, Int.reduceLT, Int.reduceLE, Int.reduceEq, Int.reduceNeg, Int.reduceAdd, Int.reduceSub, Int.reduceMul, Int.reduceToNat]
  by_cases h2 : R < 1
  · simp only [go_sem, Nat.reducePow, Nat.reduceDiv, Nat.reduceMod, Nat.reduceAdd, Nat.reduceSub, Nat.reduceMul, Nat.reduceLeDiff, Nat.reduceLT, Nat.reduceEqDiff, reduceCtorEq, reduceIte, reduceDIte, if_pos rfl, Int.reduceLT, Int.reduceLE, Int.reduceEq, Int.reduceNeg, Int.reduceAdd, Int.reduceSub, Int.reduceMul, Int.reduceToNat, callW, q8, p8, p7, p6, p5, p4, p3, p2, p1, undef, Try.f6, hol, h1, h2]
    refine .of (known22_call _) ?_
    simp only [go_sem, Nat.reducePow, Nat.reduceDiv, Nat.reduceMod, Nat.reduceAdd, Nat.reduceSub, Nat.reduceMul, Nat.reduceLeDiff, Nat.reduceLT, Nat.reduceEqDiff, reduceCtorEq, reduceIte, reduceDIte, if_pos rfl, Int.reduceLT, Int.reduceLE, Int.reduceEq, Int.reduceNeg, Int.reduceAdd, Int.reduceSub, Int.reduceMul, Int.reduceToNat]
  by_cases h3 : 1000000 < R
  · simp only [go_sem, Nat.reducePow, Nat.reduceDiv, Nat.reduceMod, Nat.reduceAdd, Nat.reduceSub, Nat.reduceMul, Nat.reduceLeDiff, Nat.reduceLT, Nat.reduceEqDiff, reduceCtorEq, reduceIte, reduceDIte, if_pos rfl, Int.reduceLT, Int.reduceLE, Int.reduceEq, Int.reduceNeg, Int.reduceAdd, Int.reduceSub, Int.reduceMul, Int.reduceToNat, callW, q8, p8, p7, p6, p5, p4, p3, p2, p1, undef, Try.f6, hol, h1, h2, h3]
    refine .of (known22_call _) ?_
    simp only [go_sem, Nat.reducePow, Nat.reduceDiv, Nat.reduceMod, Nat.reduceAdd, Nat.reduceSub, Nat.reduceMul, Nat.reduceLeDiff, Nat.reduceLT, Nat.reduceEqDiff, reduceCtorEq, reduceIte, reduceDIte, if_pos rfl, Int.reduceLT, Int.reduceLE, Int.reduceEq, Int.reduceNeg, Int.reduceAdd, Int.reduceSub, Int.reduceMul, Int.reduceToNat]
  by_cases h4 : more < 0
  · simp only [go_sem, Nat.reducePow, Nat.reduceDiv, Nat.reduceMod, Nat.reduceAdd, Nat.reduceSub, Nat.reduceMul, Nat.reduceLeDiff, Nat.reduceLT, Nat.reduceEqDiff, reduceCtorEq, reduceIte, reduceDIte, if_pos rfl, Int.reduceLT, Int.reduceLE, Int.reduceEq, Int.reduceNeg, Int.reduceAdd, Int.reduceSub, Int.reduceMul, Int.reduceToNat, callW, q8, p8, p7, p6, p5, p4, p3, p2, p1, undef, Try.f6, hol, h1, h2, h3, h4]
    refine .of (known22_call _) ?_
    simp only [go_sem, Nat.reducePow, Nat.reduceDiv, Nat.reduceMod, Nat.reduceAdd, Nat.reduceSub, Nat.reduceMul, Nat.reduceLeDiff, Nat.reduceLT, Nat.reduceEqDiff, reduceCtorEq, reduceIte, reduceDIte, if_pos rfl, Int.reduceLT, Int.reduceLE, Int.reduceEq, Int.reduceNeg, Int.reduceAdd, Int.reduceSub, Int.reduceMul, Int.reduceToNat]
  by_cases h5 : 100000 < more
  · simp only [go_sem, Nat.reducePow, Nat.reduceDiv, Nat.reduceMod, Nat.reduceAdd, Nat.reduceSub, Nat.reduceMul, Nat.reduceLeDiff, Nat.reduceLT, Nat.reduceEqDiff, reduceCtorEq, reduceIte, reduceDIte, if_pos rfl, Int.reduceLT, Int.reduceLE, Int.reduceEq, Int.reduceNeg, Int.reduceAdd, Int.reduceSub, Int.reduceMul, Int.reduceToNat, callW, q8, p8, p7, p6, p5, p4, p3, p2, p1, undef, Try.f6, hol, h1, h2, h3, h4, h5]
    refine .of (known22_call _) ?_
    simp only [go_sem, Nat.reducePow, Nat.reduceDiv, Nat.reduceMod, Nat.reduceAdd, Nat.reduceSub, Nat.reduceMul, Nat.reduceLeDiff, Nat.reduceLT, Nat.reduceEqDiff, reduceCtorEq, reduceIte, reduceDIte, if_pos rfl, Int.reduceLT, Int.reduceLE, Int.reduceEq, Int.reduceNeg, Int.reduceAdd, Int.reduceSub, Int.reduceMul, Int.reduceToNat]
  · omega

set_option maxHeartbeats 1000000 in
set_option maxRecDepth 20000 in
theorem bound_call {R more : Int} {sa : Option Addr} {len cap : Nat} {vs : List Value} {Ai Zi : Nat → Int} {σ : St} (hol : ∀ σ, opLen (cP Try.prog).T σ 62 (.slice sa len cap) = some (.val (.int .i64 (len : Int)) []))
    (K : SendsIn σ sa len vs Ai Zi) (h0 : 0 < len → 0 < σ.next) :
    callX Try.prog 6 [.int .i64 R, .int .i64 more, .slice sa len cap] σ fun e σ' l => e = .ret (.bool true) ∧ ∀ c ∈ l, σ.next ≤ c := by
  by_cases h : 40 < (len : Int) ∨ R < 1 ∨ 1000000 < R ∨ more < 0 ∨ 100000 < more
  · exact bound_known hol h
  simp only [not_or] at h
  obtain ⟨h1, h2, h3, h4, h5⟩ := h
  obtain ⟨r, rfl⟩ : ∃ r : Nat, R = r := ⟨R.toNat, by omega⟩
  refine enter (p := q8) Try.func6 rfl (by kernel_rfl) ?_
  simp only [go_sem, Nat.reducePow, Nat.reduceDiv, Nat.reduceMod, Nat.reduceAdd, Nat.reduceSub, Nat.reduceMul, Nat.reduceLeDiff, Nat.reduceLT, Nat.reduceEqDiff, reduceCtorEq, reduceIte, reduceDIte, if_pos rfl, Int.reduceLT, Int.reduceLE, Int.reduceEq, Int.reduceNeg, Int.reduceAdd, Int.reduceSub, Int.reduceMul, Int.reduceToNat, callW, q8, p8, p7, p6, p5, p4, p3, p2, p1, undef, Try.f6, hol, h1, h2, h3, h4, h5]
  refine callX.ret (qnew_call σ) ?_
  intro σ1 l1 hl1 ⟨hlog1, H1⟩
  simp only [go_sem, Nat.reducePow, Nat.reduceDiv, Nat.reduceMod, Nat.reduceAdd, Nat.reduceSub, Nat.reduceMul, Nat.reduceLeDiff, Nat.reduceLT, Nat.reduceEqDiff, reduceCtorEq, reduceIte, reduceDIte, if_pos rfl, Int.reduceLT, Int.reduceLE, Int.reduceEq, Int.reduceNeg, Int.reduceAdd, Int.reduceSub, Int.reduceMul, Int.reduceToNat, callW, q8, p8, p7, p6, p5, p4, p3, p2, p1]
  refine callX.ret (qadd_call H1 1 r 1000000000 0 (by omega) (by omega) rfl (by decide)) ?_
  intro σ2 l2 hl2 ⟨hlog2, blk, hblk, H2⟩
  simp only [go_sem, Nat.reducePow, Nat.reduceDiv, Nat.reduceMod, Nat.reduceAdd, Nat.reduceSub, Nat.reduceMul, Nat.reduceLeDiff, Nat.reduceLT, Nat.reduceEqDiff, reduceCtorEq, reduceIte, reduceDIte, if_pos rfl, Int.reduceLT, Int.reduceLE, Int.reduceEq, Int.reduceNeg, Int.reduceAdd, Int.reduceSub, Int.reduceMul, Int.reduceToNat, callW, q8, p8, p7, p6, p5, p4, p3, p2, p1]
  have fw := f_whole (n := 0) (r := r) (by omega)
  rw [Nat.zero_mul] at fw
  have n1 := hl1.1
  have n2 := hl2.1
  have lo2 : ∀ c ∈ l2, σ.next ≤ c := fun c hc => by
    rcases hlog2 c hc with h | h
    · simp only [QB.core, List.mem_cons, List.not_mem_nil, or_false] at h; omega
    · omega
  have k0 : 0 < len → σ2.get 0 = σ.get 0 := fun h => have h0 := h0 h; (hl2.2 0 (by omega) fun hm => by have := lo2 0 hm; omega).trans (hl1.2 0 (by omega) fun hm => by have := hlog1 0 hm; omega)
  have HO : OB σ2 ⟨σ.next + 4, σ.next + 2, σ.next + 3, σ.next + 1, σ.next, []⟩ _ r (fun j => (Ai j).toNat) (fun j => (Zi j).toNat) 0 σ.next :=
    ⟨H2, ⟨⟨blk, r, 1000000000, 0, 0, 1⟩, by show updF Q0.F 1 (some ⟨blk, r, 1000000000, 0, 0, 1⟩) 1 = _; exact if_pos rfl, rfl, rfl, by show (0 : Int) ≤ 0; omega, by show (0 : Int) ≤ 2000 * ((0 : Nat) : Int); omega, by show (0 : Int) = ((fN 0 r : Nat) : Int); rw [fw.1]; rfl, by show (1 : Int) = ((fD 0 r : Nat) : Int); rw [fw.2]; rfl⟩,
      fun c hc => by
        rcases hc with hc | ⟨k, y, hy, rfl⟩
        · simp only [QB.core, List.mem_cons, List.not_mem_nil, or_false] at hc; omega
        · by_cases hk : k = 1
          · subst hk
            have e : updF Q0.F 1 (some ⟨blk, r, 1000000000, 0, 0, 1⟩) 1 = some y := hy
            simp only [updF, if_true, Option.some.injEq] at e
            subst e
            show σ.next ≤ blk; omega
          · have e : Q0.F k = some y := by simpa [updF, hk] using hy
            exact absurd e (by simp [Q0]),
      fun k _ => rfl, rfl, rfl, rfl, fun y hy => absurd hy (by show ¬ y ∈ ([] : List Item); exact List.not_mem_nil)⟩
  refine loop_then (bound_outer (R := r) (more := more) (sa := sa) (len := len) (cap := cap) (lo := σ.next) (vs := vs) (Ai := Ai) (Zi := Zi) h0 (by omega) ⟨by omega, by omega⟩ ⟨by omega, by omega⟩ hol (len + 1) _ _ ⟨_, 0, _, _, rfl, ⟨rfl, rfl, rfl, rfl, rfl, rfl⟩, rfl, Nat.zero_le _, HO, ⟨fun h => ⟨(K.1 h).1, (k0 h).trans (K.1 h).2⟩, K.2⟩, by omega, fun j hj => absurd hj (Nat.not_lt_zero j)⟩) ?_
  rintro x fr' σ3 l3 hl3 hB ⟨ts', rfl, el, hE⟩
  rcases hE with ⟨rfl, h6⟩ | rfl
  · simp only [go_sem, Nat.reducePow, Nat.reduceDiv, Nat.reduceMod, Nat.reduceAdd, Nat.reduceSub, Nat.reduceMul, Nat.reduceLeDiff, Nat.reduceLT, Nat.reduceEqDiff, reduceCtorEq, reduceIte, reduceDIte, if_pos rfl, Int.reduceLT, Int.reduceLE, Int.reduceEq, Int.reduceNeg, Int.reduceAdd, Int.reduceSub, Int.reduceMul, Int.reduceToNat, h6, el]
    exact fun c hc => by
      rcases hc with hc | hc | hc
      · exact hlog1 c hc
      · exact lo2 c hc
      · exact hB c hc
  · simp only [go_sem, Nat.reducePow, Nat.reduceDiv, Nat.reduceMod, Nat.reduceAdd, Nat.reduceSub, Nat.reduceMul, Nat.reduceLeDiff, Nat.reduceLT, Nat.reduceEqDiff, reduceCtorEq, reduceIte, reduceDIte, if_pos rfl, Int.reduceLT, Int.reduceLE, Int.reduceEq, Int.reduceNeg, Int.reduceAdd, Int.reduceSub, Int.reduceMul, Int.reduceToNat]
    refine .of (known22_call _) ?_
    simp only [go_sem, Nat.reducePow, Nat.reduceDiv, Nat.reduceMod, Nat.reduceAdd, Nat.reduceSub, Nat.reduceMul, Nat.reduceLeDiff, Nat.reduceLT, Nat.reduceEqDiff, reduceCtorEq, reduceIte, reduceDIte, if_pos rfl, Int.reduceLT, Int.reduceLE, Int.reduceEq, Int.reduceNeg, Int.reduceAdd, Int.reduceSub, Int.reduceMul, Int.reduceToNat, lget_put, List.length_set, el]
    exact fun c hc => by
      rcases hc with hc | hc | hc
      · exact hlog1 c hc
      · exact lo2 c hc
      · exact hB c hc

end Go.Ab

set_option linter.unusedSimpArgs false
set_option linter.unusedVariables false
namespace Go.Proofs.Ytlipmhhndhhgdaa.clockBound
open Go.ChangeShapes Go.WideShapes Go.ChangeAt Go.RowKit Go.Ab

theorem own : ownKnob Try.prog.godebug = none := by kernel_rfl
theorem laidOut : laidOutB Try.prog = true := by kernel_rfl

theorem flat_send : flatK Try.prog 5 64 = some [.int .i64, .int .i64] := by kernel_rfl

theorem send_cells {c : List Value} (h : oks [.int .i64, .int .i64] c) : ∃ at' size, c = [.int .i64 at', .int .i64 size] ∧ okI at' = true ∧ okI size = true := by
  have hl := oks_length h
  obtain ⟨a, b, rfl⟩ : ∃ a b, c = [a, b] := by
    match c, hl with
    | [a, b], _ => exact ⟨a, b, rfl⟩
  obtain ⟨⟨k, rfl, hk⟩, ⟨i, rfl, hi⟩, _⟩ := h
  exact ⟨k, i, rfl, okI_of_wf hk, okI_of_wf hi⟩

theorem walk (a0 a1 : Int) (a : Option Addr) (len cap : Nat) (es : List (List Value)) (w : World) (h : IsRow [.int .i64, .int .i64] w a len cap es) :
    Calls Try.prog 6 #[.int .i64 a0, .int .i64 a1, .slice a len cap] w fun e w' => e = .returned (.bool true) ∧ Below w.heap.size w w' := by
  obtain ⟨Ai, Zi, hes⟩ : ∃ Ai Zi : Nat → Int, ∀ i, i < es.length → lget? es.flatten (i * 2) = some (.int .i64 (Ai i)) ∧ lget? es.flatten (i * 2 + 1) = some (.int .i64 (Zi i)) ∧ okI (Ai i) = true ∧ okI (Zi i) = true := by
    have hok : ∀ c ∈ es, oks [.int .i64, .int .i64] c := by
      rcases h with ⟨_, _, _, rfl⟩ | ⟨x, _, _, _, _, h, _⟩
      · intro c hc; simp at hc
      · exact h
    have key : ∀ i, ∃ x : Int × Int, i < es.length → lget? es.flatten (i * 2) = some (.int .i64 x.1) ∧ lget? es.flatten (i * 2 + 1) = some (.int .i64 x.2) ∧ okI x.1 = true ∧ okI x.2 = true := fun i => by
      by_cases hi : i < es.length
      · obtain ⟨t, z, hc, h1, h2⟩ := send_cells (hok es[i] (List.getElem_mem hi))
        obtain ⟨h3, h4⟩ := flatten_take (k := 2) (fun c hc => oks_length (hok c hc)) (List.getElem?_eq_getElem hi)
        rw [hc] at h3
        have e0 := congrArg (fun l : List Value => l[0]?) h3
        have e1 := congrArg (fun l : List Value => l[1]?) h3
        simp only [List.getElem?_take, List.getElem?_drop, Nat.add_zero, Nat.zero_lt_succ, if_true, List.getElem?_cons_zero, List.getElem?_cons_succ, Nat.reduceLT] at e0 e1
        exact ⟨(t, z), fun _ => ⟨by rw [lget?_eq]; exact e0, by rw [lget?_eq]; exact e1, h1, h2⟩⟩
      · exact ⟨(0, 0), fun h => absurd h hi⟩
    exact ⟨fun i => (Classical.choose (key i)).1, fun i => (Classical.choose (key i)).2, fun i hi => Classical.choose_spec (key i) hi⟩
  obtain ⟨ρ, σ, v, hw, hro, hv, hs⟩ := row_in h (by simp)
  rcases hs with ⟨rfl, rfl, hv2⟩ | ⟨hl, rfl, rfl⟩
  · have key : ∀ sa : Option Addr, v = .slice sa 0 0 → (∀ σ, opLen (cP Try.prog).T σ 62 (.slice sa 0 0) = some (.val (.int .i64 ((0 : Nat) : Int)) [])) → Calls Try.prog 6 #[.int .i64 a0, .int .i64 a1, .slice a 0 cap] w fun e w' => e = .returned (.bool true) ∧ Below w.heap.size w w' := fun sa e hol => by
      subst e
      obtain ⟨e', σ', lg, d, rfl, f⟩ := bound_call (R := a0) (more := a1) (sa := sa) (len := 0) (cap := 0) (vs := []) (Ai := Ai) (Zi := Zi) (σ := St.nil) hol ⟨fun h => absurd h (by omega), fun i hi => absurd hi (by omega)⟩ (fun h => absurd h (by omega))
      exact calls_true d hw (.cons (.int _ _) (.cons (.int _ _) (.cons hv .nil))) hro fun b hb hbl => by have := f b hbl; omega
    rcases hv2 with hv2 | hv2
    · exact key none hv2 fun σ => by simp only [opLen, cx_und, Try.underlying62]; rfl
    · exact key _ hv2 fun σ => by simp only [opLen, cx_und, Try.underlying62]
  · obtain ⟨e', σ', lg, d, rfl, f⟩ := bound_call (R := a0) (more := a1) (sa := some ⟨0, 0, some 0⟩) (len := len) (cap := cap) (vs := es.flatten) (Ai := Ai) (Zi := Zi) (σ := St.nil.new (.cells es.flatten true)) (fun σ => by simp only [opLen, cx_und, Try.underlying62])
      ⟨fun _ => ⟨rfl, by rw [St.get_new]; rfl⟩, fun i hi => hes i (by omega)⟩ (fun _ => Nat.zero_lt_one)
    exact calls_true d hw (.cons (.int _ _) (.cons (.int _ _) (.cons hv .nil))) hro fun b hb hbl => by have := f b hbl; omega

set_option maxRecDepth 100000 in
theorem lifted (os : Os) (started : os.Started) (H : Type) (enc : TypeId × Value → H) :
    ReturnsInHanded {} Try.checked os 6 .any (Rows.clockBoundSpec.pre6 enc Try.prog Try.f6 Rows.clockBoundRow.domain false) (Rows.clockBoundSpec.post enc Try.prog Try.f6 false true false false) := by
  refine returnsInHanded_of_change (C := Try.checked) own started (by kernel_rfl) Try.func6
    (ChangeSpec.witness6 (enc := enc) (C := Try.checked) false ⟨#[], #[.int .i64 0, .int .i64 0, .slice none 0 0], []⟩ 8 (by kernel_rfl) (by kernel_rfl) (by kernel_rfl) (by kernel_rfl)) ?_
  intro W base args ds gs before hval0 hW hcnd _
  have hval : ∀ (j : Nat) t v, Try.f6.params[j]? = some t → args[j]? = some v → Value.okWide Try.prog W .any base t v := hval0
  have hW' := hW
  obtain ⟨p, q, hA0, hV, rfl, hfz, hnd⟩ := hW
  have hA : DataW.TrodAll enc Try.prog W 0 (fun _ => true) true Try.f6.params.toList args.toList ds p := hA0
  rw [Try.params6] at hA hval
  obtain ⟨v0, vs0, d0, ds0, p0, q0, hargs, rfl, rfl, h0, r0⟩ := trodAll_cons hA
  obtain ⟨v1, vs1, d1, ds1, p1, q1, rfl, rfl, rfl, h1, r1⟩ := trodAll_cons r0
  obtain ⟨v2, vs2, d2, ds2, p2, q2, rfl, rfl, rfl, h2, r2⟩ := trodAll_cons r1
  obtain ⟨rfl, rfl, rfl⟩ := trodAll_nil r2
  obtain rfl : args = #[v0, v1, v2] := by cases args; simp_all
  obtain ⟨rfl, rfl⟩ := trodVars_none hV
  obtain ⟨a0, rfl, rfl, rfl, w0⟩ := open_int Try.underlying2 (hval 0 2 v0 rfl rfl) h0
  obtain ⟨a1, rfl, rfl, rfl, w1⟩ := open_int Try.underlying2 (hval 1 2 v1 rfl rfl) h1
  obtain ⟨a2, len2, cap2, rfl⟩ := okWide_slice Try.underlying62 (hval 2 62 v2 rfl rfl)
  have k2 := h2
  have lt2 : ∀ x ∈ p2, x.block < W.heap.size := by obtain ⟨m, hm⟩ := k2; exact DataW.trod_lt m _ _ _ hm
  obtain ⟨es, w2⟩ : ∃ es, IsRow [.int .i64, .int .i64] W a2 len2 cap2 es := by
    obtain ⟨fuel, hf⟩ := h2
    rcases open_flats Try.underlying62 flat_send (by kernel_rfl) hf with hcs | ⟨x, l, c, es, hcs, _, hl, hm, hz, hok, hcell⟩
    · simp [Value.cells] at hcs
      obtain ⟨rfl, rfl, rfl⟩ := hcs
      exact ⟨[], .inl ⟨rfl, rfl, rfl, rfl⟩⟩
    · simp [Value.cells] at hcs
      obtain ⟨rfl, rfl, rfl⟩ := hcs
      exact ⟨es, .inr ⟨_, rfl, hl, hm, hz, hok, hcell⟩⟩
  clear hA0 hval0
  refine (walk a0 a1 a2 len2 cap2 es W w2).mono fun e W' ⟨he, bel⟩ => ?_
  subst he
  exact ⟨_, rfl, _, _, _, [], _, [], hW', trodAll_mk1 (shut_bool Try.underlying4 _), (trodAll_cons_mk (shut_int Try.underlying2 w0) (trodAll_cons_mk (shut_int Try.underlying2 w1) (trodAll_cons_mk (Below.trod laidOut (by kernel_rfl) (of_decide_eq_true (by kernel_rfl)) k2 bel lt2) trodAll_mk0))), rfl, bel.frame _, fun h => by cases h⟩

theorem over : Rows.clockBoundRow.holds Try.pinned (OpenSpec.ofChange Rows.clockBoundSpec) :=
  OpenClaim.holds_of_wide 6 Try.f6 rfl rfl rfl rfl rfl rfl rfl ⟨rfl, rfl, rfl, rfl, rfl⟩ rfl rfl rfl rfl rfl (by kernel_rfl) Try.func6 (by kernel_rfl)
    (of_decide_eq_true (by kernel_rfl)) (by unfold Func.isWrapper; first | (rw [if_pos (by decide +kernel)]; kernel_rfl) | (rw [if_neg (by decide +kernel)]; exact ⟨rfl, rfl⟩))
    (fun os started H enc _ => lifted os started H enc)

/-- The statement. -/
theorem proved : Rows.ClockBoundSaid := over
#print axioms proved
end Go.Proofs.Ytlipmhhndhhgdaa.clockBound
