/- rat, without its panics: Make, Greatest of two, Add. vclock: what a queue is in the abstract heap. rat: a sum of two fractions of words. vclock: New, Add. vclock: Put. vclock: Len, Take. vclock: Take of an empty queue. known, of the layers 11, 14, 16: true. What 'simp' is told of the types that lines and ports use. fifo: what a line is in the abstract heap; within, none, at, New, First, Take. fifo: All: the packets of a line, put together. fifo: All, what goes over it, Bytes. fifo: Bytes. fifo: what All tells, put together again. fifo: lay, Put. fifo: New, First, Take. -/
import Derived.Test.YtlipmhhndhhgdaaJPortFirstSaid3

set_option linter.unusedSimpArgs false
set_option linter.unusedVariables false
namespace Go.Ab
open Go.Proofs

theorem make1_call {p q : Nat} {n d : Int} {σ : St} (hp : p < σ.next) (hq : q < σ.next) (gp : σ.get p = some (.cells [.int .i64 d] false)) (gq : σ.get q = some (.cells [.int .i64 n] false)) (h1 : 0 ≤ n) (h2 : n ≤ 9223372036854775807) (h3 : 0 < d) (h4 : d ≤ 9223372036854775807) :
    callX Try.prog 90 [.pointer (some ⟨p, 0, none⟩), .pointer (some ⟨q, 0, none⟩)] σ (Ans σ (.agg ⟨[.int .i64 (n / (Int.gcd n d : Int)), .int .i64 (d / (Int.gcd n d : Int))]⟩)) := by
  have o1 : okI n = true := by simp [okI]; omega
  have o2 : okI d = true := by simp [okI]; omega
  have n1 : (n.natAbs : Int) = n := by omega
  have n2 : (d.natAbs : Int) = d := by omega
  have e1 : (d != 0) = true := by simp; omega
  have e2 : ¬ n < 0 := by omega
  have e3 : ¬ d < 0 := by omega
  refine Ans.of (enter (p := q8) Try.func90 rfl stat90 ?_)
  simp only [go_sem, Nat.reducePow, Nat.reduceDiv, Nat.reduceMod, Nat.reduceAdd, Nat.reduceSub, Nat.reduceMul, Nat.reduceLeDiff, Nat.reduceLT, Nat.reduceEqDiff, reduceCtorEq, reduceIte, reduceDIte, if_pos rfl, Int.reduceLT, Int.reduceLE, Int.reduceEq, Int.reduceNeg, Int.reduceAdd, Int.reduceSub, Int.reduceMul, Int.reduceToNat, opLen, callW, q8, p8, p7, p6, p5, p4, p3, p2, p1, Try.f90, gp, gq, hp, hq, o1, o2, n1, n2, e1, e2, e3, Try.underlying2, info2, Try.t2, Try.underlying4, info4, Try.t4, Try.underlying24, info24, Try.t24, Try.underlying28, info28, Try.t28, Try.underlying115, info115, Try.t115, body78, body91, body92]
  refine .of (made_call n d false _ h1 h2 h3 h4) ?_
  simp only [go_sem, Nat.reducePow, Nat.reduceDiv, Nat.reduceMod, Nat.reduceAdd, Nat.reduceSub, Nat.reduceMul, Nat.reduceLeDiff, Nat.reduceLT, Nat.reduceEqDiff, reduceCtorEq, reduceIte, reduceDIte, if_pos rfl, Int.reduceLT, Int.reduceLE, Int.reduceEq, Int.reduceNeg, Int.reduceAdd, Int.reduceSub, Int.reduceMul, Int.reduceToNat, opLen, hp, hq, Try.underlying2, info2, Try.t2, Try.underlying4, info4, Try.t4, Try.underlying24, info24, Try.t24, Try.underlying28, info28, Try.t28, Try.underlying115, info115, Try.t115]

theorem make_call (n d : Int) (σ : St) (h1 : 0 ≤ n) (h2 : n ≤ 9223372036854775807) (h3 : 0 < d) (h4 : d ≤ 9223372036854775807) :
    DCall Try.prog 63 [.int .i64 n, .int .i64 d] σ (.ret (.tuple ⟨[.agg ⟨[.int .i64 (n / (Int.gcd n d : Int)), .int .i64 (d / (Int.gcd n d : Int))]⟩, .int .i64 0]⟩)) σ [] := by
  refine pure_call (enter (p := q8) Try.func63 rfl stat63 ?_) rfl
  simp only [go_sem, Nat.reducePow, Nat.reduceDiv, Nat.reduceMod, Nat.reduceAdd, Nat.reduceSub, Nat.reduceMul, Nat.reduceLeDiff, Nat.reduceLT, Nat.reduceEqDiff, reduceCtorEq, reduceIte, reduceDIte, if_pos rfl, Int.reduceLT, Int.reduceLE, Int.reduceEq, Int.reduceNeg, Int.reduceAdd, Int.reduceSub, Int.reduceMul, Int.reduceToNat, opLen, callW, q8, p8, p7, p6, p5, p4, p3, p2, p1, Try.f63, Try.underlying2, info2, Try.t2, Try.underlying4, info4, Try.t4, Try.underlying24, info24, Try.t24, Try.underlying28, info28, Try.t28, Try.underlying57, info57, Try.t57, Try.underlying115, info115, Try.t115, Try.underlying161, info161, Try.t161, body89, body90]
  refine .of (try_rat body90 (make1_call (n := n) (d := d) ?_ ?_ ?_ ?_ h1 h2 h3 h4)) ?_
  · simp only [go_sem, Nat.reducePow, Nat.reduceDiv, Nat.reduceMod, Nat.reduceAdd, Nat.reduceSub, Nat.reduceMul, Nat.reduceLeDiff, Nat.reduceLT, Nat.reduceEqDiff, reduceCtorEq, reduceIte, reduceDIte, if_pos rfl, Int.reduceLT, Int.reduceLE, Int.reduceEq, Int.reduceNeg, Int.reduceAdd, Int.reduceSub, Int.reduceMul, Int.reduceToNat, opLen]
  · simp only [go_sem, Nat.reducePow, Nat.reduceDiv, Nat.reduceMod, Nat.reduceAdd, Nat.reduceSub, Nat.reduceMul, Nat.reduceLeDiff, Nat.reduceLT, Nat.reduceEqDiff, reduceCtorEq, reduceIte, reduceDIte, if_pos rfl, Int.reduceLT, Int.reduceLE, Int.reduceEq, Int.reduceNeg, Int.reduceAdd, Int.reduceSub, Int.reduceMul, Int.reduceToNat, opLen]
  · simp only [go_sem, Nat.reducePow, Nat.reduceDiv, Nat.reduceMod, Nat.reduceAdd, Nat.reduceSub, Nat.reduceMul, Nat.reduceLeDiff, Nat.reduceLT, Nat.reduceEqDiff, reduceCtorEq, reduceIte, reduceDIte, if_pos rfl, Int.reduceLT, Int.reduceLE, Int.reduceEq, Int.reduceNeg, Int.reduceAdd, Int.reduceSub, Int.reduceMul, Int.reduceToNat, opLen]
  · simp only [go_sem, Nat.reducePow, Nat.reduceDiv, Nat.reduceMod, Nat.reduceAdd, Nat.reduceSub, Nat.reduceMul, Nat.reduceLeDiff, Nat.reduceLT, Nat.reduceEqDiff, reduceCtorEq, reduceIte, reduceDIte, if_pos rfl, Int.reduceLT, Int.reduceLE, Int.reduceEq, Int.reduceNeg, Int.reduceAdd, Int.reduceSub, Int.reduceMul, Int.reduceToNat, opLen]
  · simp only [go_sem, Nat.reducePow, Nat.reduceDiv, Nat.reduceMod, Nat.reduceAdd, Nat.reduceSub, Nat.reduceMul, Nat.reduceLeDiff, Nat.reduceLT, Nat.reduceEqDiff, reduceCtorEq, reduceIte, reduceDIte, if_pos rfl, Int.reduceLT, Int.reduceLE, Int.reduceEq, Int.reduceNeg, Int.reduceAdd, Int.reduceSub, Int.reduceMul, Int.reduceToNat, opLen, Try.underlying2, info2, Try.t2, Try.underlying4, info4, Try.t4, Try.underlying24, info24, Try.t24, Try.underlying28, info28, Try.t28, Try.underlying57, info57, Try.t57, Try.underlying115, info115, Try.t115, Try.underlying161, info161, Try.t161]

set_option maxRecDepth 20000 in
theorem first1_call {p q b : Nat} {n₁ d₁ n₂ d₂ : Int} {σ : St} (hp : p < σ.next) (hq : q < σ.next) (hb : b < σ.next) (gp : σ.get p = some (.cells [.slice (some ⟨b, 0, some 0⟩) 2 2] false)) (gq : σ.get q = some (.cells [.func (.func 87) ⟨[]⟩ ⟨[]⟩] false))
    (gb : σ.get b = some (.cells [.int .i64 n₁, .int .i64 d₁, .int .i64 n₂, .int .i64 d₂] false)) (h1 : okR n₁ d₁ = true) (h2 : okR n₂ d₂ = true) :
    callX Try.prog 117 [.pointer (some ⟨p, 0, none⟩), .pointer (some ⟨q, 0, none⟩)] σ (Ans σ (.agg ⟨if 0 < cmpR n₂ d₂ n₁ d₁ then [.int .i64 n₂, .int .i64 d₂] else [.int .i64 n₁, .int .i64 d₁]⟩)) := by
  have k1 := h1
  have k2 := h2
  simp only [okR, Bool.and_eq_true, decide_eq_true_eq] at k1 k2
  refine Ans.of (enter (p := q8) Try.func117 rfl stat117 ?_)
  simp only [go_sem, Nat.reducePow, Nat.reduceDiv, Nat.reduceMod, Nat.reduceAdd, Nat.reduceSub, Nat.reduceMul, Nat.reduceLeDiff, Nat.reduceLT, Nat.reduceEqDiff, reduceCtorEq, reduceIte, reduceDIte, if_pos rfl, Int.reduceLT, Int.reduceLE, Int.reduceEq, Int.reduceNeg, Int.reduceAdd, Int.reduceSub, Int.reduceMul, Int.reduceToNat, opLen, callW, q8, p8, p7, p6, p5, p4, p3, p2, p1, opLen, Try.f117, gp, gq, gb, hp, hq, hb, h1, h2, Try.underlying2, info2, Try.t2, Try.underlying3, info3, Try.t3, Try.underlying4, info4, Try.t4, Try.underlying22, info22, Try.t22, Try.underlying24, info24, Try.t24, Try.underlying28, info28, Try.t28, Try.underlying157, info157, Try.t157, body78, body91, body92, body118]
  refine .of (both_call b n₁ d₁ n₂ d₂ _ ?_ ?_ k1.1.1 k1.1.2 k2.1.1 k2.1.2 k1.2 k2.2) ?_
  · simp only [go_sem, Nat.reducePow, Nat.reduceDiv, Nat.reduceMod, Nat.reduceAdd, Nat.reduceSub, Nat.reduceMul, Nat.reduceLeDiff, Nat.reduceLT, Nat.reduceEqDiff, reduceCtorEq, reduceIte, reduceDIte, if_pos rfl, Int.reduceLT, Int.reduceLE, Int.reduceEq, Int.reduceNeg, Int.reduceAdd, Int.reduceSub, Int.reduceMul, Int.reduceToNat, opLen, hb]
  · simp only [go_sem, Nat.reducePow, Nat.reduceDiv, Nat.reduceMod, Nat.reduceAdd, Nat.reduceSub, Nat.reduceMul, Nat.reduceLeDiff, Nat.reduceLT, Nat.reduceEqDiff, reduceCtorEq, reduceIte, reduceDIte, if_pos rfl, Int.reduceLT, Int.reduceLE, Int.reduceEq, Int.reduceNeg, Int.reduceAdd, Int.reduceSub, Int.reduceMul, Int.reduceToNat, opLen, gb, hb]
  simp only [go_sem, Nat.reducePow, Nat.reduceDiv, Nat.reduceMod, Nat.reduceAdd, Nat.reduceSub, Nat.reduceMul, Nat.reduceLeDiff, Nat.reduceLT, Nat.reduceEqDiff, reduceCtorEq, reduceIte, reduceDIte, if_pos rfl, Int.reduceLT, Int.reduceLE, Int.reduceEq, Int.reduceNeg, Int.reduceAdd, Int.reduceSub, Int.reduceMul, Int.reduceToNat, opLen, callW, q8, p8, p7, p6, p5, p4, p3, p2, p1, gp, gq, gb, hp, hq, hb, h1, h2, Try.underlying2, info2, Try.t2, Try.underlying3, info3, Try.t3, Try.underlying4, info4, Try.t4, Try.underlying22, info22, Try.t22, Try.underlying24, info24, Try.t24, Try.underlying28, info28, Try.t28, Try.underlying157, info157, Try.t157, body78, body91, body92, body118]
  refine turn q8 117 (by kernel_rfl) ?_
  have n1 : Int.toNat 1 = 1 := rfl
  have n2 : Int.toNat 0 = 0 := rfl
  simp only [go_sem, Nat.reducePow, Nat.reduceDiv, Nat.reduceMod, Nat.reduceAdd, Nat.reduceSub, Nat.reduceMul, Nat.reduceLeDiff, Nat.reduceLT, Nat.reduceEqDiff, reduceCtorEq, reduceIte, reduceDIte, if_pos rfl, Int.reduceLT, Int.reduceLE, Int.reduceEq, Int.reduceNeg, Int.reduceAdd, Int.reduceSub, Int.reduceMul, Int.reduceToNat, opLen, callW, q8, p8, p7, p6, p5, p4, p3, p2, p1, n1, n2, gp, gq, gb, hp, hq, hb, h1, h2, Try.underlying2, info2, Try.t2, Try.underlying3, info3, Try.t3, Try.underlying4, info4, Try.t4, Try.underlying22, info22, Try.t22, Try.underlying24, info24, Try.t24, Try.underlying28, info28, Try.t28, Try.underlying157, info157, Try.t157, body87, body91, body92, body118]
  refine enter (p := q8) Try.func87 rfl stat87 ?_
  simp only [go_sem, Nat.reducePow, Nat.reduceDiv, Nat.reduceMod, Nat.reduceAdd, Nat.reduceSub, Nat.reduceMul, Nat.reduceLeDiff, Nat.reduceLT, Nat.reduceEqDiff, reduceCtorEq, reduceIte, reduceDIte, if_pos rfl, Int.reduceLT, Int.reduceLE, Int.reduceEq, Int.reduceNeg, Int.reduceAdd, Int.reduceSub, Int.reduceMul, Int.reduceToNat, opLen, callW, q8, p8, p7, p6, p5, p4, p3, p2, p1, Try.f87, gp, gq, gb, hp, hq, hb, h1, h2, Try.underlying2, info2, Try.t2, Try.underlying3, info3, Try.t3, Try.underlying4, info4, Try.t4, Try.underlying22, info22, Try.t22, Try.underlying24, info24, Try.t24, Try.underlying28, info28, Try.t28, Try.underlying157, info157, Try.t157, body87, body88, body91, body92, body118]
  split <;> rename_i hc
  · refine turn q8 117 (by kernel_rfl) ?_
    simp only [go_sem, Nat.reducePow, Nat.reduceDiv, Nat.reduceMod, Nat.reduceAdd, Nat.reduceSub, Nat.reduceMul, Nat.reduceLeDiff, Nat.reduceLT, Nat.reduceEqDiff, reduceCtorEq, reduceIte, reduceDIte, if_pos rfl, Int.reduceLT, Int.reduceLE, Int.reduceEq, Int.reduceNeg, Int.reduceAdd, Int.reduceSub, Int.reduceMul, Int.reduceToNat, opLen, callW, q8, p8, p7, p6, p5, p4, p3, p2, p1, gp, gq, gb, hp, hq, hb, h1, h2, hc, Try.underlying2, info2, Try.t2, Try.underlying3, info3, Try.t3, Try.underlying4, info4, Try.t4, Try.underlying22, info22, Try.t22, Try.underlying24, info24, Try.t24, Try.underlying28, info28, Try.t28, Try.underlying157, info157, Try.t157, body87, body91, body92, body118]
  · refine turn q8 117 (by kernel_rfl) ?_
    simp only [go_sem, Nat.reducePow, Nat.reduceDiv, Nat.reduceMod, Nat.reduceAdd, Nat.reduceSub, Nat.reduceMul, Nat.reduceLeDiff, Nat.reduceLT, Nat.reduceEqDiff, reduceCtorEq, reduceIte, reduceDIte, if_pos rfl, Int.reduceLT, Int.reduceLE, Int.reduceEq, Int.reduceNeg, Int.reduceAdd, Int.reduceSub, Int.reduceMul, Int.reduceToNat, opLen, callW, q8, p8, p7, p6, p5, p4, p3, p2, p1, gp, gq, gb, hp, hq, hb, h1, h2, hc, Try.underlying2, info2, Try.t2, Try.underlying3, info3, Try.t3, Try.underlying4, info4, Try.t4, Try.underlying22, info22, Try.t22, Try.underlying24, info24, Try.t24, Try.underlying28, info28, Try.t28, Try.underlying157, info157, Try.t157, body87, body91, body92, body118]

theorem greatest_call {b : Nat} {n₁ d₁ n₂ d₂ : Int} {σ : St} (hb : b < σ.next) (gb : σ.get b = some (.cells [.int .i64 n₁, .int .i64 d₁, .int .i64 n₂, .int .i64 d₂] false)) (h1 : okR n₁ d₁ = true) (h2 : okR n₂ d₂ = true) :
    DCall Try.prog 62 [.slice (some ⟨b, 0, some 0⟩) 2 2] σ (.ret (.tuple ⟨[if 0 < cmpR n₂ d₂ n₁ d₁ then .agg ⟨[.int .i64 n₂, .int .i64 d₂]⟩ else .agg ⟨[.int .i64 n₁, .int .i64 d₁]⟩, .int .i64 0]⟩)) σ [] := by
  refine pure_call (enter (p := q8) Try.func62 rfl stat62 ?_) (by split <;> rfl)
  simp only [go_sem, Nat.reducePow, Nat.reduceDiv, Nat.reduceMod, Nat.reduceAdd, Nat.reduceSub, Nat.reduceMul, Nat.reduceLeDiff, Nat.reduceLT, Nat.reduceEqDiff, reduceCtorEq, reduceIte, reduceDIte, if_pos rfl, Int.reduceLT, Int.reduceLE, Int.reduceEq, Int.reduceNeg, Int.reduceAdd, Int.reduceSub, Int.reduceMul, Int.reduceToNat, opLen, callW, q8, p8, p7, p6, p5, p4, p3, p2, p1, Try.f62, gb, hb, Try.underlying2, info2, Try.t2, Try.underlying4, info4, Try.t4, Try.underlying22, info22, Try.t22, Try.underlying24, info24, Try.t24, Try.underlying28, info28, Try.t28, Try.underlying57, info57, Try.t57, Try.underlying115, info115, Try.t115, Try.underlying157, info157, Try.t157, body86, body87]
  refine enter (p := q8) Try.func86 rfl stat86 ?_
  simp only [go_sem, Nat.reducePow, Nat.reduceDiv, Nat.reduceMod, Nat.reduceAdd, Nat.reduceSub, Nat.reduceMul, Nat.reduceLeDiff, Nat.reduceLT, Nat.reduceEqDiff, reduceCtorEq, reduceIte, reduceDIte, if_pos rfl, Int.reduceLT, Int.reduceLE, Int.reduceEq, Int.reduceNeg, Int.reduceAdd, Int.reduceSub, Int.reduceMul, Int.reduceToNat, opLen, callW, q8, p8, p7, p6, p5, p4, p3, p2, p1, Try.f86, gb, hb, Try.underlying2, info2, Try.t2, Try.underlying4, info4, Try.t4, Try.underlying22, info22, Try.t22, Try.underlying24, info24, Try.t24, Try.underlying28, info28, Try.t28, Try.underlying57, info57, Try.t57, Try.underlying115, info115, Try.t115, Try.underlying157, info157, Try.t157, Try.underlying161, info161, Try.t161, body89, body117]
  by_cases hc : 0 < cmpR n₂ d₂ n₁ d₁
  · refine .of (try_rat (n := n₂) (d := d₂) body117 ?_) ?_
    · have key := first1_call (σ := ((((((σ.new (.cells [.int .i64 0, .int .i64 0] false)).new (.cells [.slice (some ⟨b, 0, some 0⟩) 2 2] false)).new (.cells [.func (.func 87) ⟨[]⟩ ⟨[]⟩] false)).new (.cells [.int .i64 0, .int .i64 0] false)).new (.cells [.int .i64 0, .int .i64 0] false)).new (.cells [.int .i64 0] false))) (p := σ.next + 1) (q := σ.next + 2) (b := b)
        (by simp only [go_sem, Nat.reducePow, Nat.reduceDiv, Nat.reduceMod, Nat.reduceAdd, Nat.reduceSub, Nat.reduceMul, Nat.reduceLeDiff, Nat.reduceLT, Nat.reduceEqDiff, reduceCtorEq, reduceIte, reduceDIte, if_pos rfl, Int.reduceLT, Int.reduceLE, Int.reduceEq, Int.reduceNeg, Int.reduceAdd, Int.reduceSub, Int.reduceMul, Int.reduceToNat, opLen]) (by simp only [go_sem, Nat.reducePow, Nat.reduceDiv, Nat.reduceMod, Nat.reduceAdd, Nat.reduceSub, Nat.reduceMul, Nat.reduceLeDiff, Nat.reduceLT, Nat.reduceEqDiff, reduceCtorEq, reduceIte, reduceDIte, if_pos rfl, Int.reduceLT, Int.reduceLE, Int.reduceEq, Int.reduceNeg, Int.reduceAdd, Int.reduceSub, Int.reduceMul, Int.reduceToNat, opLen]) (by simp only [go_sem, Nat.reducePow, Nat.reduceDiv, Nat.reduceMod, Nat.reduceAdd, Nat.reduceSub, Nat.reduceMul, Nat.reduceLeDiff, Nat.reduceLT, Nat.reduceEqDiff, reduceCtorEq, reduceIte, reduceDIte, if_pos rfl, Int.reduceLT, Int.reduceLE, Int.reduceEq, Int.reduceNeg, Int.reduceAdd, Int.reduceSub, Int.reduceMul, Int.reduceToNat, opLen, hb]) (by simp only [go_sem, Nat.reducePow, Nat.reduceDiv, Nat.reduceMod, Nat.reduceAdd, Nat.reduceSub, Nat.reduceMul, Nat.reduceLeDiff, Nat.reduceLT, Nat.reduceEqDiff, reduceCtorEq, reduceIte, reduceDIte, if_pos rfl, Int.reduceLT, Int.reduceLE, Int.reduceEq, Int.reduceNeg, Int.reduceAdd, Int.reduceSub, Int.reduceMul, Int.reduceToNat, opLen]) (by simp only [go_sem, Nat.reducePow, Nat.reduceDiv, Nat.reduceMod, Nat.reduceAdd, Nat.reduceSub, Nat.reduceMul, Nat.reduceLeDiff, Nat.reduceLT, Nat.reduceEqDiff, reduceCtorEq, reduceIte, reduceDIte, if_pos rfl, Int.reduceLT, Int.reduceLE, Int.reduceEq, Int.reduceNeg, Int.reduceAdd, Int.reduceSub, Int.reduceMul, Int.reduceToNat, opLen]) (by simp only [go_sem, Nat.reducePow, Nat.reduceDiv, Nat.reduceMod, Nat.reduceAdd, Nat.reduceSub, Nat.reduceMul, Nat.reduceLeDiff, Nat.reduceLT, Nat.reduceEqDiff, reduceCtorEq, reduceIte, reduceDIte, if_pos rfl, Int.reduceLT, Int.reduceLE, Int.reduceEq, Int.reduceNeg, Int.reduceAdd, Int.reduceSub, Int.reduceMul, Int.reduceToNat, opLen, hb, gb]) h1 h2
      rw [if_pos hc] at key
      exact key
    · simp only [go_sem, Nat.reducePow, Nat.reduceDiv, Nat.reduceMod, Nat.reduceAdd, Nat.reduceSub, Nat.reduceMul, Nat.reduceLeDiff, Nat.reduceLT, Nat.reduceEqDiff, reduceCtorEq, reduceIte, reduceDIte, if_pos rfl, Int.reduceLT, Int.reduceLE, Int.reduceEq, Int.reduceNeg, Int.reduceAdd, Int.reduceSub, Int.reduceMul, Int.reduceToNat, opLen, hc, Try.underlying2, info2, Try.t2, Try.underlying4, info4, Try.t4, Try.underlying22, info22, Try.t22, Try.underlying24, info24, Try.t24, Try.underlying28, info28, Try.t28, Try.underlying57, info57, Try.t57, Try.underlying115, info115, Try.t115, Try.underlying157, info157, Try.t157, Try.underlying161, info161, Try.t161]
  · refine .of (try_rat (n := n₁) (d := d₁) body117 ?_) ?_
    · have key := first1_call (σ := ((((((σ.new (.cells [.int .i64 0, .int .i64 0] false)).new (.cells [.slice (some ⟨b, 0, some 0⟩) 2 2] false)).new (.cells [.func (.func 87) ⟨[]⟩ ⟨[]⟩] false)).new (.cells [.int .i64 0, .int .i64 0] false)).new (.cells [.int .i64 0, .int .i64 0] false)).new (.cells [.int .i64 0] false))) (p := σ.next + 1) (q := σ.next + 2) (b := b)
        (by simp only [go_sem, Nat.reducePow, Nat.reduceDiv, Nat.reduceMod, Nat.reduceAdd, Nat.reduceSub, Nat.reduceMul, Nat.reduceLeDiff, Nat.reduceLT, Nat.reduceEqDiff, reduceCtorEq, reduceIte, reduceDIte, if_pos rfl, Int.reduceLT, Int.reduceLE, Int.reduceEq, Int.reduceNeg, Int.reduceAdd, Int.reduceSub, Int.reduceMul, Int.reduceToNat, opLen]) (by simp only [go_sem, Nat.reducePow, Nat.reduceDiv, Nat.reduceMod, Nat.reduceAdd, Nat.reduceSub, Nat.reduceMul, Nat.reduceLeDiff, Nat.reduceLT, Nat.reduceEqDiff, reduceCtorEq, reduceIte, reduceDIte, if_pos rfl, Int.reduceLT, Int.reduceLE, Int.reduceEq, Int.reduceNeg, Int.reduceAdd, Int.reduceSub, Int.reduceMul, Int.reduceToNat, opLen]) (by simp only [go_sem, Nat.reducePow, Nat.reduceDiv, Nat.reduceMod, Nat.reduceAdd, Nat.reduceSub, Nat.reduceMul, Nat.reduceLeDiff, Nat.reduceLT, Nat.reduceEqDiff, reduceCtorEq, reduceIte, reduceDIte, if_pos rfl, Int.reduceLT, Int.reduceLE, Int.reduceEq, Int.reduceNeg, Int.reduceAdd, Int.reduceSub, Int.reduceMul, Int.reduceToNat, opLen, hb]) (by simp only [go_sem, Nat.reducePow, Nat.reduceDiv, Nat.reduceMod, Nat.reduceAdd, Nat.reduceSub, Nat.reduceMul, Nat.reduceLeDiff, Nat.reduceLT, Nat.reduceEqDiff, reduceCtorEq, reduceIte, reduceDIte, if_pos rfl, Int.reduceLT, Int.reduceLE, Int.reduceEq, Int.reduceNeg, Int.reduceAdd, Int.reduceSub, Int.reduceMul, Int.reduceToNat, opLen]) (by simp only [go_sem, Nat.reducePow, Nat.reduceDiv, Nat.reduceMod, Nat.reduceAdd, Nat.reduceSub, Nat.reduceMul, Nat.reduceLeDiff, Nat.reduceLT, Nat.reduceEqDiff, reduceCtorEq, reduceIte, reduceDIte, if_pos rfl, Int.reduceLT, Int.reduceLE, Int.reduceEq, Int.reduceNeg, Int.reduceAdd, Int.reduceSub, Int.reduceMul, Int.reduceToNat, opLen]) (by simp only [go_sem, Nat.reducePow, Nat.reduceDiv, Nat.reduceMod, Nat.reduceAdd, Nat.reduceSub, Nat.reduceMul, Nat.reduceLeDiff, Nat.reduceLT, Nat.reduceEqDiff, reduceCtorEq, reduceIte, reduceDIte, if_pos rfl, Int.reduceLT, Int.reduceLE, Int.reduceEq, Int.reduceNeg, Int.reduceAdd, Int.reduceSub, Int.reduceMul, Int.reduceToNat, opLen, hb, gb]) h1 h2
      rw [if_neg hc] at key
      exact key
    · simp only [go_sem, Nat.reducePow, Nat.reduceDiv, Nat.reduceMod, Nat.reduceAdd, Nat.reduceSub, Nat.reduceMul, Nat.reduceLeDiff, Nat.reduceLT, Nat.reduceEqDiff, reduceCtorEq, reduceIte, reduceDIte, if_pos rfl, Int.reduceLT, Int.reduceLE, Int.reduceEq, Int.reduceNeg, Int.reduceAdd, Int.reduceSub, Int.reduceMul, Int.reduceToNat, opLen, hc, Try.underlying2, info2, Try.t2, Try.underlying4, info4, Try.t4, Try.underlying22, info22, Try.t22, Try.underlying24, info24, Try.t24, Try.underlying28, info28, Try.t28, Try.underlying57, info57, Try.t57, Try.underlying115, info115, Try.t115, Try.underlying157, info157, Try.t157, Try.underlying161, info161, Try.t161]
end Go.Ab

set_option linter.unusedSimpArgs false
set_option linter.unusedVariables false
namespace Go.Ab
open Go.Proofs

/-- A heap and the blocks that it stands in: A: none or one, of the list. -/
def HX (σ : St) (h m : Nat) (A : List Nat) (L : List Item) (t : Int) : Prop :=
  (L = [] ∧ A = [] ∧ HE σ h m t) ∨ ∃ a cap, A = [a] ∧ HI σ h a m L cap t

theorem HX.keep {σ σ' : St} {h m : Nat} {A : List Nat} {L : List Item} {t : Int} (H : HX σ h m A L t) (hn : σ.next ≤ σ'.next) (hg : ∀ c ∈ h :: m :: A, σ'.get c = σ.get c) : HX σ' h m A L t := by
  rcases H with ⟨rfl, rfl, H⟩ | ⟨a, cap, rfl, H⟩
  · obtain ⟨ck, gm⟩ := H.gm
    exact .inl ⟨rfl, rfl, ⟨(hg _ (by simp)).trans H.gh, ⟨ck, (hg _ (by simp)).trans gm⟩, H.ne, by have := H.lt; omega⟩⟩
  · obtain ⟨f, H1, hi⟩ := H.hs
    obtain ⟨G, ga, hG⟩ := H1.ga
    obtain ⟨es, ck, gm, hkv⟩ := H1.gm
    exact .inr ⟨a, cap, rfl, ⟨⟨f, ⟨(hg _ (by simp)).trans H1.gh, ⟨G, (hg _ (by simp)).trans ga, hG⟩, ⟨es, ck, (hg _ (by simp)).trans gm, hkv⟩, H1.ne, by have := H1.lt; omega⟩, hi⟩, H.ok, H.small⟩⟩

theorem HX.toV {σ : St} {h m : Nat} {A : List Nat} {L : List Item} {t : Int} (H : HX σ h m A L t) : HV σ 0 h m L t := by
  refine ⟨Nat.zero_le _, Nat.zero_le _, Nat.zero_le _, ?_⟩
  rcases H with ⟨rfl, rfl, H⟩ | ⟨a, cap, rfl, H⟩
  · exact .inl ⟨rfl, H⟩
  · exact .inr ⟨a, cap, Nat.zero_le _, H⟩

theorem HX.lt {σ : St} {h m : Nat} {A : List Nat} {L : List Item} {t : Int} (H : HX σ h m A L t) : ∀ c ∈ h :: m :: A, c < σ.next := by
  rcases H with ⟨rfl, rfl, H⟩ | ⟨a, cap, rfl, H⟩
  · have := H.lt
    intro c hc; simp at hc; omega
  · obtain ⟨f, H1, hi⟩ := H.hs
    have := H1.lt
    intro c hc; simp at hc; omega

theorem HX.nodup {σ : St} {h m : Nat} {A : List Nat} {L : List Item} {t : Int} (H : HX σ h m A L t) : A.Nodup := by
  rcases H with ⟨_, rfl, _⟩ | ⟨a, cap, rfl, _⟩ <;> simp

/-- Put of a further item. -/
theorem HX.put {σ : St} {h m : Nat} {A : List Nat} {L : List Item} {t : Int} (H : HX σ h m A L t) (id kn kd : Int) (h0 : 0 ≤ id) (h1 : id ≤ 4611686018427387904) (hk : okR kn kd = true) (ht : 0 ≤ t) (ht1 : t < 1000000) (hnew : ∀ y ∈ L, y.id ≠ id) (hsm : L.length < 1000) :
    callX Try.prog 14 [.pointer (some ⟨h, 0, none⟩), .int .i64 id, .agg ⟨[.int .i64 kn, .int .i64 kd]⟩] σ fun e σ' l => e = .ret (.int .i64 0) ∧ ((∀ c ∈ l, c ∈ h :: m :: A ∨ σ.next ≤ c) ∧
      ∃ A', (∀ c ∈ A', c ∈ A ∨ σ.next ≤ c) ∧ HX σ' h m A' (riseL (L.length + 1) (L ++ [⟨id, kn, kd, t + 1⟩]) L.length) (t + 1)) := by
  rcases H with ⟨rfl, rfl, H⟩ | ⟨a, cap, rfl, H⟩
  · obtain ⟨σ', a, d, H', ha⟩ := put_first H id kn kd h0 h1 hk ht ht1
    exact .of d ⟨rfl, fun c hc => .inl hc, [a], fun c hc => by simp at hc; omega, .inr ⟨a, 1, rfl, by simpa [riseL] using H'⟩⟩
  · have hcap : L.length ≤ cap := by
      obtain ⟨f, H1, _⟩ := H.hs
      obtain ⟨G, _, hG⟩ := H1.ga
      omega
    by_cases hc : L.length + 1 ≤ cap
    · obtain ⟨σ', d, H', nx, _⟩ := put_in H id kn kd h0 h1 hk ht ht1 hnew hsm hc
      exact .of d ⟨rfl, fun c hc => .inl (by simp at hc ⊢; omega), [a], fun c hc => .inl hc, .inr ⟨a, cap, rfl, H'⟩⟩
    · obtain ⟨σ', d, H', nx, _⟩ := put_move H id kn kd h0 h1 hk ht ht1 hnew hsm (by omega)
      exact .of d ⟨rfl, fun c hc => .inl (by simp at hc ⊢; omega), [σ.next + 2], fun c hc => by simp at hc; omega, .inr ⟨_, _, rfl, H'⟩⟩

/-- Take of the least. -/
theorem HX.take {σ : St} {h m : Nat} {A : List Nat} {L : List Item} {t : Int} (H : HX σ h m A L t) {x : Item} (hx : L[0]? = some x) :
    callX Try.prog 16 [.pointer (some ⟨h, 0, none⟩)] σ fun e σ' l => e = .ret (.tuple ⟨[.agg ⟨[.int .i64 x.id, .int .i64 x.n, .int .i64 x.d, .int .i64 x.turn]⟩, .bool true]⟩) ∧ ((∀ c ∈ l, c ∈ h :: m :: A ∨ σ.next ≤ c) ∧ HX σ' h m A (outL L 0) t) := by
  rcases H with ⟨rfl, rfl, H⟩ | ⟨a, cap, rfl, H⟩
  · simp at hx
  · obtain ⟨σ', d, b3, b4, _⟩ := take_call H hx
    exact .of d ⟨rfl, fun c hc => .inl (by simp at hc ⊢; omega), .inr ⟨a, cap, rfl, b3⟩⟩

/-- A flow: the block in which it stands, its numbers. -/
structure FlowV where
  blk : Nat
  rate : Int
  room : Int
  bytes : Int
  n : Int
  d : Int

def FlowV.cells (x : FlowV) (k : Int) : List Value := [.int .i64 k, .int .i64 x.rate, .int .i64 x.room, .int .i64 x.bytes, .int .i64 x.n, .int .i64 x.d]
def ptrOf (x : FlowV) : Value := .pointer (some ⟨x.blk, 0, none⟩)
def packOf (k : Int) (x : Int × Int) : Value := .agg ⟨[.int .i64 k, .int .i64 x.1, .int .i64 x.2]⟩

def updF {α : Type} (F : Int → Option α) (k : Int) (x : Option α) : Int → Option α := fun k' => if k' = k then x else F k'

/-- A queue: its block, its flows' map, its packets' map, its heap's blocks. -/
structure QB where
  q : Nat
  fm : Nat
  pm : Nat
  h : Nat
  m : Nat
  A : List Nat

def QB.core (b : QB) : List Nat := b.q :: b.fm :: b.pm :: b.h :: b.m :: b.A

/-- What a queue holds. -/
structure QV where
  F : Int → Option FlowV
  nf : Nat
  P : Int → Option (Int × Int)
  np : Nat
  L : List Item
  t : Int

structure QAt (σ : St) (b : QB) (Q : QV) : Prop where
  gq : σ.get b.q = some (.cells [.pointer (some ⟨b.h, 0, none⟩), .map (some b.fm), .map (some b.pm)] false)
  hx : HX σ b.h b.m b.A Q.L Q.t
  mf : MapAt σ b.fm (fun k => (Q.F k).map ptrOf) Q.nf
  mp : MapAt σ b.pm (fun k => (Q.P k).map (packOf k)) Q.np
  fl : ∀ k x, Q.F k = some x → σ.get x.blk = some (.cells (x.cells k) false) ∧ x.blk < σ.next ∧ x.blk ∉ b.core
  inj : ∀ k k' x x', Q.F k = some x → Q.F k' = some x' → x.blk = x'.blk → k = k'
  nodup : b.core.Nodup
  lt : ∀ c ∈ b.core, c < σ.next

/-- The blocks of a queue. -/
def Foot (b : QB) (Q : QV) (c : Nat) : Prop := c ∈ b.core ∨ ∃ k x, Q.F k = some x ∧ x.blk = c

theorem QAt.keep {σ σ' : St} {b : QB} {Q : QV} (h : QAt σ b Q) (hn : σ.next ≤ σ'.next) (hg : ∀ c, Foot b Q c → σ'.get c = σ.get c) : QAt σ' b Q := by
  have hc : ∀ c ∈ b.core, σ'.get c = σ.get c := fun c hc => hg c (.inl hc)
  exact { gq := (hc _ (by simp [QB.core])).trans h.gq
          hx := h.hx.keep hn fun c hm => hc c (by simp [QB.core] at hm ⊢; rcases hm with h | h | h <;> simp [h])
          mf := h.mf.keep (hc _ (by simp [QB.core]))
          mp := h.mp.keep (hc _ (by simp [QB.core]))
          fl := fun k x hx => ⟨(hg _ (.inr ⟨k, x, hx, rfl⟩)).trans (h.fl k x hx).1, by have := (h.fl k x hx).2.1; omega, (h.fl k x hx).2.2⟩
          inj := h.inj
          nodup := h.nodup
          lt := fun c hc => by have := h.lt c hc; omega }

structure QNe (b : QB) : Prop where
  q_fm : b.q ≠ b.fm
  q_pm : b.q ≠ b.pm
  q_h : b.q ≠ b.h
  q_m : b.q ≠ b.m
  fm_pm : b.fm ≠ b.pm
  fm_h : b.fm ≠ b.h
  fm_m : b.fm ≠ b.m
  pm_h : b.pm ≠ b.h
  pm_m : b.pm ≠ b.m
  h_m : b.h ≠ b.m
  A : ∀ c ∈ b.A, c ≠ b.q ∧ c ≠ b.fm ∧ c ≠ b.pm ∧ c ≠ b.h ∧ c ≠ b.m

theorem QAt.ne {σ : St} {b : QB} {Q : QV} (H : QAt σ b Q) : QNe b := by
  have n := H.nodup
  simp only [QB.core, List.nodup_cons, List.mem_cons, not_or] at n
  obtain ⟨⟨a1, a2, a3, a4, a5⟩, ⟨b1, b2, b3, b4⟩, ⟨c1, c2, c3⟩, ⟨d1, d2⟩, e1, _⟩ := n
  exact ⟨a1, a2, a3, a4, b1, b2, b3, c1, c2, d1, fun c hc => ⟨fun e => a5 (e ▸ hc), fun e => b4 (e ▸ hc), fun e => c3 (e ▸ hc), fun e => d2 (e ▸ hc), fun e => e1 (e ▸ hc)⟩⟩

theorem QNe.core {b : QB} (h : QNe b) {A : List Nat} {n : Nat} (hA : ∀ c ∈ A, c ∈ b.A ∨ n ≤ c) (hlt : ∀ c ∈ b.core, c < n) (hn : A.Nodup) : ({ b with A := A } : QB).core.Nodup := by
  have l1 := hlt b.q (by simp [QB.core])
  have l2 := hlt b.fm (by simp [QB.core])
  have l3 := hlt b.pm (by simp [QB.core])
  have l4 := hlt b.h (by simp [QB.core])
  have l5 := hlt b.m (by simp [QB.core])
  have nA : ∀ c ∈ A, c ≠ b.q ∧ c ≠ b.fm ∧ c ≠ b.pm ∧ c ≠ b.h ∧ c ≠ b.m := fun c hc => by
    rcases hA c hc with h1 | h1
    · exact h.A c h1
    · omega
  simp only [QB.core, List.nodup_cons, List.mem_cons, not_or]
  exact ⟨⟨h.q_fm, h.q_pm, h.q_h, h.q_m, fun hm => (nA _ hm).1 rfl⟩, ⟨h.fm_pm, h.fm_h, h.fm_m, fun hm => (nA _ hm).2.1 rfl⟩, ⟨h.pm_h, h.pm_m, fun hm => (nA _ hm).2.2.1 rfl⟩, ⟨h.h_m, fun hm => (nA _ hm).2.2.2.1 rfl⟩, fun hm => (nA _ hm).2.2.2.2 rfl, hn⟩

theorem updF_same {α : Type} (F : Int → Option α) (k : Int) (x : Option α) : updF F k x k = x := by simp [updF]
theorem updF_other {α : Type} (F : Int → Option α) {k k' : Int} (x : Option α) (h : k' ≠ k) : updF F k x k' = F k' := by simp [updF, h]

end Go.Ab

set_option linter.unusedSimpArgs false
set_option linter.unusedVariables false
namespace Go.Ab
open Go.Proofs

noncomputable def cE : Cx := withExt (cP Try.prog) extAt
theorem cE_ok : cE.Ok Try.prog := withExt_ok cP_ok extAt_ok
theorem cE_und (t : TypeId) : cE.T.und t = (cP Try.prog).T.und t := withExt_und _ _ t
theorem cE_info (t : TypeId) : cE.T.info t = (cP Try.prog).T.info t := withExt_info _ _ t
theorem cE_flat (t : TypeId) : cE.T.flat t = (cP Try.prog).T.flat t := withExt_flat _ _ t
theorem cE_bodies (g : FuncId) : cE.bodies g = (cP Try.prog).bodies g := withExt_bodies _ _ g
theorem ext142is : extAt 142 = some .add64 := by kernel_rfl
theorem cE_ext142 : cE.T.ext 142 = some .add64 := (withExt_ext _ _ 142).trans ext142is
theorem nobody142 : (cP Try.prog).bodies 142 = false := by kernel_rfl

theorem plus_call (a b : Nat) (σ : St) (h : a + b < 18446744073709551616) : DCall Try.prog 124 [.agg ⟨[.int .u64 0, .int .u64 a]⟩, .agg ⟨[.int .u64 0, .int .u64 b]⟩] σ (.ret (.agg ⟨[.int .u64 0, .int .u64 ((a + b : Nat) : Int)]⟩)) σ [] := by
  have e6 : ((a + b : Nat) : Int) = (a : Int) + b := by omega
  have e7 : ((a : Int) + b) / 18446744073709551616 = 0 := by omega
  have e8 : ((a : Int) + b) % 18446744073709551616 = (a : Int) + b := by omega
  have a0 : (0 : Int) ≤ a := by omega
  have b0 : (0 : Int) ≤ b := by omega
  rw [e6]
  refine pure_call (callX.enter (p := q8) (bt := btAll 124) cE_ok mixed Try.func124 rfl stat124 ?_) rfl
  simp only [go_sem, Nat.reducePow, Nat.reduceDiv, Nat.reduceMod, Nat.reduceAdd, Nat.reduceSub, Nat.reduceMul, Nat.reduceLeDiff, Nat.reduceLT, Nat.reduceEqDiff, reduceCtorEq, reduceIte, reduceDIte, if_pos rfl, Int.reduceLT, Int.reduceLE, Int.reduceEq, Int.reduceNeg, Int.reduceAdd, Int.reduceSub, Int.reduceMul, Int.reduceToNat, opLen, cE_und, cE_info, cE_flat, cE_bodies, cE_ext142, nobody142, extA, a0, b0, e7, e8, Int.add_zero, Int.zero_add, Int.zero_emod, Try.f124, Try.underlying4, info4, Try.t4, Try.underlying115, info115, Try.t115, Try.underlying190, info190, Try.t190, Try.underlying191, info191, Try.t191, Try.underlying198, info198, Try.t198]

theorem div64_call (lo y : Nat) (σ : St) (h1 : lo < 18446744073709551616) (h2 : 0 < y) (h3 : y < 18446744073709551616) : DCall Try.prog 145 [.int .u64 0, .int .u64 lo, .int .u64 y] σ (.ret (.tuple ⟨[.int .u64 ((lo / y : Nat) : Int), .int .u64 ((lo % y : Nat) : Int)]⟩)) σ [] := by
  have e0 : ((y : Int) == 0) = false := by simp; omega
  have e1 : ¬ (y : Int) ≤ 0 := by omega
  have e2 : ¬ (y : Int) = 0 := by omega
  have t1 : (lo : Int).tdiv y = ((lo / y : Nat) : Int) := by rw [Int.tdiv_eq_ediv_of_nonneg (by omega)]; rfl
  have t2 : (lo : Int).tmod y = ((lo % y : Nat) : Int) := by rw [Int.tmod_eq_emod_of_nonneg (by omega)]; rfl
  have l1 : lo / y ≤ lo := Nat.div_le_self _ _
  have w1 : IntKind.u64.wrap ((lo / y : Nat) : Int) = ((lo / y : Nat) : Int) := wrapUN (by omega)
  have w2 : IntKind.u64.wrap ((lo % y : Nat) : Int) = ((lo % y : Nat) : Int) := wrapUN (by have := Nat.mod_le lo y; omega)
  refine pure_call (enter (p := q8) Try.func145 rfl stat145 ?_) rfl
  simp only [go_sem, Nat.reducePow, Nat.reduceDiv, Nat.reduceMod, Nat.reduceAdd, Nat.reduceSub, Nat.reduceMul, Nat.reduceLeDiff, Nat.reduceLT, Nat.reduceEqDiff, reduceCtorEq, reduceIte, reduceDIte, if_pos rfl, Int.reduceLT, Int.reduceLE, Int.reduceEq, Int.reduceNeg, Int.reduceAdd, Int.reduceSub, Int.reduceMul, Int.reduceToNat, opLen, e0, e1, e2, t1, t2, w1, w2, Try.f145, Try.underlying4, info4, Try.t4, Try.underlying115, info115, Try.t115, Try.underlying190, info190, Try.t190, Try.underlying191, info191, Try.t191, Try.underlying198, info198, Try.t198, Try.underlying216, info216, Try.t216, Try.underlying218, info218, Try.t218]

theorem left_call (n y : Nat) (σ : St) (h1 : n < 18446744073709551616) (h2 : 0 < y) (h3 : y < 18446744073709551616) : DCall Try.prog 126 [.agg ⟨[.int .u64 0, .int .u64 n]⟩, .int .u64 y] σ (.ret (.int .u64 ((n % y : Nat) : Int))) σ [] := by
  have e0 : ¬ (y : Int) = 0 := by omega
  have z : Int.tmod 0 (y : Int) = 0 := Int.zero_tmod _
  refine pure_call (enter (p := q8) Try.func126 rfl stat126 ?_) rfl
  simp only [go_sem, Nat.reducePow, Nat.reduceDiv, Nat.reduceMod, Nat.reduceAdd, Nat.reduceSub, Nat.reduceMul, Nat.reduceLeDiff, Nat.reduceLT, Nat.reduceEqDiff, reduceCtorEq, reduceIte, reduceDIte, if_pos rfl, Int.reduceLT, Int.reduceLE, Int.reduceEq, Int.reduceNeg, Int.reduceAdd, Int.reduceSub, Int.reduceMul, Int.reduceToNat, opLen, callW, q8, p8, p7, p6, p5, p4, p3, p2, p1, Try.f126, Try.underlying4, info4, Try.t4, Try.underlying115, info115, Try.t115, Try.underlying190, info190, Try.t190, Try.underlying191, info191, Try.t191, Try.underlying198, info198, Try.t198, body144]
  refine enter (p := q8) Try.func144 rfl stat144 ?_
  simp only [go_sem, Nat.reducePow, Nat.reduceDiv, Nat.reduceMod, Nat.reduceAdd, Nat.reduceSub, Nat.reduceMul, Nat.reduceLeDiff, Nat.reduceLT, Nat.reduceEqDiff, reduceCtorEq, reduceIte, reduceDIte, if_pos rfl, Int.reduceLT, Int.reduceLE, Int.reduceEq, Int.reduceNeg, Int.reduceAdd, Int.reduceSub, Int.reduceMul, Int.reduceToNat, opLen, callW, q8, p8, p7, p6, p5, p4, p3, p2, p1, e0, z, Try.f144, Try.underlying4, info4, Try.t4, Try.underlying115, info115, Try.t115, Try.underlying190, info190, Try.t190, Try.underlying191, info191, Try.t191, Try.underlying198, info198, Try.t198, body145]
  refine .of (div64_call _ _ _ h1 h2 h3) ?_
  simp only [go_sem, Nat.reducePow, Nat.reduceDiv, Nat.reduceMod, Nat.reduceAdd, Nat.reduceSub, Nat.reduceMul, Nat.reduceLeDiff, Nat.reduceLT, Nat.reduceEqDiff, reduceCtorEq, reduceIte, reduceDIte, if_pos rfl, Int.reduceLT, Int.reduceLE, Int.reduceEq, Int.reduceNeg, Int.reduceAdd, Int.reduceSub, Int.reduceMul, Int.reduceToNat, opLen, Try.underlying4, info4, Try.t4, Try.underlying115, info115, Try.t115, Try.underlying190, info190, Try.t190, Try.underlying191, info191, Try.t191, Try.underlying198, info198, Try.t198]

theorem by_call (n y : Nat) (σ : St) (h1 : n < 18446744073709551616) (h2 : 0 < y) (h3 : y < 18446744073709551616) : DCall Try.prog 127 [.agg ⟨[.int .u64 0, .int .u64 n]⟩, .int .u64 y] σ (.ret (.tuple ⟨[.int .u64 ((n / y : Nat) : Int), .int .u64 ((n % y : Nat) : Int)]⟩)) σ [] := by
  have e0 : (0 : Int) < y := by omega
  refine pure_call (enter (p := q8) Try.func127 rfl stat127 ?_) rfl
  simp only [go_sem, Nat.reducePow, Nat.reduceDiv, Nat.reduceMod, Nat.reduceAdd, Nat.reduceSub, Nat.reduceMul, Nat.reduceLeDiff, Nat.reduceLT, Nat.reduceEqDiff, reduceCtorEq, reduceIte, reduceDIte, if_pos rfl, Int.reduceLT, Int.reduceLE, Int.reduceEq, Int.reduceNeg, Int.reduceAdd, Int.reduceSub, Int.reduceMul, Int.reduceToNat, opLen, callW, q8, p8, p7, p6, p5, p4, p3, p2, p1, e0, Try.f127, Try.underlying4, info4, Try.t4, Try.underlying115, info115, Try.t115, Try.underlying190, info190, Try.t190, Try.underlying191, info191, Try.t191, Try.underlying198, info198, Try.t198, body91, body145]
  refine .of (div64_call _ _ _ h1 h2 h3) ?_
  simp only [go_sem, Nat.reducePow, Nat.reduceDiv, Nat.reduceMod, Nat.reduceAdd, Nat.reduceSub, Nat.reduceMul, Nat.reduceLeDiff, Nat.reduceLT, Nat.reduceEqDiff, reduceCtorEq, reduceIte, reduceDIte, if_pos rfl, Int.reduceLT, Int.reduceLE, Int.reduceEq, Int.reduceNeg, Int.reduceAdd, Int.reduceSub, Int.reduceMul, Int.reduceToNat, opLen, Try.underlying4, info4, Try.t4, Try.underlying115, info115, Try.t115, Try.underlying190, info190, Try.t190, Try.underlying191, info191, Try.t191, Try.underlying198, info198, Try.t198]

theorem wide_low {n : Nat} (h : n < 18446744073709551616) : wideV n = .agg ⟨[.int .u64 0, .int .u64 n]⟩ := by
  have e1 : (n : Int) / 18446744073709551616 = 0 := by omega
  have e3 : (n : Int) % 18446744073709551616 = n := by omega
  unfold wideV
  rw [e1, e3]

set_option maxRecDepth 20000 in
/-- What a sum is worked out of, in words. -/
theorem added_walk (an ad bn bd G X Y H T Z : Nat) (σ : St) (hT : (X + Y) / H = T) (hZ : ad / G * (bd / H) = Z) (hG : Nat.gcd ad bd = G) (hX : an * (bd / G) = X) (hY : bn * (ad / G) = Y) (hH : Nat.gcd G (X + Y) = H) (h1 : an < 9223372036854775808) (h2 : 0 < ad) (h3 : ad < 9223372036854775808) (h4 : bn < 9223372036854775808) (h5 : 0 < bd) (h6 : bd < 9223372036854775808)
    (h7 : X + Y < 9223372036854775808) (h8 : Z < 9223372036854775808) (h9 : X + Y = 0 → Z = 1) :
    callX Try.prog 94 [.agg ⟨[.int .i64 an, .int .i64 ad]⟩, .agg ⟨[.int .i64 bn, .int .i64 bd]⟩] σ (Ans σ (.agg ⟨[.int .i64 T, .int .i64 Z]⟩)) := by
  have g0 : 0 < G := hG ▸ Nat.gcd_pos_of_pos_left _ h2
  have g1 : G ≤ ad := hG ▸ Nat.gcd_le_left _ h2
  have g2 : ¬ (G : Int) = 0 := by omega
  have k0 : 0 < H := hH ▸ Nat.gcd_pos_of_pos_left _ g0
  have k1 : H ≤ G := hH ▸ Nat.gcd_le_left _ g0
  have k2 : ¬ (H : Int) = 0 := by omega
  have f1 : ¬ (an : Int) < 0 := by omega
  have f2 : ¬ (bn : Int) < 0 := by omega
  have w1 : an < 18446744073709551616 := by omega
  have w2 : bn < 18446744073709551616 := by omega
  have w3 : ad < 18446744073709551616 := by omega
  have w4 : bd < 18446744073709551616 := by omega
  have d1 : (bd : Int).tdiv G = ((bd / G : Nat) : Int) := by rw [Int.tdiv_eq_ediv_of_nonneg (by omega)]; rfl
  have d2 : (ad : Int).tdiv G = ((ad / G : Nat) : Int) := by rw [Int.tdiv_eq_ediv_of_nonneg (by omega)]; rfl
  have l1 : bd / G ≤ bd := Nat.div_le_self _ _
  have l2 : ad / G ≤ ad := Nat.div_le_self _ _
  have w5 : bd / G < 18446744073709551616 := by omega
  have w6 : ad / G < 18446744073709551616 := by omega
  have oN : ∀ k : Nat, k < 18446744073709551616 → okU (k : Int) = true := fun k hk => by simp [okU]; omega
  have oI : ∀ k : Nat, k < 9223372036854775808 → okI (k : Int) = true := fun k hk => by simp [okI]; omega
  have u1 := oN _ w1
  have u2 := oN _ w2
  have u3 := oN _ w3
  have u4 := oN _ w4
  have u5 := oN _ w5
  have u6 := oN _ w6
  have i1 := oI _ h1
  have i2 := oI _ h4
  have c1 : (Int.gcd (ad : Int) (bd : Int) : Int) = (G : Int) := by rw [Int.gcd_natCast_natCast, hG]
  have n1 : ((an : Int).natAbs : Int) = an := by omega
  have n2 : ((bn : Int).natAbs : Int) = bn := by omega
  have x1 : (an : Int) * ((bd / G : Nat) : Int) = (X : Int) := by rw [← Int.natCast_mul, hX]
  have y1 : (bn : Int) * ((ad / G : Nat) : Int) = (Y : Int) := by rw [← Int.natCast_mul, hY]
  have vx := wide_low (n := X) (by omega)
  have vy := wide_low (n := Y) (by omega)
  refine Ans.of (enter (p := q8) Try.func94 rfl stat94 ?_)
  simp only [go_sem, Nat.reducePow, Nat.reduceDiv, Nat.reduceMod, Nat.reduceAdd, Nat.reduceSub, Nat.reduceMul, Nat.reduceLeDiff, Nat.reduceLT, Nat.reduceEqDiff, reduceCtorEq, reduceIte, reduceDIte, if_pos rfl, Int.reduceLT, Int.reduceLE, Int.reduceEq, Int.reduceNeg, Int.reduceAdd, Int.reduceSub, Int.reduceMul, Int.reduceToNat, opLen, callW, q8, p8, p7, p6, p5, p4, p3, p2, p1, Try.f94, vx, vy, n1, n2, c1, d1, d2, x1, y1, g2, f1, f2, w1, w2, w3, w4, w5, w6, u1, u2, u3, u4, u5, u6, i1, i2, Try.underlying2, info2, Try.t2, Try.underlying4, info4, Try.t4, Try.underlying24, info24, Try.t24, Try.underlying28, info28, Try.t28, Try.underlying115, info115, Try.t115, Try.underlying190, info190, Try.t190, Try.underlying191, info191, Try.t191, Try.underlying198, info198, Try.t198, body77, body78, body91, body119, body120, body122, body124, body125, body126, body127]
  have m1 : (X + Y) % G ≤ X + Y := Nat.mod_le _ _
  have u7 := oN _ (show (X + Y) % G < 18446744073709551616 by omega)
  have u8 := oN _ (show G < 18446744073709551616 by omega)
  have c2 : (Int.gcd (G : Int) (((X + Y) % G : Nat) : Int) : Int) = (H : Int) := by
    rw [Int.gcd_natCast_natCast, ← hH, Nat.gcd_comm G, ← Nat.gcd_rec, Nat.gcd_comm]
  have d3 : (bd : Int).tdiv H = ((bd / H : Nat) : Int) := by rw [Int.tdiv_eq_ediv_of_nonneg (by omega)]; rfl
  have l3 : bd / H ≤ bd := Nat.div_le_self _ _
  have w7 : bd / H < 18446744073709551616 := by omega
  have u9 := oN _ w7
  have z1 : ((ad / G : Nat) : Int) * ((bd / H : Nat) : Int) = (Z : Int) := by rw [← Int.natCast_mul, hZ]
  have vz := wide_low (n := Z) (by omega)
  have l4 : T ≤ X + Y := hT ▸ Nat.div_le_self _ _
  refine .of (plus_call X Y _ (by omega)) ?_
  simp only [go_sem, Nat.reducePow, Nat.reduceDiv, Nat.reduceMod, Nat.reduceAdd, Nat.reduceSub, Nat.reduceMul, Nat.reduceLeDiff, Nat.reduceLT, Nat.reduceEqDiff, reduceCtorEq, reduceIte, reduceDIte, if_pos rfl, Int.reduceLT, Int.reduceLE, Int.reduceEq, Int.reduceNeg, Int.reduceAdd, Int.reduceSub, Int.reduceMul, Int.reduceToNat, opLen, callW, q8, p8, p7, p6, p5, p4, p3, p2, p1, f1, f2, Try.underlying2, info2, Try.t2, Try.underlying4, info4, Try.t4, Try.underlying24, info24, Try.t24, Try.underlying28, info28, Try.t28, Try.underlying115, info115, Try.t115, Try.underlying190, info190, Try.t190, Try.underlying191, info191, Try.t191, Try.underlying198, info198, Try.t198, body77, body78, body91, body119, body120, body122, body124, body125, body126, body127]
  refine .of (left_call (X + Y) G _ (by omega) g0 (by omega)) ?_
  simp only [go_sem, Nat.reducePow, Nat.reduceDiv, Nat.reduceMod, Nat.reduceAdd, Nat.reduceSub, Nat.reduceMul, Nat.reduceLeDiff, Nat.reduceLT, Nat.reduceEqDiff, reduceCtorEq, reduceIte, reduceDIte, if_pos rfl, Int.reduceLT, Int.reduceLE, Int.reduceEq, Int.reduceNeg, Int.reduceAdd, Int.reduceSub, Int.reduceMul, Int.reduceToNat, opLen, callW, q8, p8, p7, p6, p5, p4, p3, p2, p1, u7, u8, c2, Try.underlying2, info2, Try.t2, Try.underlying4, info4, Try.t4, Try.underlying24, info24, Try.t24, Try.underlying28, info28, Try.t28, Try.underlying115, info115, Try.t115, Try.underlying190, info190, Try.t190, Try.underlying191, info191, Try.t191, Try.underlying198, info198, Try.t198, body77, body78, body91, body119, body120, body122, body124, body125, body126, body127]
  refine .of (by_call (X + Y) H _ (by omega) k0 (by omega)) ?_
  simp only [go_sem, Nat.reducePow, Nat.reduceDiv, Nat.reduceMod, Nat.reduceAdd, Nat.reduceSub, Nat.reduceMul, Nat.reduceLeDiff, Nat.reduceLT, Nat.reduceEqDiff, reduceCtorEq, reduceIte, reduceDIte, if_pos rfl, Int.reduceLT, Int.reduceLE, Int.reduceEq, Int.reduceNeg, Int.reduceAdd, Int.reduceSub, Int.reduceMul, Int.reduceToNat, opLen, callW, q8, p8, p7, p6, p5, p4, p3, p2, p1, d2, d3, g2, k2, w3, w4, w6, w7, u6, u9, z1, vz, Try.underlying2, info2, Try.t2, Try.underlying4, info4, Try.t4, Try.underlying24, info24, Try.t24, Try.underlying28, info28, Try.t28, Try.underlying115, info115, Try.t115, Try.underlying190, info190, Try.t190, Try.underlying191, info191, Try.t191, Try.underlying198, info198, Try.t198, body77, body78, body91, body119, body120, body122, body124, body125, body126, body127]
  have fl := flat191
  by_cases hz : X + Y = 0
  · have hT0 : T = 0 := by rw [← hT, hz, Nat.zero_div]
    simp only [go_sem, Nat.reducePow, Nat.reduceDiv, Nat.reduceMod, Nat.reduceAdd, Nat.reduceSub, Nat.reduceMul, Nat.reduceLeDiff, Nat.reduceLT, Nat.reduceEqDiff, reduceCtorEq, reduceIte, reduceDIte, if_pos rfl, Int.reduceLT, Int.reduceLE, Int.reduceEq, Int.reduceNeg, Int.reduceAdd, Int.reduceSub, Int.reduceMul, Int.reduceToNat, opLen, callW, q8, p8, p7, p6, p5, p4, p3, p2, p1, eqCells, fl, hz, h9 hz, hT0, Nat.zero_div, Int.natCast_zero, Int.natCast_one, Try.underlying2, info2, Try.t2, Try.underlying4, info4, Try.t4, Try.underlying24, info24, Try.t24, Try.underlying28, info28, Try.t28, Try.underlying115, info115, Try.t115, Try.underlying190, info190, Try.t190, Try.underlying191, info191, Try.t191, Try.underlying198, info198, Try.t198, body77, body78, body91, body119, body120, body122, body124, body125, body126, body127]
  · have ez : (((X + Y : Nat) : Int) == 0) = false := by simp; omega
    simp only [go_sem, Nat.reducePow, Nat.reduceDiv, Nat.reduceMod, Nat.reduceAdd, Nat.reduceSub, Nat.reduceMul, Nat.reduceLeDiff, Nat.reduceLT, Nat.reduceEqDiff, reduceCtorEq, reduceIte, reduceDIte, if_pos rfl, Int.reduceLT, Int.reduceLE, Int.reduceEq, Int.reduceNeg, Int.reduceAdd, Int.reduceSub, Int.reduceMul, Int.reduceToNat, opLen, callW, q8, p8, p7, p6, p5, p4, p3, p2, p1, eqCells, fl, ez, hT, Try.underlying2, info2, Try.t2, Try.underlying4, info4, Try.t4, Try.underlying24, info24, Try.t24, Try.underlying28, info28, Try.t28, Try.underlying115, info115, Try.t115, Try.underlying190, info190, Try.t190, Try.underlying191, info191, Try.t191, Try.underlying198, info198, Try.t198, body77, body78, body91, body119, body120, body122, body124, body125, body126, body127]
    refine .of (told_call _ _ false _ (by omega) (by omega) (by omega) (by omega)) ?_
    simp only [go_sem, Nat.reducePow, Nat.reduceDiv, Nat.reduceMod, Nat.reduceAdd, Nat.reduceSub, Nat.reduceMul, Nat.reduceLeDiff, Nat.reduceLT, Nat.reduceEqDiff, reduceCtorEq, reduceIte, reduceDIte, if_pos rfl, Int.reduceLT, Int.reduceLE, Int.reduceEq, Int.reduceNeg, Int.reduceAdd, Int.reduceSub, Int.reduceMul, Int.reduceToNat, opLen, Try.underlying2, info2, Try.t2, Try.underlying4, info4, Try.t4, Try.underlying24, info24, Try.t24, Try.underlying28, info28, Try.t28, Try.underlying115, info115, Try.t115, Try.underlying190, info190, Try.t190, Try.underlying191, info191, Try.t191, Try.underlying198, info198, Try.t198]

/-- Fractions by one number, in words. -/
def fracV (a r : Nat) : Value := .agg ⟨[.int .i64 (fN a r : Int), .int .i64 (fD a r : Int)]⟩

theorem okR_frac {a r : Nat} (hr : 0 < r) (ha : a < 9223372036854775808) (hr2 : r < 9223372036854775808) : okR (fN a r : Int) (fD a r : Int) = true := by
  have h1 := fN_le a r
  have h2 := fD_le a r
  have h3 := fD_pos (a := a) hr
  have h4 := f_coprime (a := a) hr
  simp only [okR, okI, Bool.and_eq_true, decide_eq_true_eq, chk, Int.gcd_natCast_natCast]
  refine ⟨⟨⟨?_, ?_⟩, ⟨?_, ?_⟩⟩, ?_, ?_, h4⟩ <;> omega

theorem added_call (a b r : Nat) (σ : St) (hr : 0 < r) (hr2 : r < 9223372036854775808) (hab : a + b < 9223372036854775808) :
    callX Try.prog 94 [fracV a r, fracV b r] σ (Ans σ (fracV (a + b) r)) := by
  obtain ⟨s1, s2⟩ := sum_is (a := a) (b := b) hr
  have b1 := fN_le a r
  have b2 := fN_le b r
  have b3 := fD_le a r
  have b4 := fD_le b r
  have b5 := fD_le (a + b) r
  have b6 := sX_le (a := a) (b := b) hr
  have b7 := sY_le (a := a) (b := b) hr
  have h9 : sX a b r + sY a b r = 0 → fD a r / sG a b r * (fD b r / sH a b r) = 1 := fun h => by
    rw [s2]
    rw [h, Nat.zero_div] at s1
    have h0 : a + b = 0 := by have := fN_mul (a + b) r; rw [← s1, Nat.zero_mul] at this; exact this.symm
    rw [h0]
    unfold fD
    rw [Nat.gcd_zero_left]
    exact Nat.div_self hr
  have := added_walk (fN a r) (fD a r) (fN b r) (fD b r) (sG a b r) (sX a b r) (sY a b r) (sH a b r) _ _ σ rfl rfl rfl rfl rfl rfl (by omega) (fD_pos hr) (by omega) (by omega) (fD_pos hr) (by omega) (by omega) (by rw [s2]; omega) h9
  rw [s1, s2] at this
  exact this

theorem two1_call {p q s : Nat} {a b r : Nat} {σ : St} (hp : p < σ.next) (hq : q < σ.next) (hs : s < σ.next) (gp : σ.get p = some (.cells [.int .i64 (fN a r : Int), .int .i64 (fD a r : Int)] false)) (gq : σ.get q = some (.cells [.int .i64 (fN b r : Int), .int .i64 (fD b r : Int)] false))
    (gs : σ.get s = some (.cells [.func (.func 94) ⟨[]⟩ ⟨[]⟩] false)) (hr : 0 < r) (hr2 : r < 9223372036854775808) (hab : a + b < 9223372036854775808) :
    callX Try.prog 123 [.pointer (some ⟨p, 0, none⟩), .pointer (some ⟨q, 0, none⟩), .pointer (some ⟨s, 0, none⟩)] σ (Ans σ (.agg ⟨[.int .i64 (fN (a + b) r : Int), .int .i64 (fD (a + b) r : Int)]⟩)) := by
  have k1 := okR_frac (a := a) hr (by omega) hr2
  have k2 := okR_frac (a := b) hr (by omega) hr2
  simp only [okR, Bool.and_eq_true, decide_eq_true_eq] at k1 k2
  have ha := (added_call a b r · hr hr2 hab)
  simp only [fracV] at ha
  refine Ans.of (enter (p := q8) Try.func123 rfl stat123 ?_)
  simp only [go_sem, Nat.reducePow, Nat.reduceDiv, Nat.reduceMod, Nat.reduceAdd, Nat.reduceSub, Nat.reduceMul, Nat.reduceLeDiff, Nat.reduceLT, Nat.reduceEqDiff, reduceCtorEq, reduceIte, reduceDIte, if_pos rfl, Int.reduceLT, Int.reduceLE, Int.reduceEq, Int.reduceNeg, Int.reduceAdd, Int.reduceSub, Int.reduceMul, Int.reduceToNat, opLen, callW, q8, p8, p7, p6, p5, p4, p3, p2, p1, Try.f123, zerosN, gp, gq, gs, hp, hq, hs, Try.underlying2, info2, Try.t2, Try.underlying4, info4, Try.t4, Try.underlying22, info22, Try.t22, Try.underlying23, info23, Try.t23, Try.underlying24, info24, Try.t24, Try.underlying28, info28, Try.t28, Try.underlying115, info115, Try.t115, Try.underlying163, info163, Try.t163, body94, body118]
  refine .of (both_call _ _ _ _ _ _ (by simp only [go_sem, Nat.reducePow, Nat.reduceDiv, Nat.reduceMod, Nat.reduceAdd, Nat.reduceSub, Nat.reduceMul, Nat.reduceLeDiff, Nat.reduceLT, Nat.reduceEqDiff, reduceCtorEq, reduceIte, reduceDIte, if_pos rfl, Int.reduceLT, Int.reduceLE, Int.reduceEq, Int.reduceNeg, Int.reduceAdd, Int.reduceSub, Int.reduceMul, Int.reduceToNat, opLen]) (by simp only [go_sem, Nat.reducePow, Nat.reduceDiv, Nat.reduceMod, Nat.reduceAdd, Nat.reduceSub, Nat.reduceMul, Nat.reduceLeDiff, Nat.reduceLT, Nat.reduceEqDiff, reduceCtorEq, reduceIte, reduceDIte, if_pos rfl, Int.reduceLT, Int.reduceLE, Int.reduceEq, Int.reduceNeg, Int.reduceAdd, Int.reduceSub, Int.reduceMul, Int.reduceToNat, opLen]) k1.1.1 k1.1.2 k2.1.1 k2.1.2 k1.2 k2.2) ?_
  simp only [go_sem, Nat.reducePow, Nat.reduceDiv, Nat.reduceMod, Nat.reduceAdd, Nat.reduceSub, Nat.reduceMul, Nat.reduceLeDiff, Nat.reduceLT, Nat.reduceEqDiff, reduceCtorEq, reduceIte, reduceDIte, if_pos rfl, Int.reduceLT, Int.reduceLE, Int.reduceEq, Int.reduceNeg, Int.reduceAdd, Int.reduceSub, Int.reduceMul, Int.reduceToNat, opLen, callW, q8, p8, p7, p6, p5, p4, p3, p2, p1, gp, gq, gs, hp, hq, hs, Try.underlying2, info2, Try.t2, Try.underlying4, info4, Try.t4, Try.underlying22, info22, Try.t22, Try.underlying24, info24, Try.t24, Try.underlying28, info28, Try.t28, Try.underlying115, info115, Try.t115, Try.underlying163, info163, Try.t163, body94, body118]
  refine callX.ret (ha _) ?_
  intro σ' l hl ⟨h1, h2, h3⟩
  simp only [St.next_new] at h1 h2 h3
  have g0 := h3 σ.next (by omega)
  simp only [go_sem, Nat.reducePow, Nat.reduceDiv, Nat.reduceMod, Nat.reduceAdd, Nat.reduceSub, Nat.reduceMul, Nat.reduceLeDiff, Nat.reduceLT, Nat.reduceEqDiff, reduceCtorEq, reduceIte, reduceDIte, if_pos rfl, Int.reduceLT, Int.reduceLE, Int.reduceEq, Int.reduceNeg, Int.reduceAdd, Int.reduceSub, Int.reduceMul, Int.reduceToNat, opLen] at g0
  simp only [go_sem, Nat.reducePow, Nat.reduceDiv, Nat.reduceMod, Nat.reduceAdd, Nat.reduceSub, Nat.reduceMul, Nat.reduceLeDiff, Nat.reduceLT, Nat.reduceEqDiff, reduceCtorEq, reduceIte, reduceDIte, if_pos rfl, Int.reduceLT, Int.reduceLE, Int.reduceEq, Int.reduceNeg, Int.reduceAdd, Int.reduceSub, Int.reduceMul, Int.reduceToNat, opLen, g0, Try.underlying2, info2, Try.t2, Try.underlying4, info4, Try.t4, Try.underlying22, info22, Try.t22, Try.underlying24, info24, Try.t24, Try.underlying28, info28, Try.t28, Try.underlying115, info115, Try.t115, Try.underlying163, info163, Try.t163]
  intro c hc
  rcases hc with hc | hc
  · have := h1 c hc; omega
  · omega

theorem addF_call (a b r : Nat) (σ : St) (hr : 0 < r) (hr2 : r < 9223372036854775808) (hab : a + b < 9223372036854775808) :
    DCall Try.prog 64 [.agg ⟨[.int .i64 (fN a r : Int), .int .i64 (fD a r : Int)]⟩, .agg ⟨[.int .i64 (fN b r : Int), .int .i64 (fD b r : Int)]⟩] σ (.ret (.tuple ⟨[.agg ⟨[.int .i64 (fN (a + b) r : Int), .int .i64 (fD (a + b) r : Int)]⟩, .int .i64 0]⟩)) σ [] := by
  refine pure_call (enter (p := q8) Try.func64 rfl stat64 ?_) rfl
  simp only [go_sem, Nat.reducePow, Nat.reduceDiv, Nat.reduceMod, Nat.reduceAdd, Nat.reduceSub, Nat.reduceMul, Nat.reduceLeDiff, Nat.reduceLT, Nat.reduceEqDiff, reduceCtorEq, reduceIte, reduceDIte, if_pos rfl, Int.reduceLT, Int.reduceLE, Int.reduceEq, Int.reduceNeg, Int.reduceAdd, Int.reduceSub, Int.reduceMul, Int.reduceToNat, opLen, callW, q8, p8, p7, p6, p5, p4, p3, p2, p1, Try.f64, Try.underlying2, info2, Try.t2, Try.underlying4, info4, Try.t4, Try.underlying22, info22, Try.t22, Try.underlying24, info24, Try.t24, Try.underlying28, info28, Try.t28, Try.underlying57, info57, Try.t57, Try.underlying115, info115, Try.t115, Try.underlying157, info157, Try.t157, Try.underlying163, info163, Try.t163, body93, body94]
  refine enter (p := q8) Try.func93 rfl stat93 ?_
  simp only [go_sem, Nat.reducePow, Nat.reduceDiv, Nat.reduceMod, Nat.reduceAdd, Nat.reduceSub, Nat.reduceMul, Nat.reduceLeDiff, Nat.reduceLT, Nat.reduceEqDiff, reduceCtorEq, reduceIte, reduceDIte, if_pos rfl, Int.reduceLT, Int.reduceLE, Int.reduceEq, Int.reduceNeg, Int.reduceAdd, Int.reduceSub, Int.reduceMul, Int.reduceToNat, opLen, callW, q8, p8, p7, p6, p5, p4, p3, p2, p1, Try.f93, Try.underlying2, info2, Try.t2, Try.underlying4, info4, Try.t4, Try.underlying22, info22, Try.t22, Try.underlying24, info24, Try.t24, Try.underlying28, info28, Try.t28, Try.underlying57, info57, Try.t57, Try.underlying115, info115, Try.t115, Try.underlying157, info157, Try.t157, Try.underlying161, info161, Try.t161, Try.underlying163, info163, Try.t163, body89, body123]
  refine .of (try_rat body123 (two1_call (a := a) (b := b) (r := r) ?_ ?_ ?_ ?_ ?_ ?_ hr hr2 hab)) ?_
  · simp only [go_sem, Nat.reducePow, Nat.reduceDiv, Nat.reduceMod, Nat.reduceAdd, Nat.reduceSub, Nat.reduceMul, Nat.reduceLeDiff, Nat.reduceLT, Nat.reduceEqDiff, reduceCtorEq, reduceIte, reduceDIte, if_pos rfl, Int.reduceLT, Int.reduceLE, Int.reduceEq, Int.reduceNeg, Int.reduceAdd, Int.reduceSub, Int.reduceMul, Int.reduceToNat, opLen]
  · simp only [go_sem, Nat.reducePow, Nat.reduceDiv, Nat.reduceMod, Nat.reduceAdd, Nat.reduceSub, Nat.reduceMul, Nat.reduceLeDiff, Nat.reduceLT, Nat.reduceEqDiff, reduceCtorEq, reduceIte, reduceDIte, if_pos rfl, Int.reduceLT, Int.reduceLE, Int.reduceEq, Int.reduceNeg, Int.reduceAdd, Int.reduceSub, Int.reduceMul, Int.reduceToNat, opLen]
  · simp only [go_sem, Nat.reducePow, Nat.reduceDiv, Nat.reduceMod, Nat.reduceAdd, Nat.reduceSub, Nat.reduceMul, Nat.reduceLeDiff, Nat.reduceLT, Nat.reduceEqDiff, reduceCtorEq, reduceIte, reduceDIte, if_pos rfl, Int.reduceLT, Int.reduceLE, Int.reduceEq, Int.reduceNeg, Int.reduceAdd, Int.reduceSub, Int.reduceMul, Int.reduceToNat, opLen]
  · simp only [go_sem, Nat.reducePow, Nat.reduceDiv, Nat.reduceMod, Nat.reduceAdd, Nat.reduceSub, Nat.reduceMul, Nat.reduceLeDiff, Nat.reduceLT, Nat.reduceEqDiff, reduceCtorEq, reduceIte, reduceDIte, if_pos rfl, Int.reduceLT, Int.reduceLE, Int.reduceEq, Int.reduceNeg, Int.reduceAdd, Int.reduceSub, Int.reduceMul, Int.reduceToNat, opLen]
  · simp only [go_sem, Nat.reducePow, Nat.reduceDiv, Nat.reduceMod, Nat.reduceAdd, Nat.reduceSub, Nat.reduceMul, Nat.reduceLeDiff, Nat.reduceLT, Nat.reduceEqDiff, reduceCtorEq, reduceIte, reduceDIte, if_pos rfl, Int.reduceLT, Int.reduceLE, Int.reduceEq, Int.reduceNeg, Int.reduceAdd, Int.reduceSub, Int.reduceMul, Int.reduceToNat, opLen]
  · simp only [go_sem, Nat.reducePow, Nat.reduceDiv, Nat.reduceMod, Nat.reduceAdd, Nat.reduceSub, Nat.reduceMul, Nat.reduceLeDiff, Nat.reduceLT, Nat.reduceEqDiff, reduceCtorEq, reduceIte, reduceDIte, if_pos rfl, Int.reduceLT, Int.reduceLE, Int.reduceEq, Int.reduceNeg, Int.reduceAdd, Int.reduceSub, Int.reduceMul, Int.reduceToNat, opLen]
  · simp only [go_sem, Nat.reducePow, Nat.reduceDiv, Nat.reduceMod, Nat.reduceAdd, Nat.reduceSub, Nat.reduceMul, Nat.reduceLeDiff, Nat.reduceLT, Nat.reduceEqDiff, reduceCtorEq, reduceIte, reduceDIte, if_pos rfl, Int.reduceLT, Int.reduceLE, Int.reduceEq, Int.reduceNeg, Int.reduceAdd, Int.reduceSub, Int.reduceMul, Int.reduceToNat, opLen, Try.underlying2, info2, Try.t2, Try.underlying4, info4, Try.t4, Try.underlying22, info22, Try.t22, Try.underlying24, info24, Try.t24, Try.underlying28, info28, Try.t28, Try.underlying57, info57, Try.t57, Try.underlying115, info115, Try.t115, Try.underlying157, info157, Try.t157, Try.underlying161, info161, Try.t161, Try.underlying163, info163, Try.t163]
end Go.Ab

set_option linter.unusedSimpArgs false
set_option linter.unusedVariables false
namespace Go.Ab
open Go.Proofs

def Q0 : QV := ⟨fun _ => none, 0, fun _ => none, 0, [], 0⟩

theorem und2' : (cP Try.prog).T.und 2 = some (.int .i64) := (cx_und 2).trans Try.underlying2

theorem may_call (f r m : Int) (σ : St) (h : (0 ≤ f ∧ f ≤ 2147483647) ∧ (1 ≤ r ∧ r ≤ 1000000) ∧ (0 ≤ m ∧ m ≤ 1000000000)) : DCall Try.prog 59 [.int .i64 f, .int .i64 r, .int .i64 m] σ (.ret (.bool true)) σ [] := by
  obtain ⟨⟨h1, h2⟩, ⟨h3, h4⟩, h5, h6⟩ := h
  refine pure_call (enter (p := q8) Try.func59 rfl stat59 ?_) rfl
  simp only [go_sem, Nat.reducePow, Nat.reduceDiv, Nat.reduceMod, Nat.reduceAdd, Nat.reduceSub, Nat.reduceMul, Nat.reduceLeDiff, Nat.reduceLT, Nat.reduceEqDiff, reduceCtorEq, reduceIte, reduceDIte, if_pos rfl, Int.reduceLT, Int.reduceLE, Int.reduceEq, Int.reduceNeg, Int.reduceAdd, Int.reduceSub, Int.reduceMul, Int.reduceToNat, opLen, callW, q8, p8, p7, p6, p5, p4, p3, p2, p1, Try.f59, Try.underlying2, info2, Try.t2, Try.underlying4, info4, Try.t4, body60]
  refine .of (within_call _ _ _ _) ?_
  simp only [go_sem, Nat.reducePow, Nat.reduceDiv, Nat.reduceMod, Nat.reduceAdd, Nat.reduceSub, Nat.reduceMul, Nat.reduceLeDiff, Nat.reduceLT, Nat.reduceEqDiff, reduceCtorEq, reduceIte, reduceDIte, if_pos rfl, Int.reduceLT, Int.reduceLE, Int.reduceEq, Int.reduceNeg, Int.reduceAdd, Int.reduceSub, Int.reduceMul, Int.reduceToNat, opLen, callW, q8, p8, p7, p6, p5, p4, p3, p2, p1, h1, h2, Try.underlying2, info2, Try.t2, Try.underlying4, info4, Try.t4, body60]
  refine .of (within_call _ _ _ _) ?_
  simp only [go_sem, Nat.reducePow, Nat.reduceDiv, Nat.reduceMod, Nat.reduceAdd, Nat.reduceSub, Nat.reduceMul, Nat.reduceLeDiff, Nat.reduceLT, Nat.reduceEqDiff, reduceCtorEq, reduceIte, reduceDIte, if_pos rfl, Int.reduceLT, Int.reduceLE, Int.reduceEq, Int.reduceNeg, Int.reduceAdd, Int.reduceSub, Int.reduceMul, Int.reduceToNat, opLen, callW, q8, p8, p7, p6, p5, p4, p3, p2, p1, h3, h4, Try.underlying2, info2, Try.t2, Try.underlying4, info4, Try.t4, body60]
  refine .of (within_call _ _ _ _) ?_
  simp only [go_sem, Nat.reducePow, Nat.reduceDiv, Nat.reduceMod, Nat.reduceAdd, Nat.reduceSub, Nat.reduceMul, Nat.reduceLeDiff, Nat.reduceLT, Nat.reduceEqDiff, reduceCtorEq, reduceIte, reduceDIte, if_pos rfl, Int.reduceLT, Int.reduceLE, Int.reduceEq, Int.reduceNeg, Int.reduceAdd, Int.reduceSub, Int.reduceMul, Int.reduceToNat, opLen, callW, q8, p8, p7, p6, p5, p4, p3, p2, p1, h5, h6, Try.underlying2, info2, Try.t2, Try.underlying4, info4, Try.t4, body60]

theorem qnone_call {σ : St} {q fm pm h : Nat} (gq : σ.get q = some (.cells [.pointer (some ⟨h, 0, none⟩), .map (some fm), .map (some pm)] false)) : DCall Try.prog 58 [.pointer (some ⟨q, 0, none⟩)] σ (.ret (.bool false)) σ [] := by
  refine pure_call (enter (p := q8) Try.func58 rfl stat58 ?_) rfl
  simp only [go_sem, Nat.reducePow, Nat.reduceDiv, Nat.reduceMod, Nat.reduceAdd, Nat.reduceSub, Nat.reduceMul, Nat.reduceLeDiff, Nat.reduceLT, Nat.reduceEqDiff, reduceCtorEq, reduceIte, reduceDIte, if_pos rfl, Int.reduceLT, Int.reduceLE, Int.reduceEq, Int.reduceNeg, Int.reduceAdd, Int.reduceSub, Int.reduceMul, Int.reduceToNat, opLen, callW, q8, p8, p7, p6, p5, p4, p3, p2, p1, gq, Option.isNone_some, Try.f58, Try.underlying4, info4, Try.t4, Try.underlying26, info26, Try.t26, Try.underlying50, info50, Try.t50, Try.underlying118, info118, Try.t118, Try.underlying119, info119, Try.t119, Try.underlying120, info120, Try.t120, Try.underlying121, info121, Try.t121]

def AddR (σ : St) (b : QB) (Q : QV) (flow rate room now : Int) (σ' : St) (l : Log) : Prop :=
  (∀ c ∈ l, c ∈ b.core ∨ σ.next ≤ c) ∧ ∃ blk, σ.next ≤ blk ∧ QAt σ' b { Q with F := updF Q.F flow (some ⟨blk, rate, room, 0, now, 1⟩), nf := Q.nf + 1 }

theorem qadd_state {σ : St} {b : QB} {Q : QV} (H : QAt σ b Q) {flow rate room now : Int} {es : List MapEntry} {ck : Nat} (gf : σ.get b.fm = some (.map es ck)) (hki : KI es) (hlk : ∀ k, lkV es k = (Q.F k).map ptrOf) (hlen : es.length = Q.nf) (hF : Q.F flow = none) :
    AddR σ b Q flow rate room now ((σ.new (.cells [.int .i64 flow, .int .i64 rate, .int .i64 room, .int .i64 0, .int .i64 now, .int .i64 1] false)).set b.fm (.map (pushE es ⟨.int .i64 flow, .pointer (some ⟨σ.next, 0, none⟩), ck⟩) (ck + 1))) [b.fm] := by
  have hfm : b.fm < σ.next := H.lt _ (by simp [QB.core])
  have ne := H.ne
  have hno : lkV es flow = none := by rw [hlk, hF]; rfl
  refine ⟨fun c hc => .inl (by simp at hc; simp [QB.core, hc]), σ.next, Nat.le_refl _, ?_⟩
  generalize hσ : (σ.new (.cells [.int .i64 flow, .int .i64 rate, .int .i64 room, .int .i64 0, .int .i64 now, .int .i64 1] false)).set b.fm (.map (pushE es ⟨.int .i64 flow, .pointer (some ⟨σ.next, 0, none⟩), ck⟩) (ck + 1)) = σ'
  have nx : σ'.next = σ.next + 1 := by rw [← hσ]; rfl
  have g : ∀ c, c < σ.next → c ≠ b.fm → σ'.get c = σ.get c := fun c h1 h2 => by rw [← hσ, St.get_set, if_neg (Ne.symm h2), St.get_new, if_neg (by omega)]
  have gn : σ'.get σ.next = some (.cells [.int .i64 flow, .int .i64 rate, .int .i64 room, .int .i64 0, .int .i64 now, .int .i64 1] false) := by rw [← hσ, St.get_set, if_neg (by omega), St.get_new, if_pos rfl]
  have gm : σ'.get b.fm = some (.map (pushE es ⟨.int .i64 flow, .pointer (some ⟨σ.next, 0, none⟩), ck⟩) (ck + 1)) := by rw [← hσ, St.get_set, if_pos rfl]
  have lt := H.lt
  exact { gq := (g _ (lt _ (by simp [QB.core])) ne.q_fm).trans H.gq
          hx := H.hx.keep (by omega) fun c hc => g c (H.hx.lt c hc) (by
            simp only [List.mem_cons] at hc
            rcases hc with rfl | rfl | hc
            · exact ne.fm_h.symm
            · exact ne.fm_m.symm
            · exact (ne.A c hc).2.1)
          mf := ⟨_, _, gm, pushV_KI hki hno, fun k => by
            rw [pushV_lk hki hno]
            show _ = (updF Q.F flow _ k).map ptrOf
            by_cases e : k = flow
            · subst e; rw [if_pos rfl, updF_same]; rfl
            · rw [if_neg e, updF_other _ _ e, hlk], by rw [pushV_length, hlen]⟩
          mp := H.mp.keep (g _ (lt _ (by simp [QB.core])) ne.fm_pm.symm)
          fl := fun k x hx => by
            have hx : updF Q.F flow _ k = some x := hx
            by_cases e : k = flow
            · subst e
              rw [updF_same] at hx
              cases hx
              exact ⟨gn, by show σ.next < σ'.next; omega, fun hm => by have := lt _ hm; exact absurd this (Nat.lt_irrefl _)⟩
            · rw [updF_other _ _ e] at hx
              obtain ⟨a1, a2, a3⟩ := H.fl k x hx
              exact ⟨(g _ a2 fun e' => a3 (by simp [QB.core, e'])).trans a1, by omega, a3⟩
          inj := fun k k' x x' hx hx' hb => by
            have h1 : updF Q.F flow _ k = some x := hx
            have h2 : updF Q.F flow _ k' = some x' := hx'
            clear hx hx'
            by_cases e : k = flow <;> by_cases e' : k' = flow
            · rw [e, e']
            · rw [e, updF_same] at h1
              rw [updF_other _ _ e'] at h2
              cases h1
              have := (H.fl k' x' h2).2.1
              have hb : σ.next = x'.blk := hb
              omega
            · rw [e', updF_same] at h2
              rw [updF_other _ _ e] at h1
              cases h2
              have := (H.fl k x h1).2.1
              have hb : x.blk = σ.next := hb
              omega
            · rw [updF_other _ _ e] at h1
              rw [updF_other _ _ e'] at h2
              exact H.inj k k' x x' h1 h2 hb
          nodup := H.nodup
          lt := fun c hc => by have := lt c hc; omega }

set_option maxRecDepth 20000 in
theorem qadd_call {σ : St} {b : QB} {Q : QV} (H : QAt σ b Q) (flow rate room now : Int) (h : (0 ≤ flow ∧ flow ≤ 2147483647) ∧ (1 ≤ rate ∧ rate ≤ 1000000) ∧ (0 ≤ room ∧ room ≤ 1000000000)) (hnow : 0 ≤ now ∧ now ≤ 2147483647) (hF : Q.F flow = none) (hn : Q.nf < 32) :
    callX Try.prog 24 [.pointer (some ⟨b.q, 0, none⟩), .int .i64 flow, .int .i64 rate, .int .i64 room, .int .i64 now] σ fun e σ' l => e = .ret (.int .i64 0) ∧ AddR σ b Q flow rate room now σ' l := by
  have gq := H.gq
  obtain ⟨es, ck, gf, hki, hlk, hlen⟩ := H.mf
  have hq : b.q < σ.next := H.lt _ (by simp [QB.core])
  have hfm : b.fm < σ.next := H.lt _ (by simp [QB.core])
  have hfind := findV_none und2' (i := 0) hki ((hlk flow).trans (by show (Q.F flow).map ptrOf = none; rw [hF]; rfl))
  have hn' : ¬ (32 : Int) ≤ es.length := by omega
  refine enter (p := q8) Try.func24 rfl stat24 ?_
  simp only [go_sem, Nat.reducePow, Nat.reduceDiv, Nat.reduceMod, Nat.reduceAdd, Nat.reduceSub, Nat.reduceMul, Nat.reduceLeDiff, Nat.reduceLT, Nat.reduceEqDiff, reduceCtorEq, reduceIte, reduceDIte, if_pos rfl, Int.reduceLT, Int.reduceLE, Int.reduceEq, Int.reduceNeg, Int.reduceAdd, Int.reduceSub, Int.reduceMul, Int.reduceToNat, opLen, callW, q8, p8, p7, p6, p5, p4, p3, p2, p1, Try.f24, Try.underlying2, info2, Try.t2, Try.underlying3, info3, Try.t3, Try.underlying4, info4, Try.t4, Try.underlying24, info24, Try.t24, Try.underlying28, info28, Try.t28, Try.underlying50, info50, Try.t50, Try.underlying118, info118, Try.t118, Try.underlying121, info121, Try.t121, Try.underlying123, info123, Try.t123, body58, body59, body60, body61]
  refine enscope q8 24 (by kernel_rfl) ?_
  simp only [go_sem, Nat.reducePow, Nat.reduceDiv, Nat.reduceMod, Nat.reduceAdd, Nat.reduceSub, Nat.reduceMul, Nat.reduceLeDiff, Nat.reduceLT, Nat.reduceEqDiff, reduceCtorEq, reduceIte, reduceDIte, if_pos rfl, Int.reduceLT, Int.reduceLE, Int.reduceEq, Int.reduceNeg, Int.reduceAdd, Int.reduceSub, Int.reduceMul, Int.reduceToNat, opLen, callW, q8, p8, p7, p6, p5, p4, p3, p2, p1, Try.underlying2, info2, Try.t2, Try.underlying3, info3, Try.t3, Try.underlying4, info4, Try.t4, Try.underlying24, info24, Try.t24, Try.underlying28, info28, Try.t28, Try.underlying50, info50, Try.t50, Try.underlying118, info118, Try.t118, Try.underlying121, info121, Try.t121, Try.underlying123, info123, Try.t123, body58, body59, body60, body61]
  refine .of (qnone_call gq) ?_
  simp only [go_sem, Nat.reducePow, Nat.reduceDiv, Nat.reduceMod, Nat.reduceAdd, Nat.reduceSub, Nat.reduceMul, Nat.reduceLeDiff, Nat.reduceLT, Nat.reduceEqDiff, reduceCtorEq, reduceIte, reduceDIte, if_pos rfl, Int.reduceLT, Int.reduceLE, Int.reduceEq, Int.reduceNeg, Int.reduceAdd, Int.reduceSub, Int.reduceMul, Int.reduceToNat, opLen, callW, q8, p8, p7, p6, p5, p4, p3, p2, p1, Try.underlying2, info2, Try.t2, Try.underlying3, info3, Try.t3, Try.underlying4, info4, Try.t4, Try.underlying24, info24, Try.t24, Try.underlying28, info28, Try.t28, Try.underlying50, info50, Try.t50, Try.underlying118, info118, Try.t118, Try.underlying121, info121, Try.t121, Try.underlying123, info123, Try.t123, body58, body59, body60, body61]
  refine .of (may_call _ _ _ _ h) ?_
  simp only [go_sem, Nat.reducePow, Nat.reduceDiv, Nat.reduceMod, Nat.reduceAdd, Nat.reduceSub, Nat.reduceMul, Nat.reduceLeDiff, Nat.reduceLT, Nat.reduceEqDiff, reduceCtorEq, reduceIte, reduceDIte, if_pos rfl, Int.reduceLT, Int.reduceLE, Int.reduceEq, Int.reduceNeg, Int.reduceAdd, Int.reduceSub, Int.reduceMul, Int.reduceToNat, opLen, callW, q8, p8, p7, p6, p5, p4, p3, p2, p1, Try.underlying2, info2, Try.t2, Try.underlying3, info3, Try.t3, Try.underlying4, info4, Try.t4, Try.underlying24, info24, Try.t24, Try.underlying28, info28, Try.t28, Try.underlying50, info50, Try.t50, Try.underlying118, info118, Try.t118, Try.underlying121, info121, Try.t121, Try.underlying123, info123, Try.t123, body58, body59, body60, body61]
  refine .of (within_call _ _ _ _) ?_
  simp only [go_sem, Nat.reducePow, Nat.reduceDiv, Nat.reduceMod, Nat.reduceAdd, Nat.reduceSub, Nat.reduceMul, Nat.reduceLeDiff, Nat.reduceLT, Nat.reduceEqDiff, reduceCtorEq, reduceIte, reduceDIte, if_pos rfl, Int.reduceLT, Int.reduceLE, Int.reduceEq, Int.reduceNeg, Int.reduceAdd, Int.reduceSub, Int.reduceMul, Int.reduceToNat, opLen, callW, q8, p8, p7, p6, p5, p4, p3, p2, p1, hnow.1, hnow.2, gq, gf, hfind, hn', und2', Try.underlying2, info2, Try.t2, Try.underlying3, info3, Try.t3, Try.underlying4, info4, Try.t4, Try.underlying24, info24, Try.t24, Try.underlying28, info28, Try.t28, Try.underlying50, info50, Try.t50, Try.underlying118, info118, Try.t118, Try.underlying121, info121, Try.t121, Try.underlying123, info123, Try.t123, Try.underlying126, info126, Try.t126, body58, body59, body60, body61]
  refine .of (whole_call' _ _) ?_
  simp only [go_sem, Nat.reducePow, Nat.reduceDiv, Nat.reduceMod, Nat.reduceAdd, Nat.reduceSub, Nat.reduceMul, Nat.reduceLeDiff, Nat.reduceLT, Nat.reduceEqDiff, reduceCtorEq, reduceIte, reduceDIte, if_pos rfl, Int.reduceLT, Int.reduceLE, Int.reduceEq, Int.reduceNeg, Int.reduceAdd, Int.reduceSub, Int.reduceMul, Int.reduceToNat, opLen, callW, q8, p8, p7, p6, p5, p4, p3, p2, p1, hnow.1, hnow.2, gq, gf, hq, hfm, hfind, hn', und2', Try.underlying2, info2, Try.t2, Try.underlying3, info3, Try.t3, Try.underlying4, info4, Try.t4, Try.underlying24, info24, Try.t24, Try.underlying28, info28, Try.t28, Try.underlying50, info50, Try.t50, Try.underlying118, info118, Try.t118, Try.underlying121, info121, Try.t121, Try.underlying123, info123, Try.t123, Try.underlying126, info126, Try.t126, body58, body59, body60, body61]
  exact qadd_state H gf hki hlk hlen hF

def NewR (σ : St) (σ' : St) (l : Log) : Prop := (∀ c ∈ l, σ.next ≤ c) ∧ QAt σ' ⟨σ.next + 4, σ.next + 2, σ.next + 3, σ.next + 1, σ.next, []⟩ Q0

theorem qnew_call (σ : St) : callX Try.prog 23 [] σ fun e σ' l => e = .ret (.pointer (some ⟨σ.next + 4, 0, none⟩)) ∧ NewR σ σ' l := by
  refine enter (p := q8) Try.func23 rfl stat23 ?_
  simp only [go_sem, Nat.reducePow, Nat.reduceDiv, Nat.reduceMod, Nat.reduceAdd, Nat.reduceSub, Nat.reduceMul, Nat.reduceLeDiff, Nat.reduceLT, Nat.reduceEqDiff, reduceCtorEq, reduceIte, reduceDIte, if_pos rfl, Int.reduceLT, Int.reduceLE, Int.reduceEq, Int.reduceNeg, Int.reduceAdd, Int.reduceSub, Int.reduceMul, Int.reduceToNat, opLen, callW, q8, p8, p7, p6, p5, p4, p3, p2, p1, Try.f23, Try.underlying2, info2, Try.t2, Try.underlying3, info3, Try.t3, Try.underlying4, info4, Try.t4, Try.underlying24, info24, Try.t24, Try.underlying28, info28, Try.t28, Try.underlying50, info50, Try.t50, Try.underlying118, info118, Try.t118, Try.underlying121, info121, Try.t121, Try.underlying123, info123, Try.t123, body13]
  refine .of (new_call σ) ?_
  simp only [go_sem, Nat.reducePow, Nat.reduceDiv, Nat.reduceMod, Nat.reduceAdd, Nat.reduceSub, Nat.reduceMul, Nat.reduceLeDiff, Nat.reduceLT, Nat.reduceEqDiff, reduceCtorEq, reduceIte, reduceDIte, if_pos rfl, Int.reduceLT, Int.reduceLE, Int.reduceEq, Int.reduceNeg, Int.reduceAdd, Int.reduceSub, Int.reduceMul, Int.reduceToNat, opLen, callW, q8, p8, p7, p6, p5, p4, p3, p2, p1, Try.f23, Try.underlying2, info2, Try.t2, Try.underlying3, info3, Try.t3, Try.underlying4, info4, Try.t4, Try.underlying24, info24, Try.t24, Try.underlying26, info26, Try.t26, Try.underlying28, info28, Try.t28, Try.underlying50, info50, Try.t50, Try.underlying118, info118, Try.t118, Try.underlying119, info119, Try.t119, Try.underlying120, info120, Try.t120, Try.underlying121, info121, Try.t121, Try.underlying123, info123, Try.t123, body13]
  refine ⟨fun c hc => by simp at hc, ?_⟩
  generalize hσ : (((((σ.new (.map [] 0)).new (.cells [.map (some σ.next), .slice none 0 0, .int .i64 0] false)).new (.map [] 0)).new (.map [] 0)).new (.cells [.pointer (some ⟨σ.next + 1, 0, none⟩), .map (some (σ.next + 2)), .map (some (σ.next + 3))] false)) = σ'
  have nx : σ'.next = σ.next + 5 := by rw [← hσ]; rfl
  have g0 : σ'.get σ.next = some (.map [] 0) := by rw [← hσ]; simp only [go_sem, Nat.reducePow, Nat.reduceDiv, Nat.reduceMod, Nat.reduceAdd, Nat.reduceSub, Nat.reduceMul, Nat.reduceLeDiff, Nat.reduceLT, Nat.reduceEqDiff, reduceCtorEq, reduceIte, reduceDIte, if_pos rfl, Int.reduceLT, Int.reduceLE, Int.reduceEq, Int.reduceNeg, Int.reduceAdd, Int.reduceSub, Int.reduceMul, Int.reduceToNat, opLen]
  have g1 : σ'.get (σ.next + 1) = some (.cells [.map (some σ.next), .slice none 0 0, .int .i64 0] false) := by rw [← hσ]; simp only [go_sem, Nat.reducePow, Nat.reduceDiv, Nat.reduceMod, Nat.reduceAdd, Nat.reduceSub, Nat.reduceMul, Nat.reduceLeDiff, Nat.reduceLT, Nat.reduceEqDiff, reduceCtorEq, reduceIte, reduceDIte, if_pos rfl, Int.reduceLT, Int.reduceLE, Int.reduceEq, Int.reduceNeg, Int.reduceAdd, Int.reduceSub, Int.reduceMul, Int.reduceToNat, opLen]
  have g2 : σ'.get (σ.next + 2) = some (.map [] 0) := by rw [← hσ]; simp only [go_sem, Nat.reducePow, Nat.reduceDiv, Nat.reduceMod, Nat.reduceAdd, Nat.reduceSub, Nat.reduceMul, Nat.reduceLeDiff, Nat.reduceLT, Nat.reduceEqDiff, reduceCtorEq, reduceIte, reduceDIte, if_pos rfl, Int.reduceLT, Int.reduceLE, Int.reduceEq, Int.reduceNeg, Int.reduceAdd, Int.reduceSub, Int.reduceMul, Int.reduceToNat, opLen]
  have g3 : σ'.get (σ.next + 3) = some (.map [] 0) := by rw [← hσ]; simp only [go_sem, Nat.reducePow, Nat.reduceDiv, Nat.reduceMod, Nat.reduceAdd, Nat.reduceSub, Nat.reduceMul, Nat.reduceLeDiff, Nat.reduceLT, Nat.reduceEqDiff, reduceCtorEq, reduceIte, reduceDIte, if_pos rfl, Int.reduceLT, Int.reduceLE, Int.reduceEq, Int.reduceNeg, Int.reduceAdd, Int.reduceSub, Int.reduceMul, Int.reduceToNat, opLen]
  have g4 : σ'.get (σ.next + 4) = some (.cells [.pointer (some ⟨σ.next + 1, 0, none⟩), .map (some (σ.next + 2)), .map (some (σ.next + 3))] false) := by rw [← hσ]; simp only [go_sem, Nat.reducePow, Nat.reduceDiv, Nat.reduceMod, Nat.reduceAdd, Nat.reduceSub, Nat.reduceMul, Nat.reduceLeDiff, Nat.reduceLT, Nat.reduceEqDiff, reduceCtorEq, reduceIte, reduceDIte, if_pos rfl, Int.reduceLT, Int.reduceLE, Int.reduceEq, Int.reduceNeg, Int.reduceAdd, Int.reduceSub, Int.reduceMul, Int.reduceToNat, opLen]
  exact { gq := g4
          hx := .inl ⟨rfl, rfl, ⟨g1, ⟨0, g0⟩, by show σ.next + 1 ≠ σ.next; omega, by show σ.next + 1 < σ'.next ∧ σ.next < σ'.next; omega⟩⟩
          mf := ⟨[], 0, g2, KI.nil, fun k => rfl, rfl⟩
          mp := ⟨[], 0, g3, KI.nil, fun k => rfl, rfl⟩
          fl := fun k x hx => by cases hx
          inj := fun k k' x x' hx => by cases hx
          nodup := by simp only [QB.core, List.nodup_cons, List.mem_cons, List.not_mem_nil, or_false]; refine ⟨?_, ?_, ?_, ?_, ?_⟩ <;> first | omega | (refine ⟨?_, ?_⟩ <;> simp)
          lt := fun c hc => by simp only [QB.core, List.mem_cons, List.not_mem_nil, or_false] at hc; omega }

end Go.Ab

set_option linter.unusedSimpArgs false
set_option linter.unusedVariables false
namespace Go.Ab
open Go.Proofs

theorem makeN_call (s r : Nat) (σ : St) (hs : s < 9223372036854775808) (hr : 0 < r) (hr2 : r < 9223372036854775808) :
    DCall Try.prog 63 [.int .i64 (s : Int), .int .i64 (r : Int)] σ (.ret (.tuple ⟨[.agg ⟨[.int .i64 (fN s r : Int), .int .i64 (fD s r : Int)]⟩, .int .i64 0]⟩)) σ [] := by
  have := make_call (s : Int) (r : Int) σ (by omega) (by omega) (by omega) (by omega)
  rw [Int.gcd_natCast_natCast] at this
  exact this

theorem greater_frac {S R now : Nat} (hR : 0 < R) : (if 0 < cmpR (fN S R : Int) (fD S R : Int) (now : Int) 1 then Value.agg ⟨[.int .i64 (fN S R : Int), .int .i64 (fD S R : Int)]⟩ else Value.agg ⟨[.int .i64 (now : Int), .int .i64 1]⟩) = .agg ⟨[.int .i64 (fN (max (now * R) S) R : Int), .int .i64 (fD (max (now * R) S) R : Int)]⟩ := by
  have hc := f_cross S R
  have hd := fD_pos (a := S) hR
  have key : 0 < cmpR (fN S R : Int) (fD S R : Int) (now : Int) 1 ↔ now * R < S := by
    unfold cmpR
    have e1 : (fN S R : Int) * 1 = ((fN S R : Nat) : Int) := by omega
    have e2 : (now : Int) * (fD S R : Int) = ((now * fD S R : Nat) : Int) := (Int.natCast_mul _ _).symm
    rw [e1, e2]
    have m1 : now * fD S R < fN S R ↔ now * R < S := by
      constructor
      · intro h
        have h2 : now * fD S R * R < fN S R * R := Nat.mul_lt_mul_of_pos_right h hR
        rw [hc] at h2
        have h3 : now * R * fD S R < S * fD S R := by
          have : now * R * fD S R = now * fD S R * R := by rw [Nat.mul_assoc, Nat.mul_comm R, ← Nat.mul_assoc]
          omega
        exact Nat.lt_of_mul_lt_mul_right h3
      · intro h
        have h2 : now * R * fD S R < S * fD S R := Nat.mul_lt_mul_of_pos_right h hd
        rw [← hc] at h2
        have h3 : now * fD S R * R < fN S R * R := by
          have : now * R * fD S R = now * fD S R * R := by rw [Nat.mul_assoc, Nat.mul_comm R, ← Nat.mul_assoc]
          omega
        exact Nat.lt_of_mul_lt_mul_right h3
    rw [← m1]
    split
    · omega
    · split <;> omega
  by_cases h : now * R < S
  · rw [if_pos (key.2 h), Nat.max_eq_right (by omega)]
  · rw [if_neg (fun k => h (key.1 k)), Nat.max_eq_left (by omega), (f_whole hR).1, (f_whole hR).2]
    rfl

def PutR (σ : St) (b : QB) (Q : QV) (id flow size : Int) (x : FlowV) (n d : Int) (σ' : St) (l : Log) : Prop :=
  (∀ c ∈ l, Foot b Q c ∨ σ.next ≤ c) ∧ ∃ A', (∀ c ∈ A', c ∈ b.A ∨ σ.next ≤ c) ∧
    QAt σ' { b with A := A' } { Q with F := updF Q.F flow (some { x with bytes := x.bytes + size, n := n, d := d }), P := updF Q.P id (some (flow, size)), np := Q.np + 1, L := riseL (Q.L.length + 1) (Q.L ++ [⟨id, n, d, Q.t + 1⟩]) Q.L.length, t := Q.t + 1 }

theorem qput_state {σ σ' : St} {b : QB} {Q : QV} (H : QAt σ b Q) {id flow size n d : Int} {x : FlowV} {A' : List Nat} {l : Log} {ep : List MapEntry} {cp K : Nat} {v : AObj} (hF : Q.F flow = some x) (hK : 1 < K)
    (hkp : KI ep) (hlp : ∀ k, lkV ep k = (Q.P k).map (packOf k)) (hlen : ep.length = Q.np) (hP : Q.P id = none)
    (hx' : HX σ' b.h b.m A' (riseL (Q.L.length + 1) (Q.L ++ [⟨id, n, d, Q.t + 1⟩]) Q.L.length) (Q.t + 1)) (hA : ∀ c ∈ A', c ∈ b.A ∨ σ.next + K ≤ c) (hl : ∀ c ∈ l, Foot b Q c ∨ σ.next ≤ c)
    (kc : ∀ c, c < σ.next → ¬ x.blk = c → ¬ b.pm = c → c ∉ b.h :: b.m :: b.A → σ'.get c = σ.get c) (nx : σ.next + K ≤ σ'.next)
    (kx : σ'.get x.blk = some (.cells [.int .i64 flow, .int .i64 x.rate, .int .i64 x.room, .int .i64 (x.bytes + size), .int .i64 n, .int .i64 d] false))
    (kpm : σ'.get b.pm = some (.map (pushE ep ⟨.int .i64 id, .agg ⟨[.int .i64 id, .int .i64 flow, .int .i64 size]⟩, cp⟩) (cp + 1))) :
    PutR σ b Q id flow size x n d (σ'.set (σ.next + 1) v) l := by
  have ne := H.ne
  have lt := H.lt
  obtain ⟨gx, hxl, hxc⟩ := H.fl flow x hF
  have hno : lkV ep id = none := by rw [hlp, hP]; rfl
  have sf : ∀ c, c ≠ σ.next + 1 → (σ'.set (σ.next + 1) v).get c = σ'.get c := fun c hc => by rw [St.get_set, if_neg (Ne.symm hc)]
  have core : ∀ c ∈ b.core, c < σ.next := lt
  have lo : ∀ c, c < σ.next → (σ'.set (σ.next + 1) v).get c = σ'.get c := fun c hc => sf c (by omega)
  have inh : ∀ c ∈ b.h :: b.m :: b.A, c ∈ b.core := fun c hc => by simp only [QB.core, List.mem_cons] at hc ⊢; rcases hc with h | h | h <;> simp [h]
  have xq : ¬ x.blk = b.q := fun e => hxc (by simp [QB.core, e])
  have xf : ¬ x.blk = b.fm := fun e => hxc (by simp [QB.core, e])
  have nq : b.q ∉ b.h :: b.m :: b.A := fun hm => by
    simp only [List.mem_cons] at hm
    rcases hm with h | h | h
    · exact ne.q_h h
    · exact ne.q_m h
    · exact (ne.A _ h).1 rfl
  have nf : b.fm ∉ b.h :: b.m :: b.A := fun hm => by
    simp only [List.mem_cons] at hm
    rcases hm with h | h | h
    · exact ne.fm_h h
    · exact ne.fm_m h
    · exact (ne.A _ h).2.1 rfl
  refine ⟨hl, A', fun c hc => by rcases hA c hc with h | h; exact .inl h; exact .inr (by omega), ?_⟩
  have newcore : ∀ c, c ∈ ({ b with A := A' } : QB).core → c ∈ b.core ∨ σ.next + K ≤ c := fun c hc => by
    simp only [QB.core, List.mem_cons] at hc ⊢
    rcases hc with h | h | h | h | h | h
    · simp [h]
    · simp [h]
    · simp [h]
    · simp [h]
    · simp [h]
    · rcases hA c h with h | h
      · simp [h]
      · exact .inr h
  exact { gq := (lo _ (lt _ (by simp [QB.core]))).trans ((kc _ (lt _ (by simp [QB.core])) xq ne.q_pm.symm nq).trans H.gq)
          hx := hx'.keep (Nat.le_refl _) fun c hc => sf c (by
            rcases newcore c (by simp only [QB.core, List.mem_cons] at hc ⊢; rcases hc with h | h | h <;> simp [h]) with h | h
            · have := lt c h; omega
            · omega)
          mf := by
            obtain ⟨es, ck, gf, a, f, g⟩ := H.mf
            refine ⟨es, ck, (lo _ (lt _ (by simp [QB.core]))).trans ((kc _ (lt _ (by simp [QB.core])) xf ne.fm_pm.symm nf).trans gf), a, fun k => ?_, g⟩
            rw [f]
            show (Q.F k).map ptrOf = (updF Q.F flow _ k).map ptrOf
            by_cases e : k = flow
            · subst e; rw [updF_same, hF]; rfl
            · rw [updF_other _ _ e]
          mp := ⟨_, _, (lo _ (lt _ (by simp [QB.core]))).trans kpm, pushV_KI hkp hno, fun k => by
            rw [pushV_lk hkp hno]
            show _ = (updF Q.P id _ k).map (packOf k)
            by_cases e : k = id
            · subst e; rw [if_pos rfl, updF_same]; rfl
            · rw [if_neg e, updF_other _ _ e, hlp], by rw [pushV_length, hlen]⟩
          fl := fun k y hy => by
            have h1 : updF Q.F flow _ k = some y := hy
            clear hy
            by_cases e : k = flow
            · subst e
              rw [updF_same] at h1
              cases h1
              refine ⟨(lo _ hxl).trans kx, by show x.blk < σ'.next; omega, fun hm => ?_⟩
              rcases newcore _ hm with h | h
              · exact hxc h
              · have h : σ.next + K ≤ x.blk := h
                omega
            · rw [updF_other _ _ e] at h1
              obtain ⟨a1, a2, a3⟩ := H.fl k y h1
              refine ⟨(lo _ a2).trans ((kc _ a2 (fun e' => e (H.inj _ _ _ _ h1 hF e'.symm)) (fun e' => a3 (by simp [QB.core, e'])) (fun hm => a3 (inh _ hm))).trans a1), by show y.blk < σ'.next; omega, fun hm => ?_⟩
              rcases newcore _ hm with h | h
              · exact a3 h
              · omega
          inj := fun k k' y y' hy hy' hb => by
            have h1 : updF Q.F flow _ k = some y := hy
            have h2 : updF Q.F flow _ k' = some y' := hy'
            clear hy hy'
            by_cases e : k = flow <;> by_cases e' : k' = flow
            · rw [e, e']
            · rw [e, updF_same] at h1
              rw [updF_other _ _ e'] at h2
              cases h1
              rw [e]
              exact H.inj _ _ _ _ hF h2 hb
            · rw [e', updF_same] at h2
              rw [updF_other _ _ e] at h1
              cases h2
              rw [e']
              exact H.inj _ _ _ _ h1 hF hb
            · rw [updF_other _ _ e] at h1
              rw [updF_other _ _ e'] at h2
              exact H.inj k k' y y' h1 h2 hb
          nodup := ne.core (n := σ.next) (fun c hc => by rcases hA c hc with h | h; exact .inl h; exact .inr (by omega)) lt hx'.nodup
          lt := fun c hc => by
            rcases newcore c hc with h | h
            · have := lt c h; show c < σ'.next; omega
            · have h3 := hx'.lt
              simp only [QB.core, List.mem_cons] at hc
              rcases hc with h | h | h | h | h | h
              · have := lt b.q (by simp [QB.core]); show c < σ'.next; omega
              · have := lt b.fm (by simp [QB.core]); show c < σ'.next; omega
              · have := lt b.pm (by simp [QB.core]); show c < σ'.next; omega
              · exact h3 c (by simp [h])
              · exact h3 c (by simp [h])
              · exact h3 c (by simp [h]) }

theorem keep_log {σ σ' : St} {l : Log} {B : List Nat} (hl : Logged σ σ' l) (h : ∀ c ∈ l, c ∈ B ∨ σ.next ≤ c) : ∀ c, c < σ.next → c ∉ B → σ'.get c = σ.get c := fun c hc hn =>
  hl.2 c hc fun hm => by
    rcases h c hm with h | h
    · exact hn h
    · omega

set_option maxRecDepth 20000 in
theorem qput_call {σ : St} {b : QB} {Q : QV} (H : QAt σ b Q) (id flow : Int) (size now S R : Nat) {x : FlowV} (hF : Q.F flow = some x) (hP : Q.P id = none) (hid : 0 ≤ id ∧ id ≤ 4611686018427387904) (hfl : 0 ≤ flow ∧ flow ≤ 2147483647) (hsz : 1 ≤ size ∧ size ≤ 2000) (hnow : now ≤ 2147483647)
    (hx1 : x.rate = R) (hx2 : x.n = fN S R) (hx3 : x.d = fD S R) (hR : 1 ≤ R ∧ R ≤ 1000000) (hS : S < 1000000000000000000) (hb : -100000000 ≤ x.bytes ∧ x.bytes ≤ 100000000) (hr : 0 ≤ x.room ∧ x.room ≤ 1000000000) (hroom : x.bytes + size ≤ x.room) (hnp : Q.np < 50000) (hnew : ∀ y ∈ Q.L, y.id ≠ id) (hL : Q.L.length < 1000) (ht : 0 ≤ Q.t ∧ Q.t < 1000000) :
    callX Try.prog 25 [.pointer (some ⟨b.q, 0, none⟩), .agg ⟨[.int .i64 id, .int .i64 flow, .int .i64 size]⟩, .int .i64 now] σ fun e σ' l =>
      e = .ret (.tuple ⟨[.agg ⟨[.int .i64 (fN (max (now * R) S + size) R : Int), .int .i64 (fD (max (now * R) S + size) R : Int)]⟩, .int .i64 0]⟩) ∧ PutR σ b Q id flow size x (fN (max (now * R) S + size) R) (fD (max (now * R) S + size) R) σ' l := by
  have gq := H.gq
  obtain ⟨es, ck, gf, hki, hlk, hlen⟩ := H.mf
  obtain ⟨ep, cp, gp, hkp, hlp, hlenp⟩ := H.mp
  obtain ⟨gx, hxl, hxc⟩ := H.fl flow x hF
  have hq : b.q < σ.next := H.lt _ (by simp [QB.core])
  have hfm : b.fm < σ.next := H.lt _ (by simp [QB.core])
  have hpm : b.pm < σ.next := H.lt _ (by simp [QB.core])
  obtain ⟨j, e, hfind, hev, _, _⟩ := findV_some und2' (i := 0) (v := ptrOf x) hki ((hlk flow).trans (by show (Q.F flow).map ptrOf = _; rw [hF]; rfl))
  have hfindp := findV_none und2' (i := 0) hkp ((hlp id).trans (by show (Q.P id).map (packOf id) = none; rw [hP]; rfl))
  have hn' : ¬ (50000 : Int) ≤ ep.length := by omega
  have hM : max (now * R) S + size < 2000000000000000000 := by
    have : now * R ≤ 2147483647 * 1000000 := Nat.mul_le_mul hnow hR.2
    omega
  obtain ⟨M, hMe⟩ : ∃ M, max (now * R) S = M := ⟨_, rfl⟩
  have hgr := greater_frac (S := S) (R := R) (now := now) (by omega)
  rw [hMe] at hM hgr ⊢
  rw [← hx2, ← hx3] at hgr
  have s1 : (1 : Int) ≤ (size : Int) := by omega
  have s2 : (size : Int) ≤ 2000 := by omega
  have w1 : IntKind.i64.wrap (x.room - x.bytes) = x.room - x.bytes := wrapI (by omega) (by omega)
  have w2 : IntKind.i64.wrap (x.bytes + size) = x.bytes + size := wrapI (by omega) (by omega)
  have l1 : ¬ x.room - x.bytes < size := by omega
  have l2 : (0 : Int) ≤ now := by omega
  have l3 : (now : Int) ≤ 2147483647 := by omega
  have k1 : okR (now : Int) 1 = true := by simp [okR, okI, chk]; omega
  have k2 : okR x.n x.d = true := by rw [hx2, hx3]; exact okR_frac (by omega) (by omega) (by omega)
  simp only [FlowV.cells] at gx
  have ne := H.ne
  have n1 : ¬ x.blk = b.q := fun e' => hxc (by simp [QB.core, e'])
  have n2 : ¬ x.blk = b.pm := fun e' => hxc (by simp [QB.core, e'])
  have n3 : ¬ b.q = b.pm := ne.q_pm
  have n4 : ¬ b.pm = b.q := ne.q_pm.symm
  have n5 : ¬ b.q = x.blk := fun e' => n1 e'.symm
  have n6 : ¬ b.pm = x.blk := fun e' => n2 e'.symm
  refine enter (p := q8) Try.func25 rfl stat25 ?_
  simp only [go_sem, Nat.reducePow, Nat.reduceDiv, Nat.reduceMod, Nat.reduceAdd, Nat.reduceSub, Nat.reduceMul, Nat.reduceLeDiff, Nat.reduceLT, Nat.reduceEqDiff, reduceCtorEq, reduceIte, reduceDIte, if_pos rfl, Int.reduceLT, Int.reduceLE, Int.reduceEq, Int.reduceNeg, Int.reduceAdd, Int.reduceSub, Int.reduceMul, Int.reduceToNat, opLen, callW, q8, p8, p7, p6, p5, p4, p3, p2, p1, Try.f25]
  refine .of (qnone_call (q := b.q) (by simp only [go_sem, Nat.reducePow, Nat.reduceDiv, Nat.reduceMod, Nat.reduceAdd, Nat.reduceSub, Nat.reduceMul, Nat.reduceLeDiff, Nat.reduceLT, Nat.reduceEqDiff, reduceCtorEq, reduceIte, reduceDIte, if_pos rfl, Int.reduceLT, Int.reduceLE, Int.reduceEq, Int.reduceNeg, Int.reduceAdd, Int.reduceSub, Int.reduceMul, Int.reduceToNat, opLen, hq, gq]; rfl)) ?_
  simp only [go_sem, Nat.reducePow, Nat.reduceDiv, Nat.reduceMod, Nat.reduceAdd, Nat.reduceSub, Nat.reduceMul, Nat.reduceLeDiff, Nat.reduceLT, Nat.reduceEqDiff, reduceCtorEq, reduceIte, reduceDIte, if_pos rfl, Int.reduceLT, Int.reduceLE, Int.reduceEq, Int.reduceNeg, Int.reduceAdd, Int.reduceSub, Int.reduceMul, Int.reduceToNat, opLen, callW, q8, p8, p7, p6, p5, p4, p3, p2, p1, ptrOf, gq, gf, gp, hq, hfm, hpm, hfind, hev, hfindp, und2']
  refine .of (within_call _ _ _ _) ?_
  simp only [go_sem, Nat.reducePow, Nat.reduceDiv, Nat.reduceMod, Nat.reduceAdd, Nat.reduceSub, Nat.reduceMul, Nat.reduceLeDiff, Nat.reduceLT, Nat.reduceEqDiff, reduceCtorEq, reduceIte, reduceDIte, if_pos rfl, Int.reduceLT, Int.reduceLE, Int.reduceEq, Int.reduceNeg, Int.reduceAdd, Int.reduceSub, Int.reduceMul, Int.reduceToNat, opLen, callW, q8, p8, p7, p6, p5, p4, p3, p2, p1, hid.1, hid.2]
  refine .of (within_call _ _ _ _) ?_
  simp only [go_sem, Nat.reducePow, Nat.reduceDiv, Nat.reduceMod, Nat.reduceAdd, Nat.reduceSub, Nat.reduceMul, Nat.reduceLeDiff, Nat.reduceLT, Nat.reduceEqDiff, reduceCtorEq, reduceIte, reduceDIte, if_pos rfl, Int.reduceLT, Int.reduceLE, Int.reduceEq, Int.reduceNeg, Int.reduceAdd, Int.reduceSub, Int.reduceMul, Int.reduceToNat, opLen, callW, q8, p8, p7, p6, p5, p4, p3, p2, p1, hfl.1, hfl.2]
  refine .of (within_call _ _ _ _) ?_
  simp only [go_sem, Nat.reducePow, Nat.reduceDiv, Nat.reduceMod, Nat.reduceAdd, Nat.reduceSub, Nat.reduceMul, Nat.reduceLeDiff, Nat.reduceLT, Nat.reduceEqDiff, reduceCtorEq, reduceIte, reduceDIte, if_pos rfl, Int.reduceLT, Int.reduceLE, Int.reduceEq, Int.reduceNeg, Int.reduceAdd, Int.reduceSub, Int.reduceMul, Int.reduceToNat, opLen, callW, q8, p8, p7, p6, p5, p4, p3, p2, p1, s1, s2]
  refine .of (within_call _ _ _ _) ?_
  simp only [go_sem, Nat.reducePow, Nat.reduceDiv, Nat.reduceMod, Nat.reduceAdd, Nat.reduceSub, Nat.reduceMul, Nat.reduceLeDiff, Nat.reduceLT, Nat.reduceEqDiff, reduceCtorEq, reduceIte, reduceDIte, if_pos rfl, Int.reduceLT, Int.reduceLE, Int.reduceEq, Int.reduceNeg, Int.reduceAdd, Int.reduceSub, Int.reduceMul, Int.reduceToNat, opLen, callW, q8, p8, p7, p6, p5, p4, p3, p2, p1, l2, l3, l1, w1, gx, hxl, gq, gp, hq, hpm, hn']
  refine .of (whole_call' _ _) ?_
  simp only [go_sem, Nat.reducePow, Nat.reduceDiv, Nat.reduceMod, Nat.reduceAdd, Nat.reduceSub, Nat.reduceMul, Nat.reduceLeDiff, Nat.reduceLT, Nat.reduceEqDiff, reduceCtorEq, reduceIte, reduceDIte, if_pos rfl, Int.reduceLT, Int.reduceLE, Int.reduceEq, Int.reduceNeg, Int.reduceAdd, Int.reduceSub, Int.reduceMul, Int.reduceToNat, opLen, callW, q8, p8, p7, p6, p5, p4, p3, p2, p1, zerosN, gx, hxl]
  refine .of (greatest_call (by simp only [go_sem, Nat.reducePow, Nat.reduceDiv, Nat.reduceMod, Nat.reduceAdd, Nat.reduceSub, Nat.reduceMul, Nat.reduceLeDiff, Nat.reduceLT, Nat.reduceEqDiff, reduceCtorEq, reduceIte, reduceDIte, if_pos rfl, Int.reduceLT, Int.reduceLE, Int.reduceEq, Int.reduceNeg, Int.reduceAdd, Int.reduceSub, Int.reduceMul, Int.reduceToNat, opLen]) (by simp only [go_sem, Nat.reducePow, Nat.reduceDiv, Nat.reduceMod, Nat.reduceAdd, Nat.reduceSub, Nat.reduceMul, Nat.reduceLeDiff, Nat.reduceLT, Nat.reduceEqDiff, reduceCtorEq, reduceIte, reduceDIte, if_pos rfl, Int.reduceLT, Int.reduceLE, Int.reduceEq, Int.reduceNeg, Int.reduceAdd, Int.reduceSub, Int.reduceMul, Int.reduceToNat, opLen]) k1 k2) ?_
  simp only [go_sem, Nat.reducePow, Nat.reduceDiv, Nat.reduceMod, Nat.reduceAdd, Nat.reduceSub, Nat.reduceMul, Nat.reduceLeDiff, Nat.reduceLT, Nat.reduceEqDiff, reduceCtorEq, reduceIte, reduceDIte, if_pos rfl, Int.reduceLT, Int.reduceLE, Int.reduceEq, Int.reduceNeg, Int.reduceAdd, Int.reduceSub, Int.reduceMul, Int.reduceToNat, opLen, callW, q8, p8, p7, p6, p5, p4, p3, p2, p1, hgr, gx, hxl, hx1]
  refine .of (makeN_call size R _ (by omega) (by omega) (by omega)) ?_
  simp only [go_sem, Nat.reducePow, Nat.reduceDiv, Nat.reduceMod, Nat.reduceAdd, Nat.reduceSub, Nat.reduceMul, Nat.reduceLeDiff, Nat.reduceLT, Nat.reduceEqDiff, reduceCtorEq, reduceIte, reduceDIte, if_pos rfl, Int.reduceLT, Int.reduceLE, Int.reduceEq, Int.reduceNeg, Int.reduceAdd, Int.reduceSub, Int.reduceMul, Int.reduceToNat, opLen, callW, q8, p8, p7, p6, p5, p4, p3, p2, p1, gx, hxl]
  refine .of (addF_call M size R _ (by omega) (by omega) (by omega)) ?_
  simp only [go_sem, Nat.reducePow, Nat.reduceDiv, Nat.reduceMod, Nat.reduceAdd, Nat.reduceSub, Nat.reduceMul, Nat.reduceLeDiff, Nat.reduceLT, Nat.reduceEqDiff, reduceCtorEq, reduceIte, reduceDIte, if_pos rfl, Int.reduceLT, Int.reduceLE, Int.reduceEq, Int.reduceNeg, Int.reduceAdd, Int.reduceSub, Int.reduceMul, Int.reduceToNat, opLen, callW, q8, p8, p7, p6, p5, p4, p3, p2, p1, gx, hxl, w2, gq, gp, hq, hpm, hfindp, und2', n1, n2, n3, n4, n5, n6]
  have hx := H.hx
  have hA := H.hx.lt
  refine callX.ret (HX.put (hx.keep ?_ ?_) id _ _ hid.1 hid.2 (okR_frac (by omega) (by omega) (by omega)) ht.1 ht.2 hnew hL) ?_
  · simp only [go_sem, Nat.reducePow, Nat.reduceDiv, Nat.reduceMod, Nat.reduceAdd, Nat.reduceSub, Nat.reduceMul, Nat.reduceLeDiff, Nat.reduceLT, Nat.reduceEqDiff, reduceCtorEq, reduceIte, reduceDIte, if_pos rfl, Int.reduceLT, Int.reduceLE, Int.reduceEq, Int.reduceNeg, Int.reduceAdd, Int.reduceSub, Int.reduceMul, Int.reduceToNat, opLen]
  · intro c hc
    have hlt := hA c hc
    have m1 : ¬ x.blk = c := fun e' => hxc (by rw [e']; simp only [QB.core, List.mem_cons] at hc ⊢; rcases hc with h | h | h <;> simp [h])
    have m2 : ¬ b.pm = c := fun e' => by
      simp only [List.mem_cons] at hc
      rcases hc with h | h | h
      · exact ne.pm_h (e'.trans h)
      · exact ne.pm_m (e'.trans h)
      · exact (ne.A c h).2.2.1 e'.symm
    simp only [go_sem, Nat.reducePow, Nat.reduceDiv, Nat.reduceMod, Nat.reduceAdd, Nat.reduceSub, Nat.reduceMul, Nat.reduceLeDiff, Nat.reduceLT, Nat.reduceEqDiff, reduceCtorEq, reduceIte, reduceDIte, if_pos rfl, Int.reduceLT, Int.reduceLE, Int.reduceEq, Int.reduceNeg, Int.reduceAdd, Int.reduceSub, Int.reduceMul, Int.reduceToNat, opLen, hlt, m1, m2]
  intro σ' l hl ⟨hlg, A', hA', hx'⟩
  have nx := hl.1
  have kp := keep_log hl hlg
  have hA2 : ∀ c ∈ A', c ∈ b.A ∨ σ.next + 7 ≤ c := fun c hc => by
    have := hA' c hc
    simp only [go_sem, Nat.reducePow, Nat.reduceDiv, Nat.reduceMod, Nat.reduceAdd, Nat.reduceSub, Nat.reduceMul, Nat.reduceLeDiff, Nat.reduceLT, Nat.reduceEqDiff, reduceCtorEq, reduceIte, reduceDIte, if_pos rfl, Int.reduceLT, Int.reduceLE, Int.reduceEq, Int.reduceNeg, Int.reduceAdd, Int.reduceSub, Int.reduceMul, Int.reduceToNat, opLen] at this
    exact this
  have hl2 : ∀ c ∈ l, c ∈ b.h :: b.m :: b.A ∨ σ.next + 7 ≤ c := fun c hc => by
    rcases hlg c hc with h | h
    · exact .inl h
    · simp only [go_sem, Nat.reducePow, Nat.reduceDiv, Nat.reduceMod, Nat.reduceAdd, Nat.reduceSub, Nat.reduceMul, Nat.reduceLeDiff, Nat.reduceLT, Nat.reduceEqDiff, reduceCtorEq, reduceIte, reduceDIte, if_pos rfl, Int.reduceLT, Int.reduceLE, Int.reduceEq, Int.reduceNeg, Int.reduceAdd, Int.reduceSub, Int.reduceMul, Int.reduceToNat, opLen] at h
      exact .inr h
  have k6 := kp (σ.next + 6) (by simp only [go_sem, Nat.reducePow, Nat.reduceDiv, Nat.reduceMod, Nat.reduceAdd, Nat.reduceSub, Nat.reduceMul, Nat.reduceLeDiff, Nat.reduceLT, Nat.reduceEqDiff, reduceCtorEq, reduceIte, reduceDIte, if_pos rfl, Int.reduceLT, Int.reduceLE, Int.reduceEq, Int.reduceNeg, Int.reduceAdd, Int.reduceSub, Int.reduceMul, Int.reduceToNat, opLen]) fun hm => by have := hA _ hm; omega
  have k1 := kp (σ.next + 1) (by simp only [go_sem, Nat.reducePow, Nat.reduceDiv, Nat.reduceMod, Nat.reduceAdd, Nat.reduceSub, Nat.reduceMul, Nat.reduceLeDiff, Nat.reduceLT, Nat.reduceEqDiff, reduceCtorEq, reduceIte, reduceDIte, if_pos rfl, Int.reduceLT, Int.reduceLE, Int.reduceEq, Int.reduceNeg, Int.reduceAdd, Int.reduceSub, Int.reduceMul, Int.reduceToNat, opLen]) fun hm => by have := hA _ hm; omega
  have kx := kp x.blk (by simp only [go_sem, Nat.reducePow, Nat.reduceDiv, Nat.reduceMod, Nat.reduceAdd, Nat.reduceSub, Nat.reduceMul, Nat.reduceLeDiff, Nat.reduceLT, Nat.reduceEqDiff, reduceCtorEq, reduceIte, reduceDIte, if_pos rfl, Int.reduceLT, Int.reduceLE, Int.reduceEq, Int.reduceNeg, Int.reduceAdd, Int.reduceSub, Int.reduceMul, Int.reduceToNat, opLen, hxl]) fun hm => hxc (by simp only [QB.core, List.mem_cons] at hm ⊢; rcases hm with h | h | h <;> simp [h])
  have kpm := kp b.pm (by simp only [go_sem, Nat.reducePow, Nat.reduceDiv, Nat.reduceMod, Nat.reduceAdd, Nat.reduceSub, Nat.reduceMul, Nat.reduceLeDiff, Nat.reduceLT, Nat.reduceEqDiff, reduceCtorEq, reduceIte, reduceDIte, if_pos rfl, Int.reduceLT, Int.reduceLE, Int.reduceEq, Int.reduceNeg, Int.reduceAdd, Int.reduceSub, Int.reduceMul, Int.reduceToNat, opLen, hpm]) fun hm => by
    simp only [List.mem_cons] at hm
    rcases hm with h | h | h
    · exact ne.pm_h h
    · exact ne.pm_m h
    · exact (ne.A _ h).2.2.1 rfl
  have kc : ∀ c, c < σ.next → ¬ x.blk = c → ¬ b.pm = c → c ∉ b.h :: b.m :: b.A → σ'.get c = σ.get c := fun c c1 c2 c3 c4 => by
    have := kp c (by simp only [go_sem, Nat.reducePow, Nat.reduceDiv, Nat.reduceMod, Nat.reduceAdd, Nat.reduceSub, Nat.reduceMul, Nat.reduceLeDiff, Nat.reduceLT, Nat.reduceEqDiff, reduceCtorEq, reduceIte, reduceDIte, if_pos rfl, Int.reduceLT, Int.reduceLE, Int.reduceEq, Int.reduceNeg, Int.reduceAdd, Int.reduceSub, Int.reduceMul, Int.reduceToNat, opLen, c1]) c4
    simp only [go_sem, Nat.reducePow, Nat.reduceDiv, Nat.reduceMod, Nat.reduceAdd, Nat.reduceSub, Nat.reduceMul, Nat.reduceLeDiff, Nat.reduceLT, Nat.reduceEqDiff, reduceCtorEq, reduceIte, reduceDIte, if_pos rfl, Int.reduceLT, Int.reduceLE, Int.reduceEq, Int.reduceNeg, Int.reduceAdd, Int.reduceSub, Int.reduceMul, Int.reduceToNat, opLen, c1, c2, c3] at this
    exact this
  simp only [go_sem, Nat.reducePow, Nat.reduceDiv, Nat.reduceMod, Nat.reduceAdd, Nat.reduceSub, Nat.reduceMul, Nat.reduceLeDiff, Nat.reduceLT, Nat.reduceEqDiff, reduceCtorEq, reduceIte, reduceDIte, if_pos rfl, Int.reduceLT, Int.reduceLE, Int.reduceEq, Int.reduceNeg, Int.reduceAdd, Int.reduceSub, Int.reduceMul, Int.reduceToNat, opLen, hxl, hpm, n1, n2, n3, n4, n5, n6] at nx k6 k1 kx kpm
  clear kp hl hlg hA'
  simp only [go_sem, Nat.reducePow, Nat.reduceDiv, Nat.reduceMod, Nat.reduceAdd, Nat.reduceSub, Nat.reduceMul, Nat.reduceLeDiff, Nat.reduceLT, Nat.reduceEqDiff, reduceCtorEq, reduceIte, reduceDIte, if_pos rfl, Int.reduceLT, Int.reduceLE, Int.reduceEq, Int.reduceNeg, Int.reduceAdd, Int.reduceSub, Int.reduceMul, Int.reduceToNat, opLen, k6, k1, Nat.add_eq]
  refine qput_state H (K := 7) hF (by omega) hkp hlp hlenp hP hx' hA2 (fun c hc => ?_) kc nx kx kpm
  simp only [List.mem_cons, List.mem_append, List.not_mem_nil, or_false] at hc
  have fx : Foot b Q x.blk := .inr ⟨flow, x, hF, rfl⟩
  rcases hc with h | h | h | h | h | h | h | h | h
  · exact .inr (by omega)
  · exact .inr (by omega)
  · exact .inr (by omega)
  · exact .inr (by omega)
  · exact .inl (h ▸ fx)
  · exact .inl (h ▸ fx)
  · exact .inl (.inl (by simp [QB.core, h]))
  · rcases hl2 c h with h | h
    · exact .inl (.inl (by simp only [QB.core, List.mem_cons] at h ⊢; rcases h with h | h | h <;> simp [h]))
    · exact .inr (by omega)
  · exact .inr (by omega)
end Go.Ab

set_option linter.unusedSimpArgs false
set_option linter.unusedVariables false
namespace Go.Ab
open Go.Proofs

theorem qlen_call {σ : St} {b : QB} {Q : QV} (H : QAt σ b Q) : DCall Try.prog 28 [.pointer (some ⟨b.q, 0, none⟩)] σ (.ret (.int .i64 Q.L.length)) σ [] := by
  have gq := H.gq
  refine pure_call (enter (p := q8) Try.func28 rfl stat28 ?_) rfl
  simp only [go_sem, Nat.reducePow, Nat.reduceDiv, Nat.reduceMod, Nat.reduceAdd, Nat.reduceSub, Nat.reduceMul, Nat.reduceLeDiff, Nat.reduceLT, Nat.reduceEqDiff, reduceCtorEq, reduceIte, reduceDIte, if_pos rfl, Int.reduceLT, Int.reduceLE, Int.reduceEq, Int.reduceNeg, Int.reduceAdd, Int.reduceSub, Int.reduceMul, Int.reduceToNat, opLen, callW, q8, p8, p7, p6, p5, p4, p3, p2, p1, Try.f28]
  refine .of (qnone_call gq) ?_
  simp only [go_sem, Nat.reducePow, Nat.reduceDiv, Nat.reduceMod, Nat.reduceAdd, Nat.reduceSub, Nat.reduceMul, Nat.reduceLeDiff, Nat.reduceLT, Nat.reduceEqDiff, reduceCtorEq, reduceIte, reduceDIte, if_pos rfl, Int.reduceLT, Int.reduceLE, Int.reduceEq, Int.reduceNeg, Int.reduceAdd, Int.reduceSub, Int.reduceMul, Int.reduceToNat, opLen, callW, q8, p8, p7, p6, p5, p4, p3, p2, p1, gq]
  refine .of (len_hv H.hx.toV) ?_
  simp only [go_sem, Nat.reducePow, Nat.reduceDiv, Nat.reduceMod, Nat.reduceAdd, Nat.reduceSub, Nat.reduceMul, Nat.reduceLeDiff, Nat.reduceLT, Nat.reduceEqDiff, reduceCtorEq, reduceIte, reduceDIte, if_pos rfl, Int.reduceLT, Int.reduceLE, Int.reduceEq, Int.reduceNeg, Int.reduceAdd, Int.reduceSub, Int.reduceMul, Int.reduceToNat, opLen]

theorem QAt.change {σ σ' : St} {b : QB} {Q : QV} (H : QAt σ b Q) {flow : Int} {x x' : FlowV} {A' : List Nat} {P' : Int → Option (Int × Int)} {np' : Nat} {L' : List Item} {t' : Int} (hF : Q.F flow = some x) (hblk : x'.blk = x.blk)
    (hx' : HX σ' b.h b.m A' L' t') (hA : ∀ c ∈ A', c ∈ b.A ∨ σ.next ≤ c)
    (kc : ∀ c, c < σ.next → ¬ x.blk = c → ¬ b.pm = c → c ∉ b.h :: b.m :: b.A → σ'.get c = σ.get c) (nx : σ.next ≤ σ'.next)
    (kx : σ'.get x.blk = some (.cells (x'.cells flow) false)) (mp' : MapAt σ' b.pm (fun k => (P' k).map (packOf k)) np') :
    QAt σ' { b with A := A' } { Q with F := updF Q.F flow (some x'), P := P', np := np', L := L', t := t' } := by
  have ne := H.ne
  have lt := H.lt
  obtain ⟨gx, hxl, hxc⟩ := H.fl flow x hF
  have inh : ∀ c ∈ b.h :: b.m :: b.A, c ∈ b.core := fun c hc => by simp only [QB.core, List.mem_cons] at hc ⊢; rcases hc with h | h | h <;> simp [h]
  have xq : ¬ x.blk = b.q := fun e => hxc (by simp [QB.core, e])
  have xf : ¬ x.blk = b.fm := fun e => hxc (by simp [QB.core, e])
  have nq : b.q ∉ b.h :: b.m :: b.A := fun hm => by
    simp only [List.mem_cons] at hm
    rcases hm with h | h | h
    · exact ne.q_h h
    · exact ne.q_m h
    · exact (ne.A _ h).1 rfl
  have nf : b.fm ∉ b.h :: b.m :: b.A := fun hm => by
    simp only [List.mem_cons] at hm
    rcases hm with h | h | h
    · exact ne.fm_h h
    · exact ne.fm_m h
    · exact (ne.A _ h).2.1 rfl
  have newcore : ∀ c, c ∈ ({ b with A := A' } : QB).core → c ∈ b.core ∨ σ.next ≤ c := fun c hc => by
    simp only [QB.core, List.mem_cons] at hc ⊢
    rcases hc with h | h | h | h | h | h
    · simp [h]
    · simp [h]
    · simp [h]
    · simp [h]
    · simp [h]
    · rcases hA c h with h | h
      · simp [h]
      · exact .inr h
  exact { gq := (kc _ (lt _ (by simp [QB.core])) xq ne.q_pm.symm nq).trans H.gq
          hx := hx'
          mf := by
            obtain ⟨es, ck, gf, a, f, g⟩ := H.mf
            refine ⟨es, ck, (kc _ (lt _ (by simp [QB.core])) xf ne.fm_pm.symm nf).trans gf, a, fun k => ?_, g⟩
            rw [f]
            show (Q.F k).map ptrOf = (updF Q.F flow _ k).map ptrOf
            by_cases e : k = flow
            · subst e; rw [updF_same, hF]; simp only [Option.map, ptrOf, hblk]
            · rw [updF_other _ _ e]
          mp := mp'
          fl := fun k y hy => by
            have h1 : updF Q.F flow _ k = some y := hy
            clear hy
            by_cases e : k = flow
            · subst e
              rw [updF_same] at h1
              cases h1
              rw [hblk]
              refine ⟨kx, by omega, fun hm => ?_⟩
              rcases newcore _ hm with h | h
              · exact hxc h
              · omega
            · rw [updF_other _ _ e] at h1
              obtain ⟨a1, a2, a3⟩ := H.fl k y h1
              refine ⟨(kc _ a2 (fun e' => e (H.inj _ _ _ _ h1 hF e'.symm)) (fun e' => a3 (by simp [QB.core, e'])) (fun hm => a3 (inh _ hm))).trans a1, by omega, fun hm => ?_⟩
              rcases newcore _ hm with h | h
              · exact a3 h
              · omega
          inj := fun k k' y y' hy hy' hb => by
            have h1 : updF Q.F flow _ k = some y := hy
            have h2 : updF Q.F flow _ k' = some y' := hy'
            clear hy hy'
            by_cases e : k = flow <;> by_cases e' : k' = flow
            · rw [e, e']
            · rw [e, updF_same] at h1
              rw [updF_other _ _ e'] at h2
              cases h1
              rw [e]
              exact H.inj _ _ _ _ hF h2 (hblk.symm.trans hb)
            · rw [e', updF_same] at h2
              rw [updF_other _ _ e] at h1
              cases h2
              rw [e']
              exact H.inj _ _ _ _ h1 hF (hb.trans hblk)
            · rw [updF_other _ _ e] at h1
              rw [updF_other _ _ e'] at h2
              exact H.inj k k' y y' h1 h2 hb
          nodup := ne.core (n := σ.next) hA lt hx'.nodup
          lt := fun c hc => by
            have h3 := hx'.lt
            simp only [QB.core, List.mem_cons] at hc
            rcases hc with h | h | h | h | h | h
            · have := lt b.q (by simp [QB.core]); omega
            · have := lt b.fm (by simp [QB.core]); omega
            · have := lt b.pm (by simp [QB.core]); omega
            · exact h3 c (by simp [h])
            · exact h3 c (by simp [h])
            · exact h3 c (by simp [h]) }

def TakeR (σ : St) (b : QB) (Q : QV) (id flow size : Int) (x : FlowV) (σ' : St) (l : Log) : Prop :=
  (∀ c ∈ l, Foot b Q c ∨ σ.next ≤ c) ∧ QAt σ' b { Q with F := updF Q.F flow (some { x with bytes := x.bytes - size }), P := updF Q.P id none, np := Q.np - 1, L := outL Q.L 0 }

set_option maxRecDepth 20000 in
theorem qtake_call {σ : St} {b : QB} {Q : QV} (H : QAt σ b Q) {y : Item} (hy : Q.L[0]? = some y) {flow size : Int} (hP : Q.P y.id = some (flow, size)) {x : FlowV} (hF : Q.F flow = some x) (hsz : 0 ≤ size ∧ size ≤ 2000) (hb : -100000000 ≤ x.bytes ∧ x.bytes ≤ 100000000) :
    callX Try.prog 26 [.pointer (some ⟨b.q, 0, none⟩)] σ fun e σ' l =>
      e = .ret (.tuple ⟨[.agg ⟨[.int .i64 y.id, .int .i64 flow, .int .i64 size]⟩, .agg ⟨[.int .i64 y.n, .int .i64 y.d]⟩, .bool true]⟩) ∧ TakeR σ b Q y.id flow size x σ' l := by
  have gq := H.gq
  obtain ⟨es, ck, gf, hki, hlk, hlen⟩ := H.mf
  obtain ⟨ep, cp, gp, hkp, hlp, hlenp⟩ := H.mp
  obtain ⟨gx, hxl, hxc⟩ := H.fl flow x hF
  have hq : b.q < σ.next := H.lt _ (by simp [QB.core])
  have hfm : b.fm < σ.next := H.lt _ (by simp [QB.core])
  have hpm : b.pm < σ.next := H.lt _ (by simp [QB.core])
  obtain ⟨j, e, hfind, hev, _, _⟩ := findV_some und2' (i := 0) (v := ptrOf x) hki ((hlk flow).trans (by show (Q.F flow).map ptrOf = _; rw [hF]; rfl))
  obtain ⟨jp, ep', hfindp, hevp, hjp, hkeyp⟩ := findV_some und2' (i := 0) (v := packOf y.id (flow, size)) hkp ((hlp y.id).trans (by show (Q.P y.id).map (packOf y.id) = _; rw [hP]; rfl))
  have w2 : IntKind.i64.wrap (x.bytes - size) = x.bytes - size := wrapI (by omega) (by omega)
  have l0 : ((Q.L.length : Int) == 0) = false := by
    have := (List.getElem?_eq_some_iff.1 hy).1
    rw [beq_eq_false_iff_ne]; omega
  have ne := H.ne
  have hx := H.hx
  have hA := H.hx.lt
  have n1 : ¬ x.blk = b.q := fun e' => hxc (by simp [QB.core, e'])
  have n2 : ¬ x.blk = b.pm := fun e' => hxc (by simp [QB.core, e'])
  have n3 : ¬ b.q = b.pm := ne.q_pm
  have n4 : ¬ b.pm = b.q := ne.q_pm.symm
  have n5 : ¬ b.q = x.blk := fun e' => n1 e'.symm
  have n6 : ¬ b.pm = x.blk := fun e' => n2 e'.symm
  have n7 : ¬ b.pm = b.fm := ne.fm_pm.symm
  have n8 : ¬ x.blk = b.fm := fun e' => hxc (by simp [QB.core, e'])
  simp only [FlowV.cells] at gx
  have inh : ∀ c ∈ b.h :: b.m :: b.A, c ∈ b.core := fun c hc => by simp only [QB.core, List.mem_cons] at hc ⊢; rcases hc with h | h | h <;> simp [h]
  have nq : b.q ∉ b.h :: b.m :: b.A := fun hm => by
    simp only [List.mem_cons] at hm
    rcases hm with h | h | h
    · exact ne.q_h h
    · exact ne.q_m h
    · exact (ne.A _ h).1 rfl
  have nf : b.fm ∉ b.h :: b.m :: b.A := fun hm => by
    simp only [List.mem_cons] at hm
    rcases hm with h | h | h
    · exact ne.fm_h h
    · exact ne.fm_m h
    · exact (ne.A _ h).2.1 rfl
  have np : b.pm ∉ b.h :: b.m :: b.A := fun hm => by
    simp only [List.mem_cons] at hm
    rcases hm with h | h | h
    · exact ne.pm_h h
    · exact ne.pm_m h
    · exact (ne.A _ h).2.2.1 rfl
  refine enter (p := q8) Try.func26 rfl stat26 ?_
  simp only [go_sem, Nat.reducePow, Nat.reduceDiv, Nat.reduceMod, Nat.reduceAdd, Nat.reduceSub, Nat.reduceMul, Nat.reduceLeDiff, Nat.reduceLT, Nat.reduceEqDiff, reduceCtorEq, reduceIte, reduceDIte, if_pos rfl, Int.reduceLT, Int.reduceLE, Int.reduceEq, Int.reduceNeg, Int.reduceAdd, Int.reduceSub, Int.reduceMul, Int.reduceToNat, opLen, callW, q8, p8, p7, p6, p5, p4, p3, p2, p1, Try.f26]
  refine .of (qnone_call (q := b.q) (by simp only [go_sem, Nat.reducePow, Nat.reduceDiv, Nat.reduceMod, Nat.reduceAdd, Nat.reduceSub, Nat.reduceMul, Nat.reduceLeDiff, Nat.reduceLT, Nat.reduceEqDiff, reduceCtorEq, reduceIte, reduceDIte, if_pos rfl, Int.reduceLT, Int.reduceLE, Int.reduceEq, Int.reduceNeg, Int.reduceAdd, Int.reduceSub, Int.reduceMul, Int.reduceToNat, opLen, hq, gq]; rfl)) ?_
  simp only [go_sem, Nat.reducePow, Nat.reduceDiv, Nat.reduceMod, Nat.reduceAdd, Nat.reduceSub, Nat.reduceMul, Nat.reduceLeDiff, Nat.reduceLT, Nat.reduceEqDiff, reduceCtorEq, reduceIte, reduceDIte, if_pos rfl, Int.reduceLT, Int.reduceLE, Int.reduceEq, Int.reduceNeg, Int.reduceAdd, Int.reduceSub, Int.reduceMul, Int.reduceToNat, opLen, callW, q8, p8, p7, p6, p5, p4, p3, p2, p1]
  refine .of (qlen_call (H.keep ?_ ?_)) ?_
  · simp only [go_sem, Nat.reducePow, Nat.reduceDiv, Nat.reduceMod, Nat.reduceAdd, Nat.reduceSub, Nat.reduceMul, Nat.reduceLeDiff, Nat.reduceLT, Nat.reduceEqDiff, reduceCtorEq, reduceIte, reduceDIte, if_pos rfl, Int.reduceLT, Int.reduceLE, Int.reduceEq, Int.reduceNeg, Int.reduceAdd, Int.reduceSub, Int.reduceMul, Int.reduceToNat, opLen]
  · intro c hc
    have : c < σ.next := by
      rcases hc with hc | ⟨k, z, hz, rfl⟩
      · exact H.lt c hc
      · exact (H.fl k z hz).2.1
    simp only [go_sem, Nat.reducePow, Nat.reduceDiv, Nat.reduceMod, Nat.reduceAdd, Nat.reduceSub, Nat.reduceMul, Nat.reduceLeDiff, Nat.reduceLT, Nat.reduceEqDiff, reduceCtorEq, reduceIte, reduceDIte, if_pos rfl, Int.reduceLT, Int.reduceLE, Int.reduceEq, Int.reduceNeg, Int.reduceAdd, Int.reduceSub, Int.reduceMul, Int.reduceToNat, opLen, this]
  simp only [go_sem, Nat.reducePow, Nat.reduceDiv, Nat.reduceMod, Nat.reduceAdd, Nat.reduceSub, Nat.reduceMul, Nat.reduceLeDiff, Nat.reduceLT, Nat.reduceEqDiff, reduceCtorEq, reduceIte, reduceDIte, if_pos rfl, Int.reduceLT, Int.reduceLE, Int.reduceEq, Int.reduceNeg, Int.reduceAdd, Int.reduceSub, Int.reduceMul, Int.reduceToNat, opLen, callW, q8, p8, p7, p6, p5, p4, p3, p2, p1, l0, gq, hq]
  refine callX.ret (HX.take (hx.keep ?_ ?_) hy) ?_
  · simp only [go_sem, Nat.reducePow, Nat.reduceDiv, Nat.reduceMod, Nat.reduceAdd, Nat.reduceSub, Nat.reduceMul, Nat.reduceLeDiff, Nat.reduceLT, Nat.reduceEqDiff, reduceCtorEq, reduceIte, reduceDIte, if_pos rfl, Int.reduceLT, Int.reduceLE, Int.reduceEq, Int.reduceNeg, Int.reduceAdd, Int.reduceSub, Int.reduceMul, Int.reduceToNat, opLen]
  · intro c hc
    have := hA c hc
    simp only [go_sem, Nat.reducePow, Nat.reduceDiv, Nat.reduceMod, Nat.reduceAdd, Nat.reduceSub, Nat.reduceMul, Nat.reduceLeDiff, Nat.reduceLT, Nat.reduceEqDiff, reduceCtorEq, reduceIte, reduceDIte, if_pos rfl, Int.reduceLT, Int.reduceLE, Int.reduceEq, Int.reduceNeg, Int.reduceAdd, Int.reduceSub, Int.reduceMul, Int.reduceToNat, opLen, this]
  intro σ' l hl ⟨hlg, hx'⟩
  have nx := hl.1
  have kp := keep_log hl hlg
  have hl2 : ∀ c ∈ l, c ∈ b.h :: b.m :: b.A ∨ σ.next + 2 ≤ c := fun c hc => by
    rcases hlg c hc with h | h
    · exact .inl h
    · simp only [go_sem, Nat.reducePow, Nat.reduceDiv, Nat.reduceMod, Nat.reduceAdd, Nat.reduceSub, Nat.reduceMul, Nat.reduceLeDiff, Nat.reduceLT, Nat.reduceEqDiff, reduceCtorEq, reduceIte, reduceDIte, if_pos rfl, Int.reduceLT, Int.reduceLE, Int.reduceEq, Int.reduceNeg, Int.reduceAdd, Int.reduceSub, Int.reduceMul, Int.reduceToNat, opLen] at h
      exact .inr h
  have k0 := kp σ.next (by simp only [go_sem, Nat.reducePow, Nat.reduceDiv, Nat.reduceMod, Nat.reduceAdd, Nat.reduceSub, Nat.reduceMul, Nat.reduceLeDiff, Nat.reduceLT, Nat.reduceEqDiff, reduceCtorEq, reduceIte, reduceDIte, if_pos rfl, Int.reduceLT, Int.reduceLE, Int.reduceEq, Int.reduceNeg, Int.reduceAdd, Int.reduceSub, Int.reduceMul, Int.reduceToNat, opLen]) fun hm => by have := hA _ hm; omega
  have k1 := kp (σ.next + 1) (by simp only [go_sem, Nat.reducePow, Nat.reduceDiv, Nat.reduceMod, Nat.reduceAdd, Nat.reduceSub, Nat.reduceMul, Nat.reduceLeDiff, Nat.reduceLT, Nat.reduceEqDiff, reduceCtorEq, reduceIte, reduceDIte, if_pos rfl, Int.reduceLT, Int.reduceLE, Int.reduceEq, Int.reduceNeg, Int.reduceAdd, Int.reduceSub, Int.reduceMul, Int.reduceToNat, opLen]) fun hm => by have := hA _ hm; omega
  have kc : ∀ c, c < σ.next → c ∉ b.h :: b.m :: b.A → σ'.get c = σ.get c := fun c c1 c4 => by
    have := kp c (by simp only [go_sem, Nat.reducePow, Nat.reduceDiv, Nat.reduceMod, Nat.reduceAdd, Nat.reduceSub, Nat.reduceMul, Nat.reduceLeDiff, Nat.reduceLT, Nat.reduceEqDiff, reduceCtorEq, reduceIte, reduceDIte, if_pos rfl, Int.reduceLT, Int.reduceLE, Int.reduceEq, Int.reduceNeg, Int.reduceAdd, Int.reduceSub, Int.reduceMul, Int.reduceToNat, opLen, c1]) c4
    simp only [go_sem, Nat.reducePow, Nat.reduceDiv, Nat.reduceMod, Nat.reduceAdd, Nat.reduceSub, Nat.reduceMul, Nat.reduceLeDiff, Nat.reduceLT, Nat.reduceEqDiff, reduceCtorEq, reduceIte, reduceDIte, if_pos rfl, Int.reduceLT, Int.reduceLE, Int.reduceEq, Int.reduceNeg, Int.reduceAdd, Int.reduceSub, Int.reduceMul, Int.reduceToNat, opLen, c1] at this
    exact this
  have gq' := (kc b.q hq nq).trans gq
  have gf' := (kc b.fm hfm nf).trans gf
  have gp' := (kc b.pm hpm np).trans gp
  have gx' := (kc x.blk hxl fun hm => hxc (inh _ hm)).trans gx
  simp only [go_sem, Nat.reducePow, Nat.reduceDiv, Nat.reduceMod, Nat.reduceAdd, Nat.reduceSub, Nat.reduceMul, Nat.reduceLeDiff, Nat.reduceLT, Nat.reduceEqDiff, reduceCtorEq, reduceIte, reduceDIte, if_pos rfl, Int.reduceLT, Int.reduceLE, Int.reduceEq, Int.reduceNeg, Int.reduceAdd, Int.reduceSub, Int.reduceMul, Int.reduceToNat, opLen] at nx k0 k1
  clear kp hl hlg
  have hq' : b.q < σ'.next := by omega
  have hfm' : b.fm < σ'.next := by omega
  have hpm' : b.pm < σ'.next := by omega
  have hxl' : x.blk < σ'.next := by omega
  have h0' : σ.next < σ'.next := by omega
  have h1' : σ.next + 1 < σ'.next := by omega
  simp only [go_sem, Nat.reducePow, Nat.reduceDiv, Nat.reduceMod, Nat.reduceAdd, Nat.reduceSub, Nat.reduceMul, Nat.reduceLeDiff, Nat.reduceLT, Nat.reduceEqDiff, reduceCtorEq, reduceIte, reduceDIte, if_pos rfl, Int.reduceLT, Int.reduceLE, Int.reduceEq, Int.reduceNeg, Int.reduceAdd, Int.reduceSub, Int.reduceMul, Int.reduceToNat, opLen, callW, q8, p8, p7, p6, p5, p4, p3, p2, p1, packOf, ptrOf, k0, k1, gq', gf', gp', gx', hq', hfm', hpm', hxl', h0', h1', hfind, hev, hfindp, hevp, und2', w2, n1, n2, n3, n4, n5, n6, n7, n8, hq, hfm, hpm, hxl]
  obtain ⟨kd1, kd2⟩ := delV_KI hkp hjp hkeyp
  have kd3 := delV_length hjp
  have fx : Foot b Q x.blk := .inr ⟨flow, x, hF, rfl⟩
  refine ⟨fun c hc => ?_, H.change (x' := { x with bytes := x.bytes - size }) (A' := b.A) hF rfl ?_ (fun c hc => .inl hc) ?_ ?_ ?_ ?_⟩
  · simp only [List.mem_cons, List.mem_append, List.not_mem_nil, or_false] at hc
    rcases hc with (h | h) | h | h | h | h | h
    · rcases hl2 c h with h | h
      · exact .inl (.inl (inh c h))
      · exact .inr (by omega)
    · exact .inr (by omega)
    · exact .inr (by omega)
    · exact .inl (.inl (by simp [QB.core, h]))
    · exact .inl (h ▸ fx)
    · exact .inr (by omega)
    · exact .inr (by omega)
  · refine hx'.keep (by simp only [go_sem, Nat.reducePow, Nat.reduceDiv, Nat.reduceMod, Nat.reduceAdd, Nat.reduceSub, Nat.reduceMul, Nat.reduceLeDiff, Nat.reduceLT, Nat.reduceEqDiff, reduceCtorEq, reduceIte, reduceDIte, if_pos rfl, Int.reduceLT, Int.reduceLE, Int.reduceEq, Int.reduceNeg, Int.reduceAdd, Int.reduceSub, Int.reduceMul, Int.reduceToNat, opLen]) fun c hc => ?_
    have c1 := hA c hc
    have c2 : c < σ'.next := by omega
    have c3 : ¬ b.pm = c := fun e' => np (e' ▸ hc)
    have c4 : ¬ x.blk = c := fun e' => hxc (e' ▸ inh c hc)
    simp only [go_sem, Nat.reducePow, Nat.reduceDiv, Nat.reduceMod, Nat.reduceAdd, Nat.reduceSub, Nat.reduceMul, Nat.reduceLeDiff, Nat.reduceLT, Nat.reduceEqDiff, reduceCtorEq, reduceIte, reduceDIte, if_pos rfl, Int.reduceLT, Int.reduceLE, Int.reduceEq, Int.reduceNeg, Int.reduceAdd, Int.reduceSub, Int.reduceMul, Int.reduceToNat, opLen, c1, c2, c3, c4]
  · intro c c1 c2 c3 c4
    have c5 : c < σ'.next := by omega
    simp only [go_sem, Nat.reducePow, Nat.reduceDiv, Nat.reduceMod, Nat.reduceAdd, Nat.reduceSub, Nat.reduceMul, Nat.reduceLeDiff, Nat.reduceLT, Nat.reduceEqDiff, reduceCtorEq, reduceIte, reduceDIte, if_pos rfl, Int.reduceLT, Int.reduceLE, Int.reduceEq, Int.reduceNeg, Int.reduceAdd, Int.reduceSub, Int.reduceMul, Int.reduceToNat, opLen, c1, c2, c3, c5]
    exact kc c c1 c4
  · simp only [go_sem, Nat.reducePow, Nat.reduceDiv, Nat.reduceMod, Nat.reduceAdd, Nat.reduceSub, Nat.reduceMul, Nat.reduceLeDiff, Nat.reduceLT, Nat.reduceEqDiff, reduceCtorEq, reduceIte, reduceDIte, if_pos rfl, Int.reduceLT, Int.reduceLE, Int.reduceEq, Int.reduceNeg, Int.reduceAdd, Int.reduceSub, Int.reduceMul, Int.reduceToNat, opLen]; omega
  · simp only [go_sem, Nat.reducePow, Nat.reduceDiv, Nat.reduceMod, Nat.reduceAdd, Nat.reduceSub, Nat.reduceMul, Nat.reduceLeDiff, Nat.reduceLT, Nat.reduceEqDiff, reduceCtorEq, reduceIte, reduceDIte, if_pos rfl, Int.reduceLT, Int.reduceLE, Int.reduceEq, Int.reduceNeg, Int.reduceAdd, Int.reduceSub, Int.reduceMul, Int.reduceToNat, opLen, FlowV.cells, hxl, hxl', n1, n2]
  · refine ⟨delE ep jp, cp, by simp only [go_sem, Nat.reducePow, Nat.reduceDiv, Nat.reduceMod, Nat.reduceAdd, Nat.reduceSub, Nat.reduceMul, Nat.reduceLeDiff, Nat.reduceLT, Nat.reduceEqDiff, reduceCtorEq, reduceIte, reduceDIte, if_pos rfl, Int.reduceLT, Int.reduceLE, Int.reduceEq, Int.reduceNeg, Int.reduceAdd, Int.reduceSub, Int.reduceMul, Int.reduceToNat, opLen, hpm, hpm', n2], kd1, fun k => ?_, by omega⟩
    rw [kd2]
    show _ = (updF Q.P y.id none k).map (packOf k)
    by_cases e' : k = y.id
    · subst e'; rw [if_pos rfl, updF_same]; rfl
    · rw [if_neg e', updF_other _ _ e', hlp]
end Go.Ab

set_option linter.unusedSimpArgs false
set_option linter.unusedVariables false
namespace Go.Ab
open Go.Proofs

set_option maxHeartbeats 1000000 in
set_option maxRecDepth 20000 in
theorem qtake_empty {σ : St} {b : QB} {Q : QV} (H : QAt σ b Q) (hL : Q.L = []) :
    callX Try.prog 26 [.pointer (some ⟨b.q, 0, none⟩)] σ fun e σ' l => e = .ret (.tuple ⟨[.agg ⟨[.int .i64 0, .int .i64 0, .int .i64 0]⟩, .agg ⟨[.int .i64 0, .int .i64 0]⟩, .bool false]⟩) ∧ ∀ c ∈ l, σ.next ≤ c := by
  have gq := H.gq
  have hq : b.q < σ.next := H.lt _ (by simp [QB.core])
  refine enter (p := q8) Try.func26 rfl stat26 ?_
  simp only [go_sem, Nat.reducePow, Nat.reduceDiv, Nat.reduceMod, Nat.reduceAdd, Nat.reduceSub, Nat.reduceMul, Nat.reduceLeDiff, Nat.reduceLT, Nat.reduceEqDiff, reduceCtorEq, reduceIte, reduceDIte, if_pos rfl, Int.reduceLT, Int.reduceLE, Int.reduceEq, Int.reduceNeg, Int.reduceAdd, Int.reduceSub, Int.reduceMul, Int.reduceToNat, opLen, callW, q8, p8, p7, p6, p5, p4, p3, p2, p1, Try.f26]
  refine .of (qnone_call (q := b.q) (by simp only [go_sem, Nat.reducePow, Nat.reduceDiv, Nat.reduceMod, Nat.reduceAdd, Nat.reduceSub, Nat.reduceMul, Nat.reduceLeDiff, Nat.reduceLT, Nat.reduceEqDiff, reduceCtorEq, reduceIte, reduceDIte, if_pos rfl, Int.reduceLT, Int.reduceLE, Int.reduceEq, Int.reduceNeg, Int.reduceAdd, Int.reduceSub, Int.reduceMul, Int.reduceToNat, opLen, hq, gq]; rfl)) ?_
  simp only [go_sem, Nat.reducePow, Nat.reduceDiv, Nat.reduceMod, Nat.reduceAdd, Nat.reduceSub, Nat.reduceMul, Nat.reduceLeDiff, Nat.reduceLT, Nat.reduceEqDiff, reduceCtorEq, reduceIte, reduceDIte, if_pos rfl, Int.reduceLT, Int.reduceLE, Int.reduceEq, Int.reduceNeg, Int.reduceAdd, Int.reduceSub, Int.reduceMul, Int.reduceToNat, opLen, callW, q8, p8, p7, p6, p5, p4, p3, p2, p1]
  refine .of (qlen_call (H.keep ?_ ?_)) ?_
  · simp only [go_sem, Nat.reducePow, Nat.reduceDiv, Nat.reduceMod, Nat.reduceAdd, Nat.reduceSub, Nat.reduceMul, Nat.reduceLeDiff, Nat.reduceLT, Nat.reduceEqDiff, reduceCtorEq, reduceIte, reduceDIte, if_pos rfl, Int.reduceLT, Int.reduceLE, Int.reduceEq, Int.reduceNeg, Int.reduceAdd, Int.reduceSub, Int.reduceMul, Int.reduceToNat, opLen]
  · intro c hc
    have : c < σ.next := by
      rcases hc with hc | ⟨k, z, hz, rfl⟩
      · exact H.lt c hc
      · exact (H.fl k z hz).2.1
    simp only [go_sem, Nat.reducePow, Nat.reduceDiv, Nat.reduceMod, Nat.reduceAdd, Nat.reduceSub, Nat.reduceMul, Nat.reduceLeDiff, Nat.reduceLT, Nat.reduceEqDiff, reduceCtorEq, reduceIte, reduceDIte, if_pos rfl, Int.reduceLT, Int.reduceLE, Int.reduceEq, Int.reduceNeg, Int.reduceAdd, Int.reduceSub, Int.reduceMul, Int.reduceToNat, opLen, this]
  have l0 : ((([] : List Item).length : Int) == 0) = true := rfl
  rw [hL]
  simp only [go_sem, Nat.reducePow, Nat.reduceDiv, Nat.reduceMod, Nat.reduceAdd, Nat.reduceSub, Nat.reduceMul, Nat.reduceLeDiff, Nat.reduceLT, Nat.reduceEqDiff, reduceCtorEq, reduceIte, reduceDIte, if_pos rfl, Int.reduceLT, Int.reduceLE, Int.reduceEq, Int.reduceNeg, Int.reduceAdd, Int.reduceSub, Int.reduceMul, Int.reduceToNat, opLen, callW, q8, p8, p7, p6, p5, p4, p3, p2, p1, zerosN, l0, undef]

end Go.Ab

set_option linter.unusedSimpArgs false
set_option linter.unusedVariables false
namespace Go.Ab
open Go.Proofs

theorem known12_call (σ : St) : DCall Try.prog 12 [] σ (.ret (.bool true)) σ [] := whole_call (n := 300) (d := 30) (by kernel_rfl) rfl rfl σ
theorem known22_call (σ : St) : DCall Try.prog 22 [] σ (.ret (.bool true)) σ [] := whole_call (n := 300) (d := 30) (by kernel_rfl) rfl rfl σ
theorem known33_call (σ : St) : DCall Try.prog 33 [] σ (.ret (.bool true)) σ [] := whole_call (n := 300) (d := 30) (by kernel_rfl) rfl rfl σ

end Go.Ab

set_option linter.unusedSimpArgs false
set_option linter.unusedVariables false
namespace Go.Ab
open Go.Proofs

attribute [go_sem] callW q8 p8 p7 p6 p5 p4 p3 p2 p1 lget_put lgetq_put List.length_set Try.underlying2 info2 Try.t2 Try.underlying3 info3 Try.t3 Try.underlying4 info4 Try.t4 Try.underlying5 info5 Try.t5 Try.underlying23 info23 Try.t23 Try.underlying24 info24 Try.t24 Try.underlying28 info28 Try.t28 Try.underlying50 info50 Try.t50 Try.underlying53 info53 Try.t53 Try.underlying54 info54 Try.t54 Try.underlying57 info57 Try.t57 Try.underlying59 info59 Try.t59 Try.underlying73 info73 Try.t73 Try.underlying74 info74 Try.t74 Try.underlying75 info75 Try.t75 Try.underlying80 info80 Try.t80 Try.underlying81 info81 Try.t81 Try.underlying83 info83 Try.t83 Try.underlying86 info86 Try.t86 Try.underlying87 info87 Try.t87 Try.underlying88 info88 Try.t88 Try.underlying127 info127 Try.t127 Try.underlying132 info132 Try.t132 Try.underlying133 info133 Try.t133 Try.underlying135 info135 Try.t135 Try.underlying136 info136 Try.t136 Try.underlying137 info137 Try.t137 Try.underlying139 info139 Try.t139 Try.underlying140 info140 Try.t140 Try.underlying141 info141 Try.t141 Try.underlying142 info142 Try.t142 Try.underlying168 info168 Try.t168 Try.underlying169 info169 Try.t169 Try.underlying170 info170 Try.t170 Try.underlying171 info171 Try.t171 Try.underlying172 info172 Try.t172 Try.underlying175 info175 Try.t175 Try.underlying176 info176 Try.t176 Try.underlying201 info201 Try.t201 Try.underlying203 info203 Try.t203 Try.underlying204 info204 Try.t204

end Go.Ab

set_option linter.unusedSimpArgs false
set_option linter.unusedVariables false
namespace Go.Ab
open Go.Proofs

def Pk.val (x : Pk) : Value := .agg ⟨x.cells⟩

/-- What a line holds. -/
structure LV where
  lp : Int
  lb : Int
  room : Int
  L : List Pk

/-- A line in the abstract heap: its block, its ring's block. -/
structure LAt (σ : St) (l r : Nat) (V : LV) : Prop where
  core : ∃ (R : List Pk) (f : Nat), σ.get l = some (.cells [.int .i64 V.lp, .int .i64 V.lb, .int .i64 V.room, .slice (some ⟨r, 0, some 0⟩) R.length R.length, .int .i64 f, .int .i64 V.L.length, .bool true] false) ∧ σ.get r = some (.cells (cellsP R) false) ∧ Ring R f V.L ∧ R.length < 1000000
  ne : l ≠ r
  lt : l < σ.next ∧ r < σ.next

theorem LAt.keep {σ σ' : St} {l r : Nat} {V : LV} (h : LAt σ l r V) (hn : σ.next ≤ σ'.next) (hl : σ'.get l = σ.get l) (hr : σ'.get r = σ.get r) : LAt σ' l r V := by
  obtain ⟨R, f, a, b, c⟩ := h.core
  have := h.lt
  exact ⟨⟨R, f, hl.trans a, hr.trans b, c⟩, h.ne, by omega⟩

theorem within98_call (n a b : Int) (σ : St) : DCall Try.prog 98 [.int .i64 n, .int .i64 a, .int .i64 b] σ (.ret (.bool (decide (a ≤ n) && decide (n ≤ b)))) σ [] := by
  refine pure_call (enter (p := q8) Try.func98 rfl stat98 ?_) rfl
  by_cases h : a ≤ n
  · simp only [go_sem, Nat.reducePow, Nat.reduceDiv, Nat.reduceMod, Nat.reduceAdd, Nat.reduceSub, Nat.reduceMul, Nat.reduceLeDiff, Nat.reduceLT, Nat.reduceEqDiff, reduceCtorEq, reduceIte, reduceDIte, if_pos rfl, Int.reduceLT, Int.reduceLE, Int.reduceEq, Int.reduceNeg, Int.reduceAdd, Int.reduceSub, Int.reduceMul, Int.reduceToNat, opLen, Try.f98, h]
  · simp only [go_sem, Nat.reducePow, Nat.reduceDiv, Nat.reduceMod, Nat.reduceAdd, Nat.reduceSub, Nat.reduceMul, Nat.reduceLeDiff, Nat.reduceLT, Nat.reduceEqDiff, reduceCtorEq, reduceIte, reduceDIte, if_pos rfl, Int.reduceLT, Int.reduceLE, Int.reduceEq, Int.reduceNeg, Int.reduceAdd, Int.reduceSub, Int.reduceMul, Int.reduceToNat, opLen, undef, Try.f98, h]

theorem lnone_call {σ : St} {l : Nat} {c0 c1 c2 c3 c4 c5 : Value} (h : σ.get l = some (.cells [c0, c1, c2, c3, c4, c5, .bool true] false)) : DCall Try.prog 99 [.pointer (some ⟨l, 0, none⟩)] σ (.ret (.bool false)) σ [] := by
  refine pure_call (enter (p := q8) Try.func99 rfl stat99 ?_) rfl
  simp only [go_sem, Nat.reducePow, Nat.reduceDiv, Nat.reduceMod, Nat.reduceAdd, Nat.reduceSub, Nat.reduceMul, Nat.reduceLeDiff, Nat.reduceLT, Nat.reduceEqDiff, reduceCtorEq, reduceIte, reduceDIte, if_pos rfl, Int.reduceLT, Int.reduceLE, Int.reduceEq, Int.reduceNeg, Int.reduceAdd, Int.reduceSub, Int.reduceMul, Int.reduceToNat, opLen, Try.f99, h]

theorem tmod_nat (a b : Nat) : ((a : Int) + (0 : Int)).tmod (b : Int) = ((a % b : Nat) : Int) := by
  rw [Int.add_zero]; rfl

theorem at_call {σ : St} {l r n f k : Nat} {c0 c1 c2 c5 c6 : Value} (h : σ.get l = some (.cells [c0, c1, c2, .slice (some ⟨r, 0, some 0⟩) n n, .int .i64 f, c5, c6] false)) (hl : l < σ.next) (hn : 0 < n ∧ n < 1000000) (hf : f < n) (hk : k < 1000000) :
    DCall Try.prog 104 [.pointer (some ⟨l, 0, none⟩), .int .i64 k] σ (.ret (.int .i64 ((f + k) % n : Nat))) σ [] := by
  have w1 : IntKind.i64.wrap ((f : Int) + (k : Int)) = ((f + k : Nat) : Int) := by
    have : (f : Int) + (k : Int) = ((f + k : Nat) : Int) := by omega
    rw [this]; exact wrapIN (by omega)
  have e1 : ¬ (n : Int) = 0 := by omega
  have e2 : ((f + k : Nat) : Int).tmod (n : Int) = (((f + k) % n : Nat) : Int) := rfl
  have e3 : (f + k) % n < n := Nat.mod_lt _ hn.1
  have w2 : IntKind.i64.wrap (((f + k) % n : Nat) : Int) = (((f + k) % n : Nat) : Int) := wrapIN (by omega)
  refine pure_call (enter (p := q8) Try.func104 rfl stat104 ?_) rfl
  simp only [go_sem, Nat.reducePow, Nat.reduceDiv, Nat.reduceMod, Nat.reduceAdd, Nat.reduceSub, Nat.reduceMul, Nat.reduceLeDiff, Nat.reduceLT, Nat.reduceEqDiff, reduceCtorEq, reduceIte, reduceDIte, if_pos rfl, Int.reduceLT, Int.reduceLE, Int.reduceEq, Int.reduceNeg, Int.reduceAdd, Int.reduceSub, Int.reduceMul, Int.reduceToNat, opLen, Try.f104, h, hl, w1, e1, e2, w2]

end Go.Ab

set_option linter.unusedSimpArgs false
set_option linter.unusedVariables false
namespace Go.Ab
open Go.Proofs

/-- A slice of packets that was put together by appends, in a block from lo on. -/
def PkS (lo : Nat) (σ : St) (v : Value) (L : List Pk) : Prop := (v = .slice none 0 0 ∧ L = []) ∨ ∃ a, v = .slice (some ⟨a, 0, some 5⟩) L.length L.length ∧ σ.get a = some (.cells (cellsP L) false) ∧ lo ≤ a ∧ a < σ.next

theorem PkS.keep {lo : Nat} {σ σ' : St} {v : Value} {L : List Pk} (h : PkS lo σ v L) (hn : σ.next ≤ σ'.next) (hg : ∀ a, lo ≤ a → a < σ.next → σ'.get a = σ.get a) : PkS lo σ' v L := by
  rcases h with h | ⟨a, h1, h2, h3, h4⟩
  · exact .inl h
  · exact .inr ⟨a, h1, (hg a h3 h4).trans h2, h3, by omega⟩

theorem und168 : (cP Try.prog).T.und 168 = some (.slice 54) := (cx_und 168).trans Try.underlying168
theorem inf54 : (cP Try.prog).T.info 54 = some Try.t54 := (cx_info 54).trans info54

theorem pk_first {σ : St} {b : Nat} {x : Pk} (hg : σ.get b = some (.cells x.cells false)) :
    opAppend (cP Try.prog).T σ 168 168 (.slice none 0 0) (.slice (some ⟨b, 0, some 0⟩) 1 1) = some (.new (.cells x.cells false) (.slice (some ⟨σ.next, 0, some 5⟩) 1 1) [b]) := by
  simp only [Pk.cells] at hg ⊢
  simp only [opAppend, und168, inf54, srcLen, Try.t54, srcCells, hg]
  simp [isSeqD, oneCells, plain, plainL, vcells]

theorem pk_more {σ : St} {a b : Nat} {L : List Pk} {x : Pk} (ha : σ.get a = some (.cells (cellsP L) false)) (hg : σ.get b = some (.cells x.cells false)) (sm : L.length ≤ 1000000) :
    opAppend (cP Try.prog).T σ 168 168 (.slice (some ⟨a, 0, some 5⟩) L.length L.length) (.slice (some ⟨b, 0, some 0⟩) 1 1) =
      some (.eff (.slice (some ⟨σ.next, 0, some 5⟩) (L.length + 1) (L.length + 1)) ((σ.new (.cells (cellsP (L ++ [x])) false)).put a none) [a]) := by
  have l3 : ¬ 4294967296 ≤ L.length := by omega
  have tk : (cellsP L).take (L.length * 3) = cellsP L := List.take_of_length_le (by rw [cellsP_length]; omega)
  have ap : cellsP (L ++ [x]) = cellsP L ++ x.cells := by rw [cellsP_append]; simp [cellsP]
  rw [ap]
  simp only [Pk.cells] at hg ⊢
  simp only [opAppend, und168, inf54, srcLen, Try.t54, srcCells, hg, ha]
  simp [isSeqD, oneCells, plain, plainL, vcells, l3, tk, cellsP_length]
  omega

noncomputable def allB : Code := loopOf (Try.f103.body.getD .skip)

structure FA (ts : List Value) (l c i : Nat) : Prop where
  size : ts.length = 31
  t0 : lget ts 0 = .pointer (some ⟨l, 0, none⟩)
  t3 : lget ts 3 = .pointer (some ⟨c, 0, none⟩)
  t4 : lget ts 4 = .int .i64 i

def IA (l r c : Nat) (V : LV) (m : Nat) (fr : Fr) (σ : St) : Prop :=
  ∃ ts v, ∃ i : Nat, fr = ⟨ts, []⟩ ∧ FA ts l c i ∧ m + i = V.L.length ∧ LAt σ l r V ∧ c < σ.next ∧ σ.get c = some (.cells [v] false) ∧ PkS (c + 1) σ v (V.L.take i)

def EA (c : Nat) (V : LV) (x : AX) (fr : Fr) (σ : St) : Prop :=
  x = .exit 0 ∧ ∃ ts v, fr = ⟨ts, []⟩ ∧ ts.length = 31 ∧ lget ts 3 = .pointer (some ⟨c, 0, none⟩) ∧ c < σ.next ∧ σ.get c = some (.cells [v] false) ∧ PkS (c + 1) σ v V.L

set_option maxHeartbeats 1600000 in
set_option maxRecDepth 20000 in
theorem all_loop {l r c : Nat} {V : LV} (hlc : l < c) (hrc : r < c) : ∀ m fr σ, IA l r c V m fr σ → loopX Try.prog false allB fr σ (endL (EA c V) fun x => c ≤ x) := by
  refine loop_ind q8 103 (by kernel_rfl) _ _ _ ?_
  rintro m fr σ ⟨ts, v, i, rfl, F, hmi, H, hc, gc, hv⟩
  have e0 := F.t0
  have e3 := F.t3
  have e4 := F.t4
  have el := F.size
  obtain ⟨R, f, gl, gr, hR, hRs⟩ := H.core
  have hl := H.lt.1
  have hr := H.lt.2
  have n1 : ¬ c = l := by omega
  have n2 : ¬ c = r := by omega
  have n3 : ¬ l = c := by omega
  have n4 : ¬ r = c := by omega
  by_cases hi : i < V.L.length
  · have c0 : (i : Int) < (V.L.length : Int) := by omega
    have hx : V.L[i]? = some V.L[i] := List.getElem?_eq_getElem hi
    generalize V.L[i] = x at hx
    have hidx := hR.at' i x hx
    have hlt : (f + i) % R.length < R.length := Nat.mod_lt _ (by have := hR.lt; omega)
    have hle := hR.le
    have w1 : IntKind.i64.wrap ((i : Int) + 1) = ((i + 1 : Nat) : Int) := by
      have : (i : Int) + 1 = ((i + 1 : Nat) : Int) := by omega
      rw [this]; exact wrapIN (by omega)
    have tk : V.L.take (i + 1) = V.L.take i ++ [x] := by rw [List.take_add_one, hx]; rfl
    have hk : (f + i) % R.length = (f + i) % R.length := rfl
    obtain ⟨idx, hidx'⟩ : ∃ idx, idx = (f + i) % R.length := ⟨_, rfl⟩
    rw [← hidx'] at hidx hlt
    have c1 : (0 : Int) ≤ (idx : Int) := by omega
    have c2 : (idx : Int) < (R.length : Int) := by omega
    have ex := cellsP_at' hidx
    have lx : idx * 3 + 3 ≤ (cellsP R).length := by rw [cellsP_length]; omega
    simp only [Pk.cells] at ex
    rcases hv with ⟨rfl, hnil⟩ | ⟨a, rfl, ga, ha1, ha2⟩
    · have hap := pk_first (σ := σ.new (.cells [.int .i64 x.id, .int .i64 x.flow, .int .i64 x.size] false)) (b := σ.next) (x := x) (by rw [St.get_new, if_pos rfl]; rfl)
      simp only [go_sem, Nat.reducePow, Nat.reduceDiv, Nat.reduceMod, Nat.reduceAdd, Nat.reduceSub, Nat.reduceMul, Nat.reduceLeDiff, Nat.reduceLT, Nat.reduceEqDiff, reduceCtorEq, reduceIte, reduceDIte, if_pos rfl, Int.reduceLT, Int.reduceLE, Int.reduceEq, Int.reduceNeg, Int.reduceAdd, Int.reduceSub, Int.reduceMul, Int.reduceToNat, opLen, Pk.cells] at hap
      simp only [go_sem, Nat.reducePow, Nat.reduceDiv, Nat.reduceMod, Nat.reduceAdd, Nat.reduceSub, Nat.reduceMul, Nat.reduceLeDiff, Nat.reduceLT, Nat.reduceEqDiff, reduceCtorEq, reduceIte, reduceDIte, if_pos rfl, Int.reduceLT, Int.reduceLE, Int.reduceEq, Int.reduceNeg, Int.reduceAdd, Int.reduceSub, Int.reduceMul, Int.reduceToNat, opLen, undef, allB, loopOf, Try.f103, Option.getD, e0, e3, e4, el]
      refine .of (lnone_call gl) ?_
      simp only [go_sem, Nat.reducePow, Nat.reduceDiv, Nat.reduceMod, Nat.reduceAdd, Nat.reduceSub, Nat.reduceMul, Nat.reduceLeDiff, Nat.reduceLT, Nat.reduceEqDiff, reduceCtorEq, reduceIte, reduceDIte, if_pos rfl, Int.reduceLT, Int.reduceLE, Int.reduceEq, Int.reduceNeg, Int.reduceAdd, Int.reduceSub, Int.reduceMul, Int.reduceToNat, opLen, e0, e3, e4, el, gl, gc, hl, hc, c0, n1, n2, n3, n4]
      refine .of (at_call gl hl (by omega) hR.lt (by omega)) ?_
      simp only [go_sem, Nat.reducePow, Nat.reduceDiv, Nat.reduceMod, Nat.reduceAdd, Nat.reduceSub, Nat.reduceMul, Nat.reduceLeDiff, Nat.reduceLT, Nat.reduceEqDiff, reduceCtorEq, reduceIte, reduceDIte, if_pos rfl, Int.reduceLT, Int.reduceLE, Int.reduceEq, Int.reduceNeg, Int.reduceAdd, Int.reduceSub, Int.reduceMul, Int.reduceToNat, opLen, zerosN, ← hidx', Int.toNat_natCast, e0, e3, e4, el, gl, gr, gc, hl, hr, hc, c0, c1, c2, ex, lx, hap, w1, n1, n2, n3, n4]
      have tk1 : V.L.take (i + 1) = [x] := by rw [tk, hnil]; rfl
      refine ⟨m - 1, by omega, _, .slice (some ⟨σ.next + 1, 0, some 5⟩) 1 1, i + 1, rfl, ⟨by simp only [List.length_set, el], by simp only [go_sem, Nat.reducePow, Nat.reduceDiv, Nat.reduceMod, Nat.reduceAdd, Nat.reduceSub, Nat.reduceMul, Nat.reduceLeDiff, Nat.reduceLT, Nat.reduceEqDiff, reduceCtorEq, reduceIte, reduceDIte, if_pos rfl, Int.reduceLT, Int.reduceLE, Int.reduceEq, Int.reduceNeg, Int.reduceAdd, Int.reduceSub, Int.reduceMul, Int.reduceToNat, opLen, el, e0], by simp only [go_sem, Nat.reducePow, Nat.reduceDiv, Nat.reduceMod, Nat.reduceAdd, Nat.reduceSub, Nat.reduceMul, Nat.reduceLeDiff, Nat.reduceLT, Nat.reduceEqDiff, reduceCtorEq, reduceIte, reduceDIte, if_pos rfl, Int.reduceLT, Int.reduceLE, Int.reduceEq, Int.reduceNeg, Int.reduceAdd, Int.reduceSub, Int.reduceMul, Int.reduceToNat, opLen, el, e3], by simp only [go_sem, Nat.reducePow, Nat.reduceDiv, Nat.reduceMod, Nat.reduceAdd, Nat.reduceSub, Nat.reduceMul, Nat.reduceLeDiff, Nat.reduceLT, Nat.reduceEqDiff, reduceCtorEq, reduceIte, reduceDIte, if_pos rfl, Int.reduceLT, Int.reduceLE, Int.reduceEq, Int.reduceNeg, Int.reduceAdd, Int.reduceSub, Int.reduceMul, Int.reduceToNat, opLen, el]⟩, by omega, H.keep (by simp only [go_sem, Nat.reducePow, Nat.reduceDiv, Nat.reduceMod, Nat.reduceAdd, Nat.reduceSub, Nat.reduceMul, Nat.reduceLeDiff, Nat.reduceLT, Nat.reduceEqDiff, reduceCtorEq, reduceIte, reduceDIte, if_pos rfl, Int.reduceLT, Int.reduceLE, Int.reduceEq, Int.reduceNeg, Int.reduceAdd, Int.reduceSub, Int.reduceMul, Int.reduceToNat, opLen, St.next_put] <;> omega) (by simp only [go_sem, Nat.reducePow, Nat.reduceDiv, Nat.reduceMod, Nat.reduceAdd, Nat.reduceSub, Nat.reduceMul, Nat.reduceLeDiff, Nat.reduceLT, Nat.reduceEqDiff, reduceCtorEq, reduceIte, reduceDIte, if_pos rfl, Int.reduceLT, Int.reduceLE, Int.reduceEq, Int.reduceNeg, Int.reduceAdd, Int.reduceSub, Int.reduceMul, Int.reduceToNat, opLen, hl, n1]) (by simp only [go_sem, Nat.reducePow, Nat.reduceDiv, Nat.reduceMod, Nat.reduceAdd, Nat.reduceSub, Nat.reduceMul, Nat.reduceLeDiff, Nat.reduceLT, Nat.reduceEqDiff, reduceCtorEq, reduceIte, reduceDIte, if_pos rfl, Int.reduceLT, Int.reduceLE, Int.reduceEq, Int.reduceNeg, Int.reduceAdd, Int.reduceSub, Int.reduceMul, Int.reduceToNat, opLen, hr, n2]), by simp only [go_sem, Nat.reducePow, Nat.reduceDiv, Nat.reduceMod, Nat.reduceAdd, Nat.reduceSub, Nat.reduceMul, Nat.reduceLeDiff, Nat.reduceLT, Nat.reduceEqDiff, reduceCtorEq, reduceIte, reduceDIte, if_pos rfl, Int.reduceLT, Int.reduceLE, Int.reduceEq, Int.reduceNeg, Int.reduceAdd, Int.reduceSub, Int.reduceMul, Int.reduceToNat, opLen, St.next_put] <;> omega, by simp only [go_sem, Nat.reducePow, Nat.reduceDiv, Nat.reduceMod, Nat.reduceAdd, Nat.reduceSub, Nat.reduceMul, Nat.reduceLeDiff, Nat.reduceLT, Nat.reduceEqDiff, reduceCtorEq, reduceIte, reduceDIte, if_pos rfl, Int.reduceLT, Int.reduceLE, Int.reduceEq, Int.reduceNeg, Int.reduceAdd, Int.reduceSub, Int.reduceMul, Int.reduceToNat, opLen], .inr ⟨σ.next + 1, ?_, ?_, by omega, by simp only [go_sem, Nat.reducePow, Nat.reduceDiv, Nat.reduceMod, Nat.reduceAdd, Nat.reduceSub, Nat.reduceMul, Nat.reduceLeDiff, Nat.reduceLT, Nat.reduceEqDiff, reduceCtorEq, reduceIte, reduceDIte, if_pos rfl, Int.reduceLT, Int.reduceLE, Int.reduceEq, Int.reduceNeg, Int.reduceAdd, Int.reduceSub, Int.reduceMul, Int.reduceToNat, opLen, St.next_put] <;> omega⟩⟩
      · rw [tk1]; rfl
      · rw [tk1]; simp only [go_sem, Nat.reducePow, Nat.reduceDiv, Nat.reduceMod, Nat.reduceAdd, Nat.reduceSub, Nat.reduceMul, Nat.reduceLeDiff, Nat.reduceLT, Nat.reduceEqDiff, reduceCtorEq, reduceIte, reduceDIte, if_pos rfl, Int.reduceLT, Int.reduceLE, Int.reduceEq, Int.reduceNeg, Int.reduceAdd, Int.reduceSub, Int.reduceMul, Int.reduceToNat, opLen, hc, cellsP, Pk.cells]
    · have hap := pk_more (σ := σ.new (.cells [.int .i64 x.id, .int .i64 x.flow, .int .i64 x.size] false)) (b := σ.next) (x := x) (a := a) (L := V.L.take i) (by rw [St.get_new, if_neg (by omega)]; exact ga) (by rw [St.get_new, if_pos rfl]; rfl) (by rw [List.length_take]; omega)
      have m1 : ¬ a = l := by omega
      have m2 : ¬ a = r := by omega
      have m3 : ¬ a = c := by omega
      have m4 : ¬ c = a := by omega
      simp only [go_sem, Nat.reducePow, Nat.reduceDiv, Nat.reduceMod, Nat.reduceAdd, Nat.reduceSub, Nat.reduceMul, Nat.reduceLeDiff, Nat.reduceLT, Nat.reduceEqDiff, reduceCtorEq, reduceIte, reduceDIte, if_pos rfl, Int.reduceLT, Int.reduceLE, Int.reduceEq, Int.reduceNeg, Int.reduceAdd, Int.reduceSub, Int.reduceMul, Int.reduceToNat, opLen] at hap
      simp only [go_sem, Nat.reducePow, Nat.reduceDiv, Nat.reduceMod, Nat.reduceAdd, Nat.reduceSub, Nat.reduceMul, Nat.reduceLeDiff, Nat.reduceLT, Nat.reduceEqDiff, reduceCtorEq, reduceIte, reduceDIte, if_pos rfl, Int.reduceLT, Int.reduceLE, Int.reduceEq, Int.reduceNeg, Int.reduceAdd, Int.reduceSub, Int.reduceMul, Int.reduceToNat, opLen, undef, allB, loopOf, Try.f103, Option.getD, e0, e3, e4, el]
      refine .of (lnone_call gl) ?_
      simp only [go_sem, Nat.reducePow, Nat.reduceDiv, Nat.reduceMod, Nat.reduceAdd, Nat.reduceSub, Nat.reduceMul, Nat.reduceLeDiff, Nat.reduceLT, Nat.reduceEqDiff, reduceCtorEq, reduceIte, reduceDIte, if_pos rfl, Int.reduceLT, Int.reduceLE, Int.reduceEq, Int.reduceNeg, Int.reduceAdd, Int.reduceSub, Int.reduceMul, Int.reduceToNat, opLen, e0, e3, e4, el, gl, gc, hl, hc, c0, n1, n2, n3, n4]
      refine .of (at_call gl hl (by omega) hR.lt (by omega)) ?_
      simp only [go_sem, Nat.reducePow, Nat.reduceDiv, Nat.reduceMod, Nat.reduceAdd, Nat.reduceSub, Nat.reduceMul, Nat.reduceLeDiff, Nat.reduceLT, Nat.reduceEqDiff, reduceCtorEq, reduceIte, reduceDIte, if_pos rfl, Int.reduceLT, Int.reduceLE, Int.reduceEq, Int.reduceNeg, Int.reduceAdd, Int.reduceSub, Int.reduceMul, Int.reduceToNat, opLen, zerosN, ← hidx', Int.toNat_natCast, e0, e3, e4, el, gl, gr, gc, ga, ha2, hl, hr, hc, c0, c1, c2, ex, lx, hap, w1, n1, n2, n3, n4, m1, m2, m3, m4]
      refine ⟨?_, m - 1, by omega, _, .slice (some ⟨σ.next + 1, 0, some 5⟩) ((V.L.take i).length + 1) ((V.L.take i).length + 1), i + 1, rfl, ⟨by simp only [List.length_set, el], by simp only [go_sem, Nat.reducePow, Nat.reduceDiv, Nat.reduceMod, Nat.reduceAdd, Nat.reduceSub, Nat.reduceMul, Nat.reduceLeDiff, Nat.reduceLT, Nat.reduceEqDiff, reduceCtorEq, reduceIte, reduceDIte, if_pos rfl, Int.reduceLT, Int.reduceLE, Int.reduceEq, Int.reduceNeg, Int.reduceAdd, Int.reduceSub, Int.reduceMul, Int.reduceToNat, opLen, el, e0], by simp only [go_sem, Nat.reducePow, Nat.reduceDiv, Nat.reduceMod, Nat.reduceAdd, Nat.reduceSub, Nat.reduceMul, Nat.reduceLeDiff, Nat.reduceLT, Nat.reduceEqDiff, reduceCtorEq, reduceIte, reduceDIte, if_pos rfl, Int.reduceLT, Int.reduceLE, Int.reduceEq, Int.reduceNeg, Int.reduceAdd, Int.reduceSub, Int.reduceMul, Int.reduceToNat, opLen, el, e3], by simp only [go_sem, Nat.reducePow, Nat.reduceDiv, Nat.reduceMod, Nat.reduceAdd, Nat.reduceSub, Nat.reduceMul, Nat.reduceLeDiff, Nat.reduceLT, Nat.reduceEqDiff, reduceCtorEq, reduceIte, reduceDIte, if_pos rfl, Int.reduceLT, Int.reduceLE, Int.reduceEq, Int.reduceNeg, Int.reduceAdd, Int.reduceSub, Int.reduceMul, Int.reduceToNat, opLen, el]⟩, by omega, H.keep (by simp only [go_sem, Nat.reducePow, Nat.reduceDiv, Nat.reduceMod, Nat.reduceAdd, Nat.reduceSub, Nat.reduceMul, Nat.reduceLeDiff, Nat.reduceLT, Nat.reduceEqDiff, reduceCtorEq, reduceIte, reduceDIte, if_pos rfl, Int.reduceLT, Int.reduceLE, Int.reduceEq, Int.reduceNeg, Int.reduceAdd, Int.reduceSub, Int.reduceMul, Int.reduceToNat, opLen, St.next_put] <;> omega) (by simp only [go_sem, Nat.reducePow, Nat.reduceDiv, Nat.reduceMod, Nat.reduceAdd, Nat.reduceSub, Nat.reduceMul, Nat.reduceLeDiff, Nat.reduceLT, Nat.reduceEqDiff, reduceCtorEq, reduceIte, reduceDIte, if_pos rfl, Int.reduceLT, Int.reduceLE, Int.reduceEq, Int.reduceNeg, Int.reduceAdd, Int.reduceSub, Int.reduceMul, Int.reduceToNat, opLen, hl, n1, m1]) (by simp only [go_sem, Nat.reducePow, Nat.reduceDiv, Nat.reduceMod, Nat.reduceAdd, Nat.reduceSub, Nat.reduceMul, Nat.reduceLeDiff, Nat.reduceLT, Nat.reduceEqDiff, reduceCtorEq, reduceIte, reduceDIte, if_pos rfl, Int.reduceLT, Int.reduceLE, Int.reduceEq, Int.reduceNeg, Int.reduceAdd, Int.reduceSub, Int.reduceMul, Int.reduceToNat, opLen, hr, n2, m2]), by simp only [go_sem, Nat.reducePow, Nat.reduceDiv, Nat.reduceMod, Nat.reduceAdd, Nat.reduceSub, Nat.reduceMul, Nat.reduceLeDiff, Nat.reduceLT, Nat.reduceEqDiff, reduceCtorEq, reduceIte, reduceDIte, if_pos rfl, Int.reduceLT, Int.reduceLE, Int.reduceEq, Int.reduceNeg, Int.reduceAdd, Int.reduceSub, Int.reduceMul, Int.reduceToNat, opLen, St.next_put] <;> omega, by simp only [go_sem, Nat.reducePow, Nat.reduceDiv, Nat.reduceMod, Nat.reduceAdd, Nat.reduceSub, Nat.reduceMul, Nat.reduceLeDiff, Nat.reduceLT, Nat.reduceEqDiff, reduceCtorEq, reduceIte, reduceDIte, if_pos rfl, Int.reduceLT, Int.reduceLE, Int.reduceEq, Int.reduceNeg, Int.reduceAdd, Int.reduceSub, Int.reduceMul, Int.reduceToNat, opLen], .inr ⟨σ.next + 1, ?_, ?_, by omega, by simp only [go_sem, Nat.reducePow, Nat.reduceDiv, Nat.reduceMod, Nat.reduceAdd, Nat.reduceSub, Nat.reduceMul, Nat.reduceLeDiff, Nat.reduceLT, Nat.reduceEqDiff, reduceCtorEq, reduceIte, reduceDIte, if_pos rfl, Int.reduceLT, Int.reduceLE, Int.reduceEq, Int.reduceNeg, Int.reduceAdd, Int.reduceSub, Int.reduceMul, Int.reduceToNat, opLen, St.next_put] <;> omega⟩⟩
      · omega
      · rw [tk, List.length_append]; rfl
      · rw [tk]; simp only [go_sem, Nat.reducePow, Nat.reduceDiv, Nat.reduceMod, Nat.reduceAdd, Nat.reduceSub, Nat.reduceMul, Nat.reduceLeDiff, Nat.reduceLT, Nat.reduceEqDiff, reduceCtorEq, reduceIte, reduceDIte, if_pos rfl, Int.reduceLT, Int.reduceLE, Int.reduceEq, Int.reduceNeg, Int.reduceAdd, Int.reduceSub, Int.reduceMul, Int.reduceToNat, opLen, hc, ha2]
  · have c0 : ¬ (i : Int) < (V.L.length : Int) := by omega
    obtain rfl : i = V.L.length := by omega
    simp only [go_sem, Nat.reducePow, Nat.reduceDiv, Nat.reduceMod, Nat.reduceAdd, Nat.reduceSub, Nat.reduceMul, Nat.reduceLeDiff, Nat.reduceLT, Nat.reduceEqDiff, reduceCtorEq, reduceIte, reduceDIte, if_pos rfl, Int.reduceLT, Int.reduceLE, Int.reduceEq, Int.reduceNeg, Int.reduceAdd, Int.reduceSub, Int.reduceMul, Int.reduceToNat, opLen, undef, allB, loopOf, Try.f103, Option.getD, e0, e3, e4, el]
    refine .of (lnone_call gl) ?_
    simp only [go_sem, Nat.reducePow, Nat.reduceDiv, Nat.reduceMod, Nat.reduceAdd, Nat.reduceSub, Nat.reduceMul, Nat.reduceLeDiff, Nat.reduceLT, Nat.reduceEqDiff, reduceCtorEq, reduceIte, reduceDIte, if_pos rfl, Int.reduceLT, Int.reduceLE, Int.reduceEq, Int.reduceNeg, Int.reduceAdd, Int.reduceSub, Int.reduceMul, Int.reduceToNat, opLen, e0, e3, e4, el, gl, gc, hl, hc, c0]
    rw [List.take_length] at hv
    exact ⟨rfl, _, v, rfl, by simp only [List.length_set, el], by simp only [go_sem, Nat.reducePow, Nat.reduceDiv, Nat.reduceMod, Nat.reduceAdd, Nat.reduceSub, Nat.reduceMul, Nat.reduceLeDiff, Nat.reduceLT, Nat.reduceEqDiff, reduceCtorEq, reduceIte, reduceDIte, if_pos rfl, Int.reduceLT, Int.reduceLE, Int.reduceEq, Int.reduceNeg, Int.reduceAdd, Int.reduceSub, Int.reduceMul, Int.reduceToNat, opLen, el, e3], hc, gc, hv⟩

end Go.Ab

set_option linter.unusedSimpArgs false
set_option linter.unusedVariables false
namespace Go.Ab
open Go.Proofs

/-- All. -/
theorem all_call {σ : St} {l r : Nat} {V : LV} (H : LAt σ l r V) : callX Try.prog 103 [.pointer (some ⟨l, 0, none⟩)] σ fun e σ' lg => e = .ret (.func (.func 133) ⟨[]⟩ ⟨[.pointer (some ⟨σ.next, 0, none⟩)]⟩) ∧
    ((∀ z ∈ lg, σ.next ≤ z) ∧ σ.next < σ'.next ∧ ∃ v, σ'.get σ.next = some (.cells [v] false) ∧ PkS (σ.next + 1) σ' v V.L) := by
  have hl := H.lt.1
  have hr := H.lt.2
  refine enter (p := q8) Try.func103 rfl stat103 ?_
  simp only [go_sem, Nat.reducePow, Nat.reduceDiv, Nat.reduceMod, Nat.reduceAdd, Nat.reduceSub, Nat.reduceMul, Nat.reduceLeDiff, Nat.reduceLT, Nat.reduceEqDiff, reduceCtorEq, reduceIte, reduceDIte, if_pos rfl, Int.reduceLT, Int.reduceLE, Int.reduceEq, Int.reduceNeg, Int.reduceAdd, Int.reduceSub, Int.reduceMul, Int.reduceToNat, opLen, Try.f103]
  refine loop_then (all_loop (l := l) (r := r) (c := σ.next) (V := V) hl hr V.L.length _ _ ⟨_, .slice none 0 0, 0, rfl, ⟨rfl, rfl, rfl, rfl⟩, rfl, H.keep (by simp only [go_sem, Nat.reducePow, Nat.reduceDiv, Nat.reduceMod, Nat.reduceAdd, Nat.reduceSub, Nat.reduceMul, Nat.reduceLeDiff, Nat.reduceLT, Nat.reduceEqDiff, reduceCtorEq, reduceIte, reduceDIte, if_pos rfl, Int.reduceLT, Int.reduceLE, Int.reduceEq, Int.reduceNeg, Int.reduceAdd, Int.reduceSub, Int.reduceMul, Int.reduceToNat, opLen]) (by simp only [go_sem, Nat.reducePow, Nat.reduceDiv, Nat.reduceMod, Nat.reduceAdd, Nat.reduceSub, Nat.reduceMul, Nat.reduceLeDiff, Nat.reduceLT, Nat.reduceEqDiff, reduceCtorEq, reduceIte, reduceDIte, if_pos rfl, Int.reduceLT, Int.reduceLE, Int.reduceEq, Int.reduceNeg, Int.reduceAdd, Int.reduceSub, Int.reduceMul, Int.reduceToNat, opLen, hl]) (by simp only [go_sem, Nat.reducePow, Nat.reduceDiv, Nat.reduceMod, Nat.reduceAdd, Nat.reduceSub, Nat.reduceMul, Nat.reduceLeDiff, Nat.reduceLT, Nat.reduceEqDiff, reduceCtorEq, reduceIte, reduceDIte, if_pos rfl, Int.reduceLT, Int.reduceLE, Int.reduceEq, Int.reduceNeg, Int.reduceAdd, Int.reduceSub, Int.reduceMul, Int.reduceToNat, opLen, hr]), by simp only [go_sem, Nat.reducePow, Nat.reduceDiv, Nat.reduceMod, Nat.reduceAdd, Nat.reduceSub, Nat.reduceMul, Nat.reduceLeDiff, Nat.reduceLT, Nat.reduceEqDiff, reduceCtorEq, reduceIte, reduceDIte, if_pos rfl, Int.reduceLT, Int.reduceLE, Int.reduceEq, Int.reduceNeg, Int.reduceAdd, Int.reduceSub, Int.reduceMul, Int.reduceToNat, opLen], by simp only [go_sem, Nat.reducePow, Nat.reduceDiv, Nat.reduceMod, Nat.reduceAdd, Nat.reduceSub, Nat.reduceMul, Nat.reduceLeDiff, Nat.reduceLT, Nat.reduceEqDiff, reduceCtorEq, reduceIte, reduceDIte, if_pos rfl, Int.reduceLT, Int.reduceLE, Int.reduceEq, Int.reduceNeg, Int.reduceAdd, Int.reduceSub, Int.reduceMul, Int.reduceToNat, opLen], .inl ⟨rfl, rfl⟩⟩) ?_
  intro x fr' σ' lg hlg hB h
  obtain ⟨rfl, ts, v, rfl, el, e3, hc, gc, hv⟩ := h
  simp only [go_sem, Nat.reducePow, Nat.reduceDiv, Nat.reduceMod, Nat.reduceAdd, Nat.reduceSub, Nat.reduceMul, Nat.reduceLeDiff, Nat.reduceLT, Nat.reduceEqDiff, reduceCtorEq, reduceIte, reduceDIte, if_pos rfl, Int.reduceLT, Int.reduceLE, Int.reduceEq, Int.reduceNeg, Int.reduceAdd, Int.reduceSub, Int.reduceMul, Int.reduceToNat, opLen, Try.f103, e3, el]
  exact ⟨fun z hz => hB z hz, hc, v, gc, hv⟩

/-- What takes the packets one by one. -/
structure Yields (y : Nat) (B : Nat → Prop) (L : List Pk) (J : List Pk → St → Prop) : Prop where
  round : ∀ done x rest σ, L = done ++ x :: rest → J done σ → roundX Try.prog y [x.val] σ fun e σ' lg => e = .ret (.bool true) ∧ ((∀ z ∈ lg, B z) ∧ J (done ++ [x]) σ')
  keep : ∀ done σ σ', J done σ → σ.next ≤ σ'.next → (∀ z, z < σ.next → σ'.get z = σ.get z) → J done σ'

structure FY (ts : List Value) (y : Nat) (v : Value) (n i : Nat) : Prop where
  size : ts.length = 16
  t0 : lget ts 0 = .func (.yield y) #[] #[]
  t5 : lget ts 5 = v
  t6 : lget ts 6 = .int .i64 n
  t7 : lget ts 7 = .int .i64 i

def IY (y : Nat) (v : Value) (L : List Pk) (J : List Pk → St → Prop) (m : Nat) (fr : Fr) (σ : St) : Prop :=
  ∃ ts, ∃ i : Nat, fr = ⟨ts, []⟩ ∧ FY ts y v L.length i ∧ m + i = L.length ∧ J (L.take i) σ

def EY (L : List Pk) (J : List Pk → St → Prop) (x : AX) (fr : Fr) (σ : St) : Prop := x = .exit 0 ∧ fr.ds = [] ∧ J L σ

set_option maxRecDepth 20000 in
theorem seq_loop {y n0 lo : Nat} {v : Value} {L : List Pk} {B : Nat → Prop} {J : List Pk → St → Prop} (hY : Yields y B L J) (hB : ∀ z, n0 ≤ z → B z) (hv : ∀ done σ, J done σ → PkS lo σ v L ∧ n0 ≤ σ.next) (hL : L.length < 1000000) :
    ∀ m fr σ, IY y v L J m fr σ → loopX Try.prog false (loopOf (Try.f133.body.getD .skip)) fr σ (endL (EY L J) B) := by
  refine loop_ind q8 133 (by kernel_rfl) _ _ _ ?_
  rintro m fr σ ⟨ts, i, rfl, F, hmi, hJ⟩
  have e0 := F.t0
  have e5 := F.t5
  have e6 := F.t6
  have e7 := F.t7
  have el := F.size
  by_cases hi : i < L.length
  · have c0 : (i : Int) < (L.length : Int) := by omega
    have hx : L[i]? = some L[i] := List.getElem?_eq_getElem hi
    have hsp : L = L.take i ++ L[i] :: L.drop (i + 1) := by simp
    have tk : L.take (i + 1) = L.take i ++ [L[i]] := by rw [List.take_add_one, hx]; rfl
    generalize L[i] = x at hx hsp tk
    obtain ⟨hS, hn0⟩ := hv _ _ hJ
    rcases hS with ⟨_, rfl⟩ | ⟨a, rfl, ga, ha1, ha2⟩
    · simp at hi
    have c1 : (0 : Int) ≤ (i : Int) := by omega
    have ex := cellsP_at' hx
    have lx : i * 3 + 3 ≤ (cellsP L).length := by rw [cellsP_length]; omega
    simp only [Pk.cells] at ex
    have na : ¬ σ.next = a := by omega
    have w1 : IntKind.i64.wrap ((i : Int) + 1) = ((i + 1 : Nat) : Int) := by
      have : (i : Int) + 1 = ((i + 1 : Nat) : Int) := by omega
      rw [this]; exact wrapIN (by omega)
    simp only [go_sem, Nat.reducePow, Nat.reduceDiv, Nat.reduceMod, Nat.reduceAdd, Nat.reduceSub, Nat.reduceMul, Nat.reduceLeDiff, Nat.reduceLT, Nat.reduceEqDiff, reduceCtorEq, reduceIte, reduceDIte, if_pos rfl, Int.reduceLT, Int.reduceLE, Int.reduceEq, Int.reduceNeg, Int.reduceAdd, Int.reduceSub, Int.reduceMul, Int.reduceToNat, opLen, undef, loopOf, Try.f133, Option.getD, Int.toNat_natCast, e0, e5, e6, e7, el, ga, ha2, na, c0, c1, ex, lx]
    refine roundX.hid (hY.round _ x _ _ hsp (hY.keep _ σ _ hJ ?_ ?_)) ?_
    · simp only [go_sem, Nat.reducePow, Nat.reduceDiv, Nat.reduceMod, Nat.reduceAdd, Nat.reduceSub, Nat.reduceMul, Nat.reduceLeDiff, Nat.reduceLT, Nat.reduceEqDiff, reduceCtorEq, reduceIte, reduceDIte, if_pos rfl, Int.reduceLT, Int.reduceLE, Int.reduceEq, Int.reduceNeg, Int.reduceAdd, Int.reduceSub, Int.reduceMul, Int.reduceToNat, opLen, St.next_put] <;> omega
    · intro z hz
      simp only [go_sem, Nat.reducePow, Nat.reduceDiv, Nat.reduceMod, Nat.reduceAdd, Nat.reduceSub, Nat.reduceMul, Nat.reduceLeDiff, Nat.reduceLT, Nat.reduceEqDiff, reduceCtorEq, reduceIte, reduceDIte, if_pos rfl, Int.reduceLT, Int.reduceLE, Int.reduceEq, Int.reduceNeg, Int.reduceAdd, Int.reduceSub, Int.reduceMul, Int.reduceToNat, opLen, hz]
    intro σ1 lg1 hlg1 h1
    obtain ⟨hB1, hJ1⟩ := h1
    rw [← tk] at hJ1
    have hBn := hB σ.next hn0
    refine ⟨?_⟩
    simp only [go_sem, Nat.reducePow, Nat.reduceDiv, Nat.reduceMod, Nat.reduceAdd, Nat.reduceSub, Nat.reduceMul, Nat.reduceLeDiff, Nat.reduceLT, Nat.reduceEqDiff, reduceCtorEq, reduceIte, reduceDIte, if_pos rfl, Int.reduceLT, Int.reduceLE, Int.reduceEq, Int.reduceNeg, Int.reduceAdd, Int.reduceSub, Int.reduceMul, Int.reduceToNat, opLen, undef, e0, e5, e6, e7, el, w1]
    exact ⟨⟨hBn, hB1⟩, m - 1, by omega, _, i + 1, rfl, ⟨by simp only [List.length_set, el], by simp only [go_sem, Nat.reducePow, Nat.reduceDiv, Nat.reduceMod, Nat.reduceAdd, Nat.reduceSub, Nat.reduceMul, Nat.reduceLeDiff, Nat.reduceLT, Nat.reduceEqDiff, reduceCtorEq, reduceIte, reduceDIte, if_pos rfl, Int.reduceLT, Int.reduceLE, Int.reduceEq, Int.reduceNeg, Int.reduceAdd, Int.reduceSub, Int.reduceMul, Int.reduceToNat, opLen, el, e0], by simp only [go_sem, Nat.reducePow, Nat.reduceDiv, Nat.reduceMod, Nat.reduceAdd, Nat.reduceSub, Nat.reduceMul, Nat.reduceLeDiff, Nat.reduceLT, Nat.reduceEqDiff, reduceCtorEq, reduceIte, reduceDIte, if_pos rfl, Int.reduceLT, Int.reduceLE, Int.reduceEq, Int.reduceNeg, Int.reduceAdd, Int.reduceSub, Int.reduceMul, Int.reduceToNat, opLen, el, e5], by simp only [go_sem, Nat.reducePow, Nat.reduceDiv, Nat.reduceMod, Nat.reduceAdd, Nat.reduceSub, Nat.reduceMul, Nat.reduceLeDiff, Nat.reduceLT, Nat.reduceEqDiff, reduceCtorEq, reduceIte, reduceDIte, if_pos rfl, Int.reduceLT, Int.reduceLE, Int.reduceEq, Int.reduceNeg, Int.reduceAdd, Int.reduceSub, Int.reduceMul, Int.reduceToNat, opLen, el, e6], by simp only [go_sem, Nat.reducePow, Nat.reduceDiv, Nat.reduceMod, Nat.reduceAdd, Nat.reduceSub, Nat.reduceMul, Nat.reduceLeDiff, Nat.reduceLT, Nat.reduceEqDiff, reduceCtorEq, reduceIte, reduceDIte, if_pos rfl, Int.reduceLT, Int.reduceLE, Int.reduceEq, Int.reduceNeg, Int.reduceAdd, Int.reduceSub, Int.reduceMul, Int.reduceToNat, opLen, el]⟩, by omega, hJ1⟩
  · have c0 : ¬ (i : Int) < (L.length : Int) := by omega
    obtain rfl : i = L.length := by omega
    rw [List.take_length] at hJ
    simp only [go_sem, Nat.reducePow, Nat.reduceDiv, Nat.reduceMod, Nat.reduceAdd, Nat.reduceSub, Nat.reduceMul, Nat.reduceLeDiff, Nat.reduceLT, Nat.reduceEqDiff, reduceCtorEq, reduceIte, reduceDIte, if_pos rfl, Int.reduceLT, Int.reduceLE, Int.reduceEq, Int.reduceNeg, Int.reduceAdd, Int.reduceSub, Int.reduceMul, Int.reduceToNat, opLen, undef, loopOf, Try.f133, Option.getD, e0, e5, e6, e7, el, c0]
    exact ⟨rfl, rfl, hJ⟩

/-- What goes over all packets. -/
theorem seq_call {y n0 lo c : Nat} {v : Value} {L : List Pk} {B : Nat → Prop} {J : List Pk → St → Prop} (hY : Yields y B L J) (hB : ∀ z, n0 ≤ z → B z) (hv : ∀ done σ, J done σ → PkS lo σ v L ∧ n0 ≤ σ.next) (hL : L.length < 1000000) {σ : St} (gc : σ.get c = some (.cells [v] false)) (h0 : J [] σ) :
    callX Try.prog 133 [.func (.yield y) #[] #[], .pointer (some ⟨c, 0, none⟩)] σ fun e σ' lg => e = .ret (.tuple ⟨[]⟩) ∧ ((∀ z ∈ lg, B z) ∧ J L σ') := by
  have hv0 := (hv _ _ h0).1
  have hlen : v = .slice none 0 0 ∧ L.length = 0 ∨ ∃ a, v = .slice (some ⟨a, 0, some 5⟩) L.length L.length := by
    rcases hv0 with ⟨h1, h2⟩ | ⟨a, h1, _⟩
    · exact .inl ⟨h1, by rw [h2]; rfl⟩
    · exact .inr ⟨a, h1⟩
  refine enter (p := q8) Try.func133 rfl stat133 ?_
  have key : ∀ n : Nat, n = L.length → opLen (cP Try.prog).T σ 168 v = some (.val (.int .i64 n) []) := by
    rintro n rfl
    rcases hlen with ⟨rfl, h⟩ | ⟨a, rfl⟩
    · rw [h]; simp only [opLen, und168]; rfl
    · simp only [opLen, und168]
  have hlen' := key _ rfl
  simp only [go_sem, Nat.reducePow, Nat.reduceDiv, Nat.reduceMod, Nat.reduceAdd, Nat.reduceSub, Nat.reduceMul, Nat.reduceLeDiff, Nat.reduceLT, Nat.reduceEqDiff, reduceCtorEq, reduceIte, reduceDIte, if_pos rfl, Int.reduceLT, Int.reduceLE, Int.reduceEq, Int.reduceNeg, Int.reduceAdd, Int.reduceSub, Int.reduceMul, Int.reduceToNat, undef, Try.f133, gc]
  refine enscope q8 133 (by kernel_rfl) ?_
  simp only [go_sem, Nat.reducePow, Nat.reduceDiv, Nat.reduceMod, Nat.reduceAdd, Nat.reduceSub, Nat.reduceMul, Nat.reduceLeDiff, Nat.reduceLT, Nat.reduceEqDiff, reduceCtorEq, reduceIte, reduceDIte, if_pos rfl, Int.reduceLT, Int.reduceLE, Int.reduceEq, Int.reduceNeg, Int.reduceAdd, Int.reduceSub, Int.reduceMul, Int.reduceToNat, undef, Try.f133, gc, hlen']
  refine loop_then (seq_loop hY hB hv hL L.length _ _ ⟨_, 0, rfl, ⟨rfl, rfl, rfl, rfl, rfl⟩, rfl, h0⟩) ?_
  intro x fr' σ' lg hlg hB' h
  obtain ⟨rfl, hds, hJ⟩ := h
  obtain ⟨ts', ds'⟩ := fr'
  simp only at hds
  subst hds
  simp only [go_sem, Nat.reducePow, Nat.reduceDiv, Nat.reduceMod, Nat.reduceAdd, Nat.reduceSub, Nat.reduceMul, Nat.reduceLeDiff, Nat.reduceLT, Nat.reduceEqDiff, reduceCtorEq, reduceIte, reduceDIte, if_pos rfl, Int.reduceLT, Int.reduceLE, Int.reduceEq, Int.reduceNeg, Int.reduceAdd, Int.reduceSub, Int.reduceMul, Int.reduceToNat, opLen, Try.f133]
  exact ⟨hB', hJ⟩

end Go.Ab

set_option linter.unusedSimpArgs false
set_option linter.unusedVariables false
namespace Go.Ab
open Go.Proofs

/-- The first range over a function of a code. -/
def findR : Code → Option (Array Tmp × Code × Code)
  | .rangeFunc _ ps a b => some (ps, a, b)
  | .block _ c => findR c
  | .scope c => findR c
  | .loop c => findR c
  | .seq a b => match findR a with | some x => some x | none => findR b
  | .cond _ a b => match findR a with | some x => some x | none => findR b
  | _ => none

noncomputable def sumA : Code := match findR (Try.f130.body.getD .skip) with | some x => x.2.1 | none => .skip
noncomputable def sumD : Code := match findR (Try.f130.body.getD .skip) with | some x => x.2.2 | none => .skip

theorem size131_call (x : Pk) (σ : St) : DCall Try.prog 131 [.agg ⟨[.int .i64 x.id, .int .i64 x.flow, .int .i64 x.size]⟩] σ (.ret (.int .i64 x.size)) σ [] := by
  refine pure_call (enter (p := q8) Try.func131 rfl stat131 ?_) rfl
  simp only [go_sem, Nat.reducePow, Nat.reduceDiv, Nat.reduceMod, Nat.reduceAdd, Nat.reduceSub, Nat.reduceMul, Nat.reduceLeDiff, Nat.reduceLT, Nat.reduceEqDiff, reduceCtorEq, reduceIte, reduceDIte, if_pos rfl, Int.reduceLT, Int.reduceLE, Int.reduceEq, Int.reduceNeg, Int.reduceAdd, Int.reduceSub, Int.reduceMul, Int.reduceToNat, opLen, Try.f131]

/-- The sum, under way. -/
structure JS (σ0 : St) (ts : List Value) (done : List Pk) (σ : St) : Prop where
  nx : σ0.next + 4 ≤ σ.next
  old : ∀ z, z < σ0.next → σ.get z = σ0.get z
  g3 : σ.get σ0.next = some (.cells [.func (.func 131) ⟨[]⟩ ⟨[]⟩] false)
  g5 : σ.get (σ0.next + 1) = some (.cells [.int .i64 (sumP done)] false)
  gd : σ.get (σ0.next + 2) = some (.deferred false)
  gy : σ.get (σ0.next + 3) = some (loopOb .ready none ts #[8] sumA sumD (σ0.next + 2))

theorem sumP_bound : ∀ (l : List Pk), (∀ x ∈ l, 0 ≤ x.size ∧ x.size ≤ 2000) → 0 ≤ sumP l ∧ sumP l ≤ 2000 * l.length
  | [], _ => by simp [sumP]
  | x :: l, h => by
    have h1 := sumP_bound l fun y hy => h y (by simp [hy])
    have h2 := h x (by simp)
    simp only [sumP, List.length_cons]
    omega

set_option maxRecDepth 20000 in
theorem sum_yields {σ0 : St} {ts : List Value} {L : List Pk} (hts : ts.length = 15) (t3 : lget ts 3 = .pointer (some ⟨σ0.next, 0, none⟩)) (t5 : lget ts 5 = .pointer (some ⟨σ0.next + 1, 0, none⟩)) (hs : ∀ x ∈ L, 0 ≤ x.size ∧ x.size ≤ 2000) (hL : L.length < 1000000) :
    Yields (σ0.next + 3) (fun z => σ0.next ≤ z) L (JS σ0 ts) := by
  refine ⟨fun done x rest σ hsp H => ?_, fun done σ σ' H hn hg => ?_⟩
  · have hx := hs x (by rw [hsp]; simp)
    have hdn : ∀ y ∈ done, 0 ≤ y.size ∧ y.size ≤ 2000 := fun y hy => hs y (by rw [hsp]; simp [hy])
    have hb := sumP_bound done hdn
    have hlen : done.length < 1000000 := by
      have := congrArg List.length hsp
      simp at this; omega
    have w1 : IntKind.i64.wrap (sumP done + x.size) = sumP done + x.size := wrapI (by omega) (by omega)
    have nx := H.nx
    have g3 := H.g3
    have g5 := H.g5
    have gy := H.gy
    have k3 : σ0.next < σ.next := by omega
    have k5 : σ0.next + 1 < σ.next := by omega
    have ky : σ0.next + 3 < σ.next := by omega
    have m1 : ¬ σ0.next + 3 = σ0.next := by omega
    have m2 : ¬ σ0.next + 3 = σ0.next + 1 := by omega
    have m3 : ¬ σ.next = σ0.next + 3 := by omega
    have m4 : ¬ σ0.next + 3 = σ.next := by omega
    refine roundX.enter (p := q8) (bt := btAll 130) cP_ok mixed gy rfl (by kernel_rfl) (by kernel_rfl) ?_
    simp only [go_sem, Nat.reducePow, Nat.reduceDiv, Nat.reduceMod, Nat.reduceAdd, Nat.reduceSub, Nat.reduceMul, Nat.reduceLeDiff, Nat.reduceLT, Nat.reduceEqDiff, reduceCtorEq, reduceIte, reduceDIte, if_pos rfl, Int.reduceLT, Int.reduceLE, Int.reduceEq, Int.reduceNeg, Int.reduceAdd, Int.reduceSub, Int.reduceMul, Int.reduceToNat, opLen, Pk.val, Pk.cells, sumA, findR, Try.f130, Option.getD, roundTs, hts]
    refine midRW.mk ?_ ?_
    · simp only [go_sem, Nat.reducePow, Nat.reduceDiv, Nat.reduceMod, Nat.reduceAdd, Nat.reduceSub, Nat.reduceMul, Nat.reduceLeDiff, Nat.reduceLT, Nat.reduceEqDiff, reduceCtorEq, reduceIte, reduceDIte, if_pos rfl, Int.reduceLT, Int.reduceLE, Int.reduceEq, Int.reduceNeg, Int.reduceAdd, Int.reduceSub, Int.reduceMul, Int.reduceToNat, opLen, ky, m3]
      exact gy
    simp only [go_sem, Nat.reducePow, Nat.reduceDiv, Nat.reduceMod, Nat.reduceAdd, Nat.reduceSub, Nat.reduceMul, Nat.reduceLeDiff, Nat.reduceLT, Nat.reduceEqDiff, reduceCtorEq, reduceIte, reduceDIte, if_pos rfl, Int.reduceLT, Int.reduceLE, Int.reduceEq, Int.reduceNeg, Int.reduceAdd, Int.reduceSub, Int.reduceMul, Int.reduceToNat, opLen, sumD, findR, Try.f130, Option.getD, hts, t3, t5, g3, g5, k3, k5, ky, m1, m2, m3, m4, w1]
    refine .of (size131_call x _) ?_
    simp only [go_sem, Nat.reducePow, Nat.reduceDiv, Nat.reduceMod, Nat.reduceAdd, Nat.reduceSub, Nat.reduceMul, Nat.reduceLeDiff, Nat.reduceLT, Nat.reduceEqDiff, reduceCtorEq, reduceIte, reduceDIte, if_pos rfl, Int.reduceLT, Int.reduceLE, Int.reduceEq, Int.reduceNeg, Int.reduceAdd, Int.reduceSub, Int.reduceMul, Int.reduceToNat, opLen, Option.getD, hts, t3, t5, g3, g5, k3, k5, ky, m1, m2, m3, m4, w1]
    have hsum : sumP (done ++ [x]) = sumP done + x.size := by rw [sumP_append]; simp [sumP]
    refine ⟨by simp only [go_sem, Nat.reducePow, Nat.reduceDiv, Nat.reduceMod, Nat.reduceAdd, Nat.reduceSub, Nat.reduceMul, Nat.reduceLeDiff, Nat.reduceLT, Nat.reduceEqDiff, reduceCtorEq, reduceIte, reduceDIte, if_pos rfl, Int.reduceLT, Int.reduceLE, Int.reduceEq, Int.reduceNeg, Int.reduceAdd, Int.reduceSub, Int.reduceMul, Int.reduceToNat, opLen, St.next_put] <;> omega, fun z hz => ?_, ?_, ?_, ?_, ?_⟩
    · have z1 : ¬ σ0.next + 3 = z := by omega
      have z2 : ¬ σ0.next + 1 = z := by omega
      have z3 : ¬ σ.next = z := by omega
      rw [St.get_set, if_neg z1, St.get_set, if_neg z2, St.get_set, if_neg z1, St.get_set, if_neg z3, St.get_new, if_neg z3]
      exact H.old z hz
    · have z3 : ¬ σ.next = σ0.next := by omega
      rw [St.get_set, if_neg m1, St.get_set, if_neg (by omega), St.get_set, if_neg m1, St.get_set, if_neg z3, St.get_new, if_neg z3]
      exact g3
    · rw [St.get_set, if_neg m2, St.get_set, if_pos rfl, hsum]
    · have z3 : ¬ σ.next = σ0.next + 2 := by omega
      rw [St.get_set, if_neg (by omega), St.get_set, if_neg (by omega), St.get_set, if_neg (by omega), St.get_set, if_neg z3, St.get_new, if_neg z3]
      exact H.gd
    · rw [St.get_set, if_pos rfl]
      rfl
  · have nx := H.nx
    exact ⟨by omega, fun z hz => (hg z (by omega)).trans (H.old z hz), (hg _ (by omega)).trans H.g3, (hg _ (by omega)).trans H.g5, (hg _ (by omega)).trans H.gd, (hg _ (by omega)).trans H.gy⟩

/-- The frame of sum, where it comes to its range. -/
def sumT (σ : St) (c : Nat) : List Value := [.func (.func 133) ⟨[]⟩ ⟨[.pointer (some ⟨c, 0, none⟩)]⟩, .func (.func 131) ⟨[]⟩ ⟨[]⟩, undef, .pointer (some ⟨σ.next, 0, none⟩), .int .i64 0, .pointer (some ⟨σ.next + 1, 0, none⟩), undef, .func (.func 133) ⟨[]⟩ ⟨[.pointer (some ⟨c, 0, none⟩)]⟩, undef, undef, undef, undef, undef, undef, undef]

theorem sum_call {σ : St} {c lo : Nat} {v : Value} {L : List Pk} (gc : σ.get c = some (.cells [v] false)) (hc : c < σ.next) (hv : PkS lo σ v L) (hs : ∀ x ∈ L, 0 ≤ x.size ∧ x.size ≤ 2000) (hL : L.length < 1000000) :
    DCall Try.prog 130 [.func (.func 133) ⟨[]⟩ ⟨[.pointer (some ⟨c, 0, none⟩)]⟩, .func (.func 131) ⟨[]⟩ ⟨[]⟩] σ (.ret (.int .i64 (sumP L))) σ [] := by
  refine pure_call (callX.enterD (p := q8) cP_ok mixed Try.func130 rfl stat130 ?_) rfl
  simp only [go_sem, Nat.reducePow, Nat.reduceDiv, Nat.reduceMod, Nat.reduceAdd, Nat.reduceSub, Nat.reduceMul, Nat.reduceLeDiff, Nat.reduceLT, Nat.reduceEqDiff, reduceCtorEq, reduceIte, reduceDIte, if_pos rfl, Int.reduceLT, Int.reduceLE, Int.reduceEq, Int.reduceNeg, Int.reduceAdd, Int.reduceSub, Int.reduceMul, Int.reduceToNat, opLen, Try.f130]
  refine rangeX.of cP_ok (f := 133) (xs := []) (ys := [.pointer (some ⟨c, 0, none⟩)]) (by simp only [go_sem, Nat.reducePow, Nat.reduceDiv, Nat.reduceMod, Nat.reduceAdd, Nat.reduceSub, Nat.reduceMul, Nat.reduceLeDiff, Nat.reduceLT, Nat.reduceEqDiff, reduceCtorEq, reduceIte, reduceDIte, if_pos rfl, Int.reduceLT, Int.reduceLE, Int.reduceEq, Int.reduceNeg, Int.reduceAdd, Int.reduceSub, Int.reduceMul, Int.reduceToNat, opLen]) body133 ?_
  have hY := sum_yields (σ0 := σ) (ts := sumT σ c) (L := L) rfl rfl rfl hs hL
  refine callX.hid (R := fun σ' lg => (∀ z ∈ lg, σ.next ≤ z) ∧ JS σ (sumT σ c) L σ') (seq_call (c := c) (v := v) (n0 := σ.next) (lo := lo) hY (fun z hz => hz) (fun done σ' H => ⟨?_, ?_⟩) hL ?_ ⟨?_, ?_, ?_, ?_, ?_, ?_⟩) ?_
  · rcases hv with h | ⟨a, h1, h2, h3, h4⟩
    · exact .inl h
    · exact .inr ⟨a, h1, (H.old a h4).trans h2, h3, by have := H.nx; omega⟩
  · have := H.nx; omega
  · simp only [go_sem, Nat.reducePow, Nat.reduceDiv, Nat.reduceMod, Nat.reduceAdd, Nat.reduceSub, Nat.reduceMul, Nat.reduceLeDiff, Nat.reduceLT, Nat.reduceEqDiff, reduceCtorEq, reduceIte, reduceDIte, if_pos rfl, Int.reduceLT, Int.reduceLE, Int.reduceEq, Int.reduceNeg, Int.reduceAdd, Int.reduceSub, Int.reduceMul, Int.reduceToNat, opLen, hc, gc]
  · simp only [go_sem, Nat.reducePow, Nat.reduceDiv, Nat.reduceMod, Nat.reduceAdd, Nat.reduceSub, Nat.reduceMul, Nat.reduceLeDiff, Nat.reduceLT, Nat.reduceEqDiff, reduceCtorEq, reduceIte, reduceDIte, if_pos rfl, Int.reduceLT, Int.reduceLE, Int.reduceEq, Int.reduceNeg, Int.reduceAdd, Int.reduceSub, Int.reduceMul, Int.reduceToNat, opLen, St.next_put] <;> omega
  · intro z hz
    simp only [go_sem, Nat.reducePow, Nat.reduceDiv, Nat.reduceMod, Nat.reduceAdd, Nat.reduceSub, Nat.reduceMul, Nat.reduceLeDiff, Nat.reduceLT, Nat.reduceEqDiff, reduceCtorEq, reduceIte, reduceDIte, if_pos rfl, Int.reduceLT, Int.reduceLE, Int.reduceEq, Int.reduceNeg, Int.reduceAdd, Int.reduceSub, Int.reduceMul, Int.reduceToNat, opLen, hz]
  · simp only [go_sem, Nat.reducePow, Nat.reduceDiv, Nat.reduceMod, Nat.reduceAdd, Nat.reduceSub, Nat.reduceMul, Nat.reduceLeDiff, Nat.reduceLT, Nat.reduceEqDiff, reduceCtorEq, reduceIte, reduceDIte, if_pos rfl, Int.reduceLT, Int.reduceLE, Int.reduceEq, Int.reduceNeg, Int.reduceAdd, Int.reduceSub, Int.reduceMul, Int.reduceToNat, opLen]
  · simp only [go_sem, Nat.reducePow, Nat.reduceDiv, Nat.reduceMod, Nat.reduceAdd, Nat.reduceSub, Nat.reduceMul, Nat.reduceLeDiff, Nat.reduceLT, Nat.reduceEqDiff, reduceCtorEq, reduceIte, reduceDIte, if_pos rfl, Int.reduceLT, Int.reduceLE, Int.reduceEq, Int.reduceNeg, Int.reduceAdd, Int.reduceSub, Int.reduceMul, Int.reduceToNat, opLen]; rfl
  · simp only [go_sem, Nat.reducePow, Nat.reduceDiv, Nat.reduceMod, Nat.reduceAdd, Nat.reduceSub, Nat.reduceMul, Nat.reduceLeDiff, Nat.reduceLT, Nat.reduceEqDiff, reduceCtorEq, reduceIte, reduceDIte, if_pos rfl, Int.reduceLT, Int.reduceLE, Int.reduceEq, Int.reduceNeg, Int.reduceAdd, Int.reduceSub, Int.reduceMul, Int.reduceToNat, opLen]
  · simp only [go_sem, Nat.reducePow, Nat.reduceDiv, Nat.reduceMod, Nat.reduceAdd, Nat.reduceSub, Nat.reduceMul, Nat.reduceLeDiff, Nat.reduceLT, Nat.reduceEqDiff, reduceCtorEq, reduceIte, reduceDIte, if_pos rfl, Int.reduceLT, Int.reduceLE, Int.reduceEq, Int.reduceNeg, Int.reduceAdd, Int.reduceSub, Int.reduceMul, Int.reduceToNat, opLen]; rfl
  intro σ1 lg1 hlg1 h1
  obtain ⟨hB, H⟩ := h1
  have nx := H.nx
  have g5 := H.g5
  have gd := H.gd
  have k5 : σ.next + 1 < σ1.next := by omega
  have m5 : ¬ σ.next + 3 = σ.next + 1 := by omega
  refine ⟨?_⟩
  refine ⟨.ready, none, .norm, H.gy, rfl, rfl, ?_⟩
  simp only [go_sem, Nat.reducePow, Nat.reduceDiv, Nat.reduceMod, Nat.reduceAdd, Nat.reduceSub, Nat.reduceMul, Nat.reduceLeDiff, Nat.reduceLT, Nat.reduceEqDiff, reduceCtorEq, reduceIte, reduceDIte, if_pos rfl, Int.reduceLT, Int.reduceLE, Int.reduceEq, Int.reduceNeg, Int.reduceAdd, Int.reduceSub, Int.reduceMul, Int.reduceToNat, opLen, k5, g5, m5]
  have kd : ¬ σ.next + 3 = σ.next + 2 := by omega
  refine .collected (by simp only [go_sem, Nat.reducePow, Nat.reduceDiv, Nat.reduceMod, Nat.reduceAdd, Nat.reduceSub, Nat.reduceMul, Nat.reduceLeDiff, Nat.reduceLT, Nat.reduceEqDiff, reduceCtorEq, reduceIte, reduceDIte, if_pos rfl, Int.reduceLT, Int.reduceLE, Int.reduceEq, Int.reduceNeg, Int.reduceAdd, Int.reduceSub, Int.reduceMul, Int.reduceToNat, opLen, kd, gd]) ?_
  refine .ret cP_ok (by simp only [go_sem, Nat.reducePow, Nat.reduceDiv, Nat.reduceMod, Nat.reduceAdd, Nat.reduceSub, Nat.reduceMul, Nat.reduceLeDiff, Nat.reduceLT, Nat.reduceEqDiff, reduceCtorEq, reduceIte, reduceDIte, if_pos rfl, Int.reduceLT, Int.reduceLE, Int.reduceEq, Int.reduceNeg, Int.reduceAdd, Int.reduceSub, Int.reduceMul, Int.reduceToNat, opLen] <;> rfl) ?_
  simp only [go_sem, Nat.reducePow, Nat.reduceDiv, Nat.reduceMod, Nat.reduceAdd, Nat.reduceSub, Nat.reduceMul, Nat.reduceLeDiff, Nat.reduceLT, Nat.reduceEqDiff, reduceCtorEq, reduceIte, reduceDIte, if_pos rfl, Int.reduceLT, Int.reduceLE, Int.reduceEq, Int.reduceNeg, Int.reduceAdd, Int.reduceSub, Int.reduceMul, Int.reduceToNat, opLen]
  intro z hz
  rcases hz with (hz | hz) | hz <;> first | exact hB z hz | omega


/-- Bytes. -/
theorem bytes_call {σ : St} {l r : Nat} {V : LV} (H : LAt σ l r V) (hs : ∀ x ∈ V.L, 0 ≤ x.size ∧ x.size ≤ 2000) : DCall Try.prog 100 [.pointer (some ⟨l, 0, none⟩)] σ (.ret (.int .i64 (sumP V.L))) σ [] := by
  refine pure_call (enter (p := q8) Try.func100 rfl stat100 ?_) rfl
  simp only [go_sem, Nat.reducePow, Nat.reduceDiv, Nat.reduceMod, Nat.reduceAdd, Nat.reduceSub, Nat.reduceMul, Nat.reduceLeDiff, Nat.reduceLT, Nat.reduceEqDiff, reduceCtorEq, reduceIte, reduceDIte, if_pos rfl, Int.reduceLT, Int.reduceLE, Int.reduceEq, Int.reduceNeg, Int.reduceAdd, Int.reduceSub, Int.reduceMul, Int.reduceToNat, opLen, Try.f100, body103, body130]
  refine callX.hid (all_call H) ?_
  intro σ1 lg1 hlg1 h1
  obtain ⟨hB, hn, v, gv, hv⟩ := h1
  have hL : V.L.length < 1000000 := by
    obtain ⟨R, f, _, _, hR, hRs⟩ := H.core
    have := hR.le; omega
  refine ⟨?_⟩
  simp only [go_sem, Nat.reducePow, Nat.reduceDiv, Nat.reduceMod, Nat.reduceAdd, Nat.reduceSub, Nat.reduceMul, Nat.reduceLeDiff, Nat.reduceLT, Nat.reduceEqDiff, reduceCtorEq, reduceIte, reduceDIte, if_pos rfl, Int.reduceLT, Int.reduceLE, Int.reduceEq, Int.reduceNeg, Int.reduceAdd, Int.reduceSub, Int.reduceMul, Int.reduceToNat, opLen, Try.f100, body103, body130]
  refine .of (sum_call gv hn hv hs hL) ?_
  simp only [go_sem, Nat.reducePow, Nat.reduceDiv, Nat.reduceMod, Nat.reduceAdd, Nat.reduceSub, Nat.reduceMul, Nat.reduceLeDiff, Nat.reduceLT, Nat.reduceEqDiff, reduceCtorEq, reduceIte, reduceDIte, if_pos rfl, Int.reduceLT, Int.reduceLE, Int.reduceEq, Int.reduceNeg, Int.reduceAdd, Int.reduceSub, Int.reduceMul, Int.reduceToNat, opLen, Try.f100, body103, body130]
  exact hB

end Go.Ab

set_option linter.unusedSimpArgs false
set_option linter.unusedVariables false
namespace Go.Ab
open Go.Proofs

noncomputable def apA : Code := match findR (Try.f132.body.getD .skip) with | some x => x.2.1 | none => .skip
noncomputable def apD : Code := match findR (Try.f132.body.getD .skip) with | some x => x.2.2 | none => .skip

structure JA (σ0 : St) (ts : List Value) (done : List Pk) (σ : St) : Prop where
  nx : σ0.next + 3 ≤ σ.next
  old : ∀ z, z < σ0.next → σ.get z = σ0.get z
  g2 : ∃ w, σ.get σ0.next = some (.cells [w] false) ∧ PkS (σ0.next + 3) σ w done
  gd : σ.get (σ0.next + 1) = some (.deferred false)
  gy : σ.get (σ0.next + 2) = some (loopOb .ready none ts #[7] apA apD (σ0.next + 1))

set_option maxHeartbeats 1600000 in
set_option maxRecDepth 20000 in
theorem ap_yields {σ0 : St} {ts : List Value} {L : List Pk} (hts : ts.length = 13) (t2 : lget ts 2 = .pointer (some ⟨σ0.next, 0, none⟩)) (hL : L.length < 1000000) :
    Yields (σ0.next + 2) (fun z => σ0.next ≤ z) L (JA σ0 ts) := by
  refine ⟨fun done x rest σ hsp H => ?_, fun done σ σ' H hn hg => ?_⟩
  · have hlen : done.length < 1000000 := by
      have := congrArg List.length hsp
      simp at this; omega
    have nx := H.nx
    have gy := H.gy
    obtain ⟨w, g2, hw⟩ := H.g2
    have k2 : σ0.next < σ.next := by omega
    have ky : σ0.next + 2 < σ.next := by omega
    have k2' : σ0.next < σ.next + 1 := by omega
    have m1 : ¬ σ0.next + 2 = σ0.next := by omega
    have m3 : ¬ σ.next = σ0.next + 2 := by omega
    have m4 : ¬ σ0.next + 2 = σ.next := by omega
    have m5 : ¬ σ0.next + 2 = σ.next + 1 := by omega
    refine roundX.enter (p := q8) (bt := btAll 132) cP_ok mixed gy rfl (by kernel_rfl) (by kernel_rfl) ?_
    simp only [go_sem, Nat.reducePow, Nat.reduceDiv, Nat.reduceMod, Nat.reduceAdd, Nat.reduceSub, Nat.reduceMul, Nat.reduceLeDiff, Nat.reduceLT, Nat.reduceEqDiff, reduceCtorEq, reduceIte, reduceDIte, if_pos rfl, Int.reduceLT, Int.reduceLE, Int.reduceEq, Int.reduceNeg, Int.reduceAdd, Int.reduceSub, Int.reduceMul, Int.reduceToNat, opLen, Pk.val, Pk.cells, apA, findR, Try.f132, Option.getD, roundTs, hts]
    refine midRW.mk ?_ ?_
    · simp only [go_sem, Nat.reducePow, Nat.reduceDiv, Nat.reduceMod, Nat.reduceAdd, Nat.reduceSub, Nat.reduceMul, Nat.reduceLeDiff, Nat.reduceLT, Nat.reduceEqDiff, reduceCtorEq, reduceIte, reduceDIte, if_pos rfl, Int.reduceLT, Int.reduceLE, Int.reduceEq, Int.reduceNeg, Int.reduceAdd, Int.reduceSub, Int.reduceMul, Int.reduceToNat, opLen, ky, m3]
      exact gy
    rcases hw with ⟨rfl, rfl⟩ | ⟨a, rfl, ga, ha1, ha2⟩
    · have hap : ∀ σ : St, ∀ b, σ.get b = some (.cells x.cells false) → opAppend (cP Try.prog).T σ 168 168 (.slice none 0 0) (.slice (some ⟨b, 0, some 0⟩) 1 1) = some (.new (.cells x.cells false) (.slice (some ⟨σ.next, 0, some 5⟩) 1 1) [b]) := fun σ b h => pk_first h
      simp only [Pk.cells] at hap
      simp only [go_sem, Nat.reducePow, Nat.reduceDiv, Nat.reduceMod, Nat.reduceAdd, Nat.reduceSub, Nat.reduceMul, Nat.reduceLeDiff, Nat.reduceLT, Nat.reduceEqDiff, reduceCtorEq, reduceIte, reduceDIte, if_pos rfl, Int.reduceLT, Int.reduceLE, Int.reduceEq, Int.reduceNeg, Int.reduceAdd, Int.reduceSub, Int.reduceMul, Int.reduceToNat, opLen, zerosN, apD, findR, Try.f132, Option.getD, hts, t2, g2, k2, k2', ky, m1, m3, m4, m5, hap]
      refine ⟨by simp only [go_sem, Nat.reducePow, Nat.reduceDiv, Nat.reduceMod, Nat.reduceAdd, Nat.reduceSub, Nat.reduceMul, Nat.reduceLeDiff, Nat.reduceLT, Nat.reduceEqDiff, reduceCtorEq, reduceIte, reduceDIte, if_pos rfl, Int.reduceLT, Int.reduceLE, Int.reduceEq, Int.reduceNeg, Int.reduceAdd, Int.reduceSub, Int.reduceMul, Int.reduceToNat, opLen, St.next_put] <;> omega, fun z hz => ?_, ⟨.slice (some ⟨σ.next + 2, 0, some 5⟩) 1 1, ?_, .inr ⟨σ.next + 2, rfl, ?_, by omega, by simp only [go_sem, Nat.reducePow, Nat.reduceDiv, Nat.reduceMod, Nat.reduceAdd, Nat.reduceSub, Nat.reduceMul, Nat.reduceLeDiff, Nat.reduceLT, Nat.reduceEqDiff, reduceCtorEq, reduceIte, reduceDIte, if_pos rfl, Int.reduceLT, Int.reduceLE, Int.reduceEq, Int.reduceNeg, Int.reduceAdd, Int.reduceSub, Int.reduceMul, Int.reduceToNat, opLen, St.next_put] <;> omega⟩⟩, ?_, ?_⟩
      · have z1 : ¬ σ0.next + 2 = z := by omega
        have z2 : ¬ σ0.next = z := by omega
        have z3 : z < σ.next := by omega
        simp only [go_sem, Nat.reducePow, Nat.reduceDiv, Nat.reduceMod, Nat.reduceAdd, Nat.reduceSub, Nat.reduceMul, Nat.reduceLeDiff, Nat.reduceLT, Nat.reduceEqDiff, reduceCtorEq, reduceIte, reduceDIte, if_pos rfl, Int.reduceLT, Int.reduceLE, Int.reduceEq, Int.reduceNeg, Int.reduceAdd, Int.reduceSub, Int.reduceMul, Int.reduceToNat, opLen, z1, z2, z3]
        exact H.old z hz
      · simp only [go_sem, Nat.reducePow, Nat.reduceDiv, Nat.reduceMod, Nat.reduceAdd, Nat.reduceSub, Nat.reduceMul, Nat.reduceLeDiff, Nat.reduceLT, Nat.reduceEqDiff, reduceCtorEq, reduceIte, reduceDIte, if_pos rfl, Int.reduceLT, Int.reduceLE, Int.reduceEq, Int.reduceNeg, Int.reduceAdd, Int.reduceSub, Int.reduceMul, Int.reduceToNat, opLen, m1, k2]
      · have z1 : ¬ σ0.next + 2 = σ.next + 2 := by omega
        have z2 : ¬ σ0.next = σ.next + 2 := by omega
        simp only [go_sem, Nat.reducePow, Nat.reduceDiv, Nat.reduceMod, Nat.reduceAdd, Nat.reduceSub, Nat.reduceMul, Nat.reduceLeDiff, Nat.reduceLT, Nat.reduceEqDiff, reduceCtorEq, reduceIte, reduceDIte, if_pos rfl, Int.reduceLT, Int.reduceLE, Int.reduceEq, Int.reduceNeg, Int.reduceAdd, Int.reduceSub, Int.reduceMul, Int.reduceToNat, opLen, z1, z2, cellsP, Pk.cells]
      · have z1 : ¬ σ0.next + 2 = σ0.next + 1 := by omega
        have z2 : ¬ σ0.next = σ0.next + 1 := by omega
        have z3 : σ0.next + 1 < σ.next := by omega
        simp only [go_sem, Nat.reducePow, Nat.reduceDiv, Nat.reduceMod, Nat.reduceAdd, Nat.reduceSub, Nat.reduceMul, Nat.reduceLeDiff, Nat.reduceLT, Nat.reduceEqDiff, reduceCtorEq, reduceIte, reduceDIte, if_pos rfl, Int.reduceLT, Int.reduceLE, Int.reduceEq, Int.reduceNeg, Int.reduceAdd, Int.reduceSub, Int.reduceMul, Int.reduceToNat, opLen, z1, z2, z3]
        exact H.gd
      · rw [St.get_set, if_pos rfl]
        rfl
    · have hap : ∀ σ : St, ∀ b, σ.get a = some (.cells (cellsP done) false) → σ.get b = some (.cells x.cells false) → opAppend (cP Try.prog).T σ 168 168 (.slice (some ⟨a, 0, some 5⟩) done.length done.length) (.slice (some ⟨b, 0, some 0⟩) 1 1) =
          some (.eff (.slice (some ⟨σ.next, 0, some 5⟩) (done.length + 1) (done.length + 1)) ((σ.new (.cells (cellsP (done ++ [x])) false)).put a none) [a]) := fun σ b h1 h2 => pk_more h1 h2 (by omega)
      simp only [Pk.cells] at hap
      have n1 : ¬ a = σ0.next := by omega
      have n2 : ¬ a = σ0.next + 2 := by omega
      have n3 : ¬ σ0.next + 2 = a := by omega
      simp only [go_sem, Nat.reducePow, Nat.reduceDiv, Nat.reduceMod, Nat.reduceAdd, Nat.reduceSub, Nat.reduceMul, Nat.reduceLeDiff, Nat.reduceLT, Nat.reduceEqDiff, reduceCtorEq, reduceIte, reduceDIte, if_pos rfl, Int.reduceLT, Int.reduceLE, Int.reduceEq, Int.reduceNeg, Int.reduceAdd, Int.reduceSub, Int.reduceMul, Int.reduceToNat, opLen, zerosN, apD, findR, Try.f132, Option.getD, hts, t2, g2, ga, ha2, k2, k2', ky, m1, m3, m4, m5, n1, n2, n3, hap]
      have hdl : (done ++ [x]).length = done.length + 1 := by rw [List.length_append]; rfl
      refine ⟨by omega, ⟨by simp only [go_sem, Nat.reducePow, Nat.reduceDiv, Nat.reduceMod, Nat.reduceAdd, Nat.reduceSub, Nat.reduceMul, Nat.reduceLeDiff, Nat.reduceLT, Nat.reduceEqDiff, reduceCtorEq, reduceIte, reduceDIte, if_pos rfl, Int.reduceLT, Int.reduceLE, Int.reduceEq, Int.reduceNeg, Int.reduceAdd, Int.reduceSub, Int.reduceMul, Int.reduceToNat, opLen, St.next_put] <;> omega, fun z hz => ?_, ⟨.slice (some ⟨σ.next + 2, 0, some 5⟩) (done ++ [x]).length (done ++ [x]).length, ?_, .inr ⟨σ.next + 2, rfl, ?_, by omega, by simp only [go_sem, Nat.reducePow, Nat.reduceDiv, Nat.reduceMod, Nat.reduceAdd, Nat.reduceSub, Nat.reduceMul, Nat.reduceLeDiff, Nat.reduceLT, Nat.reduceEqDiff, reduceCtorEq, reduceIte, reduceDIte, if_pos rfl, Int.reduceLT, Int.reduceLE, Int.reduceEq, Int.reduceNeg, Int.reduceAdd, Int.reduceSub, Int.reduceMul, Int.reduceToNat, opLen, St.next_put] <;> omega⟩⟩, ?_, ?_⟩⟩
      · have z1 : ¬ σ0.next + 2 = z := by omega
        have z2 : ¬ σ0.next = z := by omega
        have z3 : z < σ.next := by omega
        have z4 : ¬ a = z := by omega
        simp only [go_sem, Nat.reducePow, Nat.reduceDiv, Nat.reduceMod, Nat.reduceAdd, Nat.reduceSub, Nat.reduceMul, Nat.reduceLeDiff, Nat.reduceLT, Nat.reduceEqDiff, reduceCtorEq, reduceIte, reduceDIte, if_pos rfl, Int.reduceLT, Int.reduceLE, Int.reduceEq, Int.reduceNeg, Int.reduceAdd, Int.reduceSub, Int.reduceMul, Int.reduceToNat, opLen, z1, z2, z3, z4]
        exact H.old z hz
      · rw [hdl]; simp only [go_sem, Nat.reducePow, Nat.reduceDiv, Nat.reduceMod, Nat.reduceAdd, Nat.reduceSub, Nat.reduceMul, Nat.reduceLeDiff, Nat.reduceLT, Nat.reduceEqDiff, reduceCtorEq, reduceIte, reduceDIte, if_pos rfl, Int.reduceLT, Int.reduceLE, Int.reduceEq, Int.reduceNeg, Int.reduceAdd, Int.reduceSub, Int.reduceMul, Int.reduceToNat, opLen, m1, k2]
      · have z1 : ¬ σ0.next + 2 = σ.next + 2 := by omega
        have z2 : ¬ σ0.next = σ.next + 2 := by omega
        have z4 : ¬ a = σ.next + 2 := by omega
        simp only [go_sem, Nat.reducePow, Nat.reduceDiv, Nat.reduceMod, Nat.reduceAdd, Nat.reduceSub, Nat.reduceMul, Nat.reduceLeDiff, Nat.reduceLT, Nat.reduceEqDiff, reduceCtorEq, reduceIte, reduceDIte, if_pos rfl, Int.reduceLT, Int.reduceLE, Int.reduceEq, Int.reduceNeg, Int.reduceAdd, Int.reduceSub, Int.reduceMul, Int.reduceToNat, opLen, z1, z2, z4]
      · have z1 : ¬ σ0.next + 2 = σ0.next + 1 := by omega
        have z2 : ¬ σ0.next = σ0.next + 1 := by omega
        have z3 : σ0.next + 1 < σ.next := by omega
        have z4 : ¬ a = σ0.next + 1 := by omega
        simp only [go_sem, Nat.reducePow, Nat.reduceDiv, Nat.reduceMod, Nat.reduceAdd, Nat.reduceSub, Nat.reduceMul, Nat.reduceLeDiff, Nat.reduceLT, Nat.reduceEqDiff, reduceCtorEq, reduceIte, reduceDIte, if_pos rfl, Int.reduceLT, Int.reduceLE, Int.reduceEq, Int.reduceNeg, Int.reduceAdd, Int.reduceSub, Int.reduceMul, Int.reduceToNat, opLen, z1, z2, z3, z4]
        exact H.gd
      · rw [St.get_set, if_pos rfl]
        rfl
  · have nx := H.nx
    obtain ⟨w, g2, hw⟩ := H.g2
    exact ⟨by omega, fun z hz => (hg z (by omega)).trans (H.old z hz), ⟨w, (hg _ (by omega)).trans g2, hw.keep hn fun a _ h => hg a h⟩, (hg _ (by omega)).trans H.gd, (hg _ (by omega)).trans H.gy⟩

/-- The frame of AppendSeq, where it comes to its range. -/
def apT (σ : St) (c : Nat) : List Value := [.slice none 0 0, .func (.func 133) ⟨[]⟩ ⟨[.pointer (some ⟨c, 0, none⟩)]⟩, .pointer (some ⟨σ.next, 0, none⟩), undef, .slice none 0 0, undef, .func (.func 133) ⟨[]⟩ ⟨[.pointer (some ⟨c, 0, none⟩)]⟩, undef, undef, undef, undef, undef, undef]

def ApR (σ : St) (L : List Pk) (e : AE) (σ' : St) (lg : Log) : Prop := ∃ w, e = .ret w ∧ (∀ z ∈ lg, σ.next ≤ z) ∧ PkS (σ.next + 3) σ' w L

theorem ap_call {σ : St} {c lo : Nat} {v : Value} {L : List Pk} (gc : σ.get c = some (.cells [v] false)) (hc : c < σ.next) (hv : PkS lo σ v L) (hL : L.length < 1000000) :
    callX Try.prog 132 [.slice none 0 0, .func (.func 133) ⟨[]⟩ ⟨[.pointer (some ⟨c, 0, none⟩)]⟩] σ (ApR σ L) := by
  refine callX.enterD (p := q8) cP_ok mixed Try.func132 rfl stat132 ?_
  simp only [go_sem, Nat.reducePow, Nat.reduceDiv, Nat.reduceMod, Nat.reduceAdd, Nat.reduceSub, Nat.reduceMul, Nat.reduceLeDiff, Nat.reduceLT, Nat.reduceEqDiff, reduceCtorEq, reduceIte, reduceDIte, if_pos rfl, Int.reduceLT, Int.reduceLE, Int.reduceEq, Int.reduceNeg, Int.reduceAdd, Int.reduceSub, Int.reduceMul, Int.reduceToNat, opLen, Try.f132]
  refine rangeX.of cP_ok (f := 133) (xs := []) (ys := [.pointer (some ⟨c, 0, none⟩)]) (by simp only [go_sem, Nat.reducePow, Nat.reduceDiv, Nat.reduceMod, Nat.reduceAdd, Nat.reduceSub, Nat.reduceMul, Nat.reduceLeDiff, Nat.reduceLT, Nat.reduceEqDiff, reduceCtorEq, reduceIte, reduceDIte, if_pos rfl, Int.reduceLT, Int.reduceLE, Int.reduceEq, Int.reduceNeg, Int.reduceAdd, Int.reduceSub, Int.reduceMul, Int.reduceToNat, opLen]) body133 ?_
  have hY := ap_yields (σ0 := σ) (ts := apT σ c) (L := L) rfl rfl hL
  refine callX.hid (R := fun σ' lg => (∀ z ∈ lg, σ.next ≤ z) ∧ JA σ (apT σ c) L σ') (seq_call (c := c) (v := v) (n0 := σ.next) (lo := lo) hY (fun z hz => hz) (fun done σ' H => ⟨?_, ?_⟩) hL ?_ ⟨?_, ?_, ⟨.slice none 0 0, ?_, .inl ⟨rfl, rfl⟩⟩, ?_, ?_⟩) ?_
  · rcases hv with h | ⟨a, h1, h2, h3, h4⟩
    · exact .inl h
    · exact .inr ⟨a, h1, (H.old a h4).trans h2, h3, by have := H.nx; omega⟩
  · have := H.nx; omega
  · simp only [go_sem, Nat.reducePow, Nat.reduceDiv, Nat.reduceMod, Nat.reduceAdd, Nat.reduceSub, Nat.reduceMul, Nat.reduceLeDiff, Nat.reduceLT, Nat.reduceEqDiff, reduceCtorEq, reduceIte, reduceDIte, if_pos rfl, Int.reduceLT, Int.reduceLE, Int.reduceEq, Int.reduceNeg, Int.reduceAdd, Int.reduceSub, Int.reduceMul, Int.reduceToNat, opLen, hc, gc]
  · simp only [go_sem, Nat.reducePow, Nat.reduceDiv, Nat.reduceMod, Nat.reduceAdd, Nat.reduceSub, Nat.reduceMul, Nat.reduceLeDiff, Nat.reduceLT, Nat.reduceEqDiff, reduceCtorEq, reduceIte, reduceDIte, if_pos rfl, Int.reduceLT, Int.reduceLE, Int.reduceEq, Int.reduceNeg, Int.reduceAdd, Int.reduceSub, Int.reduceMul, Int.reduceToNat, opLen, St.next_put] <;> omega
  · intro z hz
    simp only [go_sem, Nat.reducePow, Nat.reduceDiv, Nat.reduceMod, Nat.reduceAdd, Nat.reduceSub, Nat.reduceMul, Nat.reduceLeDiff, Nat.reduceLT, Nat.reduceEqDiff, reduceCtorEq, reduceIte, reduceDIte, if_pos rfl, Int.reduceLT, Int.reduceLE, Int.reduceEq, Int.reduceNeg, Int.reduceAdd, Int.reduceSub, Int.reduceMul, Int.reduceToNat, opLen, hz]
  · simp only [go_sem, Nat.reducePow, Nat.reduceDiv, Nat.reduceMod, Nat.reduceAdd, Nat.reduceSub, Nat.reduceMul, Nat.reduceLeDiff, Nat.reduceLT, Nat.reduceEqDiff, reduceCtorEq, reduceIte, reduceDIte, if_pos rfl, Int.reduceLT, Int.reduceLE, Int.reduceEq, Int.reduceNeg, Int.reduceAdd, Int.reduceSub, Int.reduceMul, Int.reduceToNat, opLen]
  · simp only [go_sem, Nat.reducePow, Nat.reduceDiv, Nat.reduceMod, Nat.reduceAdd, Nat.reduceSub, Nat.reduceMul, Nat.reduceLeDiff, Nat.reduceLT, Nat.reduceEqDiff, reduceCtorEq, reduceIte, reduceDIte, if_pos rfl, Int.reduceLT, Int.reduceLE, Int.reduceEq, Int.reduceNeg, Int.reduceAdd, Int.reduceSub, Int.reduceMul, Int.reduceToNat, opLen]
  · simp only [go_sem, Nat.reducePow, Nat.reduceDiv, Nat.reduceMod, Nat.reduceAdd, Nat.reduceSub, Nat.reduceMul, Nat.reduceLeDiff, Nat.reduceLT, Nat.reduceEqDiff, reduceCtorEq, reduceIte, reduceDIte, if_pos rfl, Int.reduceLT, Int.reduceLE, Int.reduceEq, Int.reduceNeg, Int.reduceAdd, Int.reduceSub, Int.reduceMul, Int.reduceToNat, opLen]; rfl
  intro σ1 lg1 hlg1 h1
  obtain ⟨hB, H⟩ := h1
  have nx := H.nx
  obtain ⟨w, g2, hw⟩ := H.g2
  have gd := H.gd
  have k5 : σ.next < σ1.next := by omega
  have m5 : ¬ σ.next + 2 = σ.next := by omega
  refine ⟨?_⟩
  refine ⟨.ready, none, .norm, H.gy, rfl, rfl, ?_⟩
  simp only [go_sem, Nat.reducePow, Nat.reduceDiv, Nat.reduceMod, Nat.reduceAdd, Nat.reduceSub, Nat.reduceMul, Nat.reduceLeDiff, Nat.reduceLT, Nat.reduceEqDiff, reduceCtorEq, reduceIte, reduceDIte, if_pos rfl, Int.reduceLT, Int.reduceLE, Int.reduceEq, Int.reduceNeg, Int.reduceAdd, Int.reduceSub, Int.reduceMul, Int.reduceToNat, opLen, k5, g2, m5]
  have kd : ¬ σ.next + 2 = σ.next + 1 := by omega
  refine .collected (by simp only [go_sem, Nat.reducePow, Nat.reduceDiv, Nat.reduceMod, Nat.reduceAdd, Nat.reduceSub, Nat.reduceMul, Nat.reduceLeDiff, Nat.reduceLT, Nat.reduceEqDiff, reduceCtorEq, reduceIte, reduceDIte, if_pos rfl, Int.reduceLT, Int.reduceLE, Int.reduceEq, Int.reduceNeg, Int.reduceAdd, Int.reduceSub, Int.reduceMul, Int.reduceToNat, opLen, kd, gd]) ?_
  refine .ret cP_ok (by simp only [go_sem, Nat.reducePow, Nat.reduceDiv, Nat.reduceMod, Nat.reduceAdd, Nat.reduceSub, Nat.reduceMul, Nat.reduceLeDiff, Nat.reduceLT, Nat.reduceEqDiff, reduceCtorEq, reduceIte, reduceDIte, if_pos rfl, Int.reduceLT, Int.reduceLE, Int.reduceEq, Int.reduceNeg, Int.reduceAdd, Int.reduceSub, Int.reduceMul, Int.reduceToNat, opLen] <;> rfl) ?_
  simp only [go_sem, Nat.reducePow, Nat.reduceDiv, Nat.reduceMod, Nat.reduceAdd, Nat.reduceSub, Nat.reduceMul, Nat.reduceLeDiff, Nat.reduceLT, Nat.reduceEqDiff, reduceCtorEq, reduceIte, reduceDIte, if_pos rfl, Int.reduceLT, Int.reduceLE, Int.reduceEq, Int.reduceNeg, Int.reduceAdd, Int.reduceSub, Int.reduceMul, Int.reduceToNat, opLen]
  refine ⟨w, rfl, fun z hz => ?_, hw.keep (by simp only [go_sem, Nat.reducePow, Nat.reduceDiv, Nat.reduceMod, Nat.reduceAdd, Nat.reduceSub, Nat.reduceMul, Nat.reduceLeDiff, Nat.reduceLT, Nat.reduceEqDiff, reduceCtorEq, reduceIte, reduceDIte, if_pos rfl, Int.reduceLT, Int.reduceLE, Int.reduceEq, Int.reduceNeg, Int.reduceAdd, Int.reduceSub, Int.reduceMul, Int.reduceToNat, opLen, St.next_put] <;> omega) fun a h1 h2 => ?_⟩
  · simp only [List.mem_append, List.mem_cons, List.not_mem_nil, or_false, false_or] at hz
    rcases hz with (hz | hz) | hz <;> first | exact hB z hz | omega
  · have q1 : ¬ σ.next + 1 = a := by omega
    have q2 : ¬ σ.next + 2 = a := by omega
    simp only [go_sem, Nat.reducePow, Nat.reduceDiv, Nat.reduceMod, Nat.reduceAdd, Nat.reduceSub, Nat.reduceMul, Nat.reduceLeDiff, Nat.reduceLT, Nat.reduceEqDiff, reduceCtorEq, reduceIte, reduceDIte, if_pos rfl, Int.reduceLT, Int.reduceLE, Int.reduceEq, Int.reduceNeg, Int.reduceAdd, Int.reduceSub, Int.reduceMul, Int.reduceToNat, opLen, q1, q2]

/-- Collect. -/
theorem collect_call {σ : St} {c lo : Nat} {v : Value} {L : List Pk} (gc : σ.get c = some (.cells [v] false)) (hc : c < σ.next) (hv : PkS lo σ v L) (hL : L.length < 1000000) :
    callX Try.prog 102 [.func (.func 133) ⟨[]⟩ ⟨[.pointer (some ⟨c, 0, none⟩)]⟩] σ (ApR σ L) := by
  refine enter (p := q8) Try.func102 rfl stat102 ?_
  simp only [go_sem, Nat.reducePow, Nat.reduceDiv, Nat.reduceMod, Nat.reduceAdd, Nat.reduceSub, Nat.reduceMul, Nat.reduceLeDiff, Nat.reduceLT, Nat.reduceEqDiff, reduceCtorEq, reduceIte, reduceDIte, if_pos rfl, Int.reduceLT, Int.reduceLE, Int.reduceEq, Int.reduceNeg, Int.reduceAdd, Int.reduceSub, Int.reduceMul, Int.reduceToNat, opLen, Try.f102, body132]
  refine callX.hidE (ap_call gc hc hv hL) ?_
  intro e σ1 lg1 hlg1 h1
  obtain ⟨w, rfl, hB, hw⟩ := h1
  refine ⟨?_⟩
  simp only [go_sem, Nat.reducePow, Nat.reduceDiv, Nat.reduceMod, Nat.reduceAdd, Nat.reduceSub, Nat.reduceMul, Nat.reduceLeDiff, Nat.reduceLT, Nat.reduceEqDiff, reduceCtorEq, reduceIte, reduceDIte, if_pos rfl, Int.reduceLT, Int.reduceLE, Int.reduceEq, Int.reduceNeg, Int.reduceAdd, Int.reduceSub, Int.reduceMul, Int.reduceToNat, opLen]
  exact ⟨w, rfl, hB, hw⟩

end Go.Ab

set_option linter.unusedSimpArgs false
set_option linter.unusedVariables false
namespace Go.Ab
open Go.Proofs

theorem zeros_pk : ∀ n, zerosN [.int .i64 0, .int .i64 0, .int .i64 0] n = cellsP (List.replicate n Pk.zero)
  | 0 => rfl
  | n + 1 => by
    have := zeros_pk n
    simp only [zerosN, this, List.replicate_succ, cellsP, Pk.cells, Pk.zero]

theorem pk_make {σ : St} {n : Nat} (hn : n < 1000000) : opMakeSlice (cP Try.prog).T σ 168 (.int .i64 n) (.int .i64 n) = some (.new (.cells (cellsP (List.replicate n Pk.zero)) false) (.slice (some ⟨σ.next, 0, some 0⟩) n n) []) := by
  have h1 : (0 : Int) ≤ n := by omega
  have h2 : (n : Int) < 4294967296 := by omega
  simp only [opMakeSlice, und168, inf54, Try.t54]
  simp [plain, plainL, vcells, zeros_pk, h1, h2]

theorem over_zero : ∀ (L : List Pk) (n : Nat), L.length ≤ n → over (cellsP (List.replicate n Pk.zero)) 0 (cellsP L) = cellsP (L ++ List.replicate (n - L.length) Pk.zero)
  | [], n, _ => by simp only [cellsP, List.length_nil, Nat.sub_zero, List.nil_append]; cases cellsP (List.replicate n Pk.zero) <;> rfl
  | x :: L, 0, h => by simp at h
  | x :: L, n + 1, h => by
    have := over_zero L n (by simpa using h)
    simp only [List.replicate_succ, cellsP, Pk.cells, Pk.zero, List.cons_append, List.nil_append, over, List.length_cons, Nat.add_sub_add_right] at this ⊢
    rw [this]

theorem oneCells_append : ∀ (a b : List Value), oneCells a = true → oneCells b = true → oneCells (a ++ b) = true
  | [], _, _, h => h
  | x :: a, b, h, h' => by
    cases x <;> simp_all [oneCells] <;> exact oneCells_append a b (by simp_all) h'

theorem oneCells_pk : ∀ L : List Pk, oneCells (cellsP L) = true
  | [] => rfl
  | x :: L => by simp [cellsP, Pk.cells, oneCells, oneCells_pk L]

theorem pk_copy {σ : St} {a b n cap : Nat} {L : List Pk} (gb : σ.get b = some (.cells (cellsP (List.replicate n Pk.zero)) false)) (ga : σ.get a = some (.cells (cellsP L) false)) (h0 : 1 ≤ L.length) (hn : L.length ≤ n) :
    opCopy (cP Try.prog).T σ 168 (.slice (some ⟨b, 0, some 0⟩) n n) (.slice (some ⟨a, 0, some 5⟩) L.length cap) = some (.eff (.int .i64 L.length) (σ.set b (.cells (cellsP (L ++ List.replicate (n - L.length) Pk.zero)) false)) [b]) := by
  have h1 : Nat.min L.length n = L.length := Nat.min_eq_left hn
  have h2 : ¬ L.length * 3 = 0 := by omega
  have h3 : L.length * 3 ≤ (cellsP L).length := by rw [cellsP_length]; omega
  have h4 : (cellsP L).take (L.length * 3) = cellsP L := List.take_of_length_le (by rw [cellsP_length]; omega)
  have h5 : L.length * 3 ≤ (cellsP (List.replicate n Pk.zero)).length := by rw [cellsP_length, List.length_replicate]; omega
  have h6 : L.length ≠ 0 := by omega
  simp only [opCopy, und168, inf54, Try.t54, srcLen, srcCells, h1, ga, gb, h2, if_false, Nat.zero_add, List.drop_zero, h3, if_true, h4, h5, oneCells_pk, ne_eq, h6, not_false_eq_true, and_self, over_zero L n hn]

theorem pk_copy1 {σ : St} {a b n cap : Nat} {vs ws : List Value} (gb : σ.get b = some (.cells vs false)) (ga : σ.get a = some (.cells ws false)) : opCopy (cP Try.prog).T σ 168 (.slice (some ⟨b, 0, some 0⟩) n n) (.slice (some ⟨a, 0, some 5⟩) 0 cap) = some (.val (.int .i64 0) []) := by
  have h1 : Nat.min 0 n = 0 := Nat.min_eq_left (Nat.zero_le _)
  simp only [opCopy, und168, inf54, Try.t54, srcLen, srcCells, h1, gb]
  simp

theorem pk_copy0 {σ : St} {b n : Nat} {vs : List Value} (gb : σ.get b = some (.cells vs false)) : opCopy (cP Try.prog).T σ 168 (.slice (some ⟨b, 0, some 0⟩) n n) (.slice none 0 0) = some (.val (.int .i64 0) []) := by
  have h1 : Nat.min 0 n = 0 := Nat.min_eq_left (Nat.zero_le _)
  simp only [opCopy, und168, inf54, Try.t54, srcLen, srcCells, h1, gb]
  simp

def LayR (σ : St) (l n : Nat) (V : LV) (σ' : St) (lg : Log) : Prop := (∀ z ∈ lg, z = l ∨ σ.next ≤ z) ∧ σ.next < σ'.next ∧ ∃ R, R.length = n ∧ σ'.get l = some (.cells [.int .i64 V.lp, .int .i64 V.lb, .int .i64 V.room, .slice (some ⟨σ.next, 0, some 0⟩) n n, .int .i64 (0 : Nat), .int .i64 V.L.length, .bool true] false) ∧ σ'.get σ.next = some (.cells (cellsP R) false) ∧ Ring R 0 V.L

set_option maxRecDepth 20000 in
theorem llay_call {σ : St} {l lo n : Nat} {lp lb room : Int} {s f m w : Value} {L : List Pk} (gl : σ.get l = some (.cells [.int .i64 lp, .int .i64 lb, .int .i64 room, s, f, m, .bool true] false)) (hl : l < σ.next) (hw : PkS lo σ w L) (hlo : l < lo) (hn : 2 ≤ n ∧ n < 1000000) (hL : L.length ≤ n) :
    callX Try.prog 101 [.pointer (some ⟨l, 0, none⟩), w, .int .i64 n] σ fun e σ' lg => e = .ret (.tuple ⟨[]⟩) ∧ LayR σ l n ⟨lp, lb, room, L⟩ σ' lg := by
  have c1 : (1 : Int) < (n : Int) := by omega
  have hmk := pk_make (σ := σ) hn.2
  have n1 : ¬ σ.next = l := by omega
  have n2 : ¬ l = σ.next := by omega
  have R := Ring.lay L n hL (by omega)
  have hlen : (L ++ List.replicate (n - L.length) Pk.zero).length = n := by simp; omega
  by_cases hLn : L = []
  · subst hLn
    have key : ∀ w : Value, (w = .slice none 0 0 ∨ ∃ a, w = .slice (some ⟨a, 0, some 5⟩) 0 0 ∧ σ.get a = some (.cells [] false) ∧ lo ≤ a ∧ a < σ.next) → callX Try.prog 101 [.pointer (some ⟨l, 0, none⟩), w, .int .i64 n] σ fun e σ' lg => e = .ret (.tuple ⟨[]⟩) ∧ LayR σ l n ⟨lp, lb, room, []⟩ σ' lg := by
      intro w hw
      have hlw : opLen (cP Try.prog).T ((σ.new (.cells (cellsP (List.replicate n Pk.zero)) false)).set l (.cells [.int .i64 lp, .int .i64 lb, .int .i64 room, .slice (some ⟨σ.next, 0, some 0⟩) n n, f, m, .bool true] false)) 168 w = some (.val (.int .i64 0) []) := by
        rcases hw with rfl | ⟨a, rfl, _⟩ <;> simp only [opLen, und168] <;> rfl
      have hcp : opCopy (cP Try.prog).T ((σ.new (.cells (cellsP (List.replicate n Pk.zero)) false)).set l (.cells [.int .i64 lp, .int .i64 lb, .int .i64 room, .slice (some ⟨σ.next, 0, some 0⟩) n n, f, m, .bool true] false)) 168 (.slice (some ⟨σ.next, 0, some 0⟩) n n) w = some (.val (.int .i64 0) []) := by
        rcases hw with rfl | ⟨a, rfl, ga, ha1, ha2⟩
        · exact pk_copy0 (by rw [St.get_set, if_neg n2, St.get_new, if_pos rfl])
        · exact pk_copy1 (by rw [St.get_set, if_neg n2, St.get_new, if_pos rfl]) (by rw [St.get_set, if_neg (by omega), St.get_new, if_neg (by omega)]; exact ga)
      refine enter (p := q8) Try.func101 rfl stat101 ?_
      simp only [go_sem, Nat.reducePow, Nat.reduceDiv, Nat.reduceMod, Nat.reduceAdd, Nat.reduceSub, Nat.reduceMul, Nat.reduceLeDiff, Nat.reduceLT, Nat.reduceEqDiff, reduceCtorEq, reduceIte, reduceDIte, if_pos rfl, Int.reduceLT, Int.reduceLE, Int.reduceEq, Int.reduceNeg, Int.reduceAdd, Int.reduceSub, Int.reduceMul, Int.reduceToNat, undef, opMax, Try.f101, gl, hl, c1, n1, n2, hmk, hcp, hlw]
      refine ⟨fun z hz => by simp at hz; exact .inl hz, by simp only [go_sem, Nat.reducePow, Nat.reduceDiv, Nat.reduceMod, Nat.reduceAdd, Nat.reduceSub, Nat.reduceMul, Nat.reduceLeDiff, Nat.reduceLT, Nat.reduceEqDiff, reduceCtorEq, reduceIte, reduceDIte, if_pos rfl, Int.reduceLT, Int.reduceLE, Int.reduceEq, Int.reduceNeg, Int.reduceAdd, Int.reduceSub, Int.reduceMul, Int.reduceToNat, opLen] <;> omega, _, hlen, ?_, ?_, R⟩
      · rw [St.get_set, if_pos rfl]; rfl
      · simp only [go_sem, Nat.reducePow, Nat.reduceDiv, Nat.reduceMod, Nat.reduceAdd, Nat.reduceSub, Nat.reduceMul, Nat.reduceLeDiff, Nat.reduceLT, Nat.reduceEqDiff, reduceCtorEq, reduceIte, reduceDIte, if_pos rfl, Int.reduceLT, Int.reduceLE, Int.reduceEq, Int.reduceNeg, Int.reduceAdd, Int.reduceSub, Int.reduceMul, Int.reduceToNat, opLen, n2, List.length_nil, Nat.sub_zero]
    rcases hw with ⟨rfl, _⟩ | ⟨a, rfl, ga, ha1, ha2⟩
    · exact key _ (.inl rfl)
    · exact key _ (.inr ⟨a, rfl, ga, ha1, ha2⟩)
  have h1 : 1 ≤ L.length := by cases L <;> simp_all
  rcases hw with ⟨rfl, rfl⟩ | ⟨a, rfl, ga, ha1, ha2⟩
  · simp at hLn
  · have hcp : ∀ σ : St, ∀ b, σ.get b = some (.cells (cellsP (List.replicate n Pk.zero)) false) → σ.get a = some (.cells (cellsP L) false) → opCopy (cP Try.prog).T σ 168 (.slice (some ⟨b, 0, some 0⟩) n n) (.slice (some ⟨a, 0, some 5⟩) L.length L.length) = some (.eff (.int .i64 L.length) (σ.set b (.cells (cellsP (L ++ List.replicate (n - L.length) Pk.zero)) false)) [b]) := fun σ b h2 h3 => pk_copy h2 h3 h1 hL
    have n3 : ¬ l = a := by omega
    refine enter (p := q8) Try.func101 rfl stat101 ?_
    simp only [go_sem, Nat.reducePow, Nat.reduceDiv, Nat.reduceMod, Nat.reduceAdd, Nat.reduceSub, Nat.reduceMul, Nat.reduceLeDiff, Nat.reduceLT, Nat.reduceEqDiff, reduceCtorEq, reduceIte, reduceDIte, if_pos rfl, Int.reduceLT, Int.reduceLE, Int.reduceEq, Int.reduceNeg, Int.reduceAdd, Int.reduceSub, Int.reduceMul, Int.reduceToNat, opLen, undef, opMax, Try.f101, gl, hl, c1, n1, n2, n3, ga, ha2, hmk, hcp]
    refine ⟨fun z hz => by simp at hz; omega, by simp only [go_sem, Nat.reducePow, Nat.reduceDiv, Nat.reduceMod, Nat.reduceAdd, Nat.reduceSub, Nat.reduceMul, Nat.reduceLeDiff, Nat.reduceLT, Nat.reduceEqDiff, reduceCtorEq, reduceIte, reduceDIte, if_pos rfl, Int.reduceLT, Int.reduceLE, Int.reduceEq, Int.reduceNeg, Int.reduceAdd, Int.reduceSub, Int.reduceMul, Int.reduceToNat, opLen] <;> omega, _, hlen, ?_, ?_, R⟩
    · rw [St.get_set, if_pos rfl]; rfl
    · simp only [go_sem, Nat.reducePow, Nat.reduceDiv, Nat.reduceMod, Nat.reduceAdd, Nat.reduceSub, Nat.reduceMul, Nat.reduceLeDiff, Nat.reduceLT, Nat.reduceEqDiff, reduceCtorEq, reduceIte, reduceDIte, if_pos rfl, Int.reduceLT, Int.reduceLE, Int.reduceEq, Int.reduceNeg, Int.reduceAdd, Int.reduceSub, Int.reduceMul, Int.reduceToNat, opLen, n2]


def LPutR (σ : St) (l r : Nat) (V : LV) (x : Pk) (σ' : St) (lg : Log) : Prop := (∀ z ∈ lg, z = l ∨ z = r ∨ σ.next ≤ z) ∧ ∃ r', (r' = r ∨ σ.next ≤ r') ∧ LAt σ' l r' { V with L := V.L ++ [x] }

set_option maxHeartbeats 1600000 in
set_option maxRecDepth 20000 in
/-- Put of what fits, where a place is free. -/
theorem lput_free {σ : St} {l r : Nat} {V : LV} (H : LAt σ l r V) {x : Pk} (h1 : 0 ≤ x.id ∧ x.id ≤ 4611686018427387904) (h2 : 0 ≤ x.flow ∧ x.flow ≤ 2147483647) (h3 : 1 ≤ x.size ∧ x.size ≤ 2000) (hs : ∀ y ∈ V.L, 0 ≤ y.size ∧ y.size ≤ 2000) (hroom : x.size ≤ V.room - sumP V.L) (hr : -1000000000000 ≤ V.room ∧ V.room ≤ 1000000000000)
    (n f : Nat) (R : List Pk) (hRn : R.length = n) (gl : σ.get l = some (.cells [.int .i64 V.lp, .int .i64 V.lb, .int .i64 V.room, .slice (some ⟨r, 0, some 0⟩) n n, .int .i64 f, .int .i64 V.L.length, .bool true] false)) (gr : σ.get r = some (.cells (cellsP R) false)) (hR : Ring R f V.L) (hn : n < 1000000) (hlt : V.L.length < n) :
    callX Try.prog 70 [.pointer (some ⟨l, 0, none⟩), x.val] σ fun e σ' lg => e = .ret (.int .i64 0) ∧ LPutR σ l r V x σ' lg := by
  have hl := H.lt.1
  have hrr := H.lt.2
  have hf := hR.lt
  have hsum := sumP_bound V.L hs
  obtain ⟨idx, hidx⟩ : ∃ idx, idx = (f + V.L.length) % n := ⟨_, rfl⟩
  have hil : idx < n := by rw [hidx]; exact Nat.mod_lt _ (by omega)
  have w1 : IntKind.i64.wrap (V.room - sumP V.L) = V.room - sumP V.L := wrapI (by omega) (by omega)
  have w2 : IntKind.i64.wrap ((V.L.length : Int) + 1) = ((V.L.length + 1 : Nat) : Int) := by
    have : (V.L.length : Int) + 1 = ((V.L.length + 1 : Nat) : Int) := by omega
    rw [this]; exact wrapIN (by omega)
  have c1 : ¬ V.room - sumP V.L < x.size := by omega
  have c2 : ((V.L.length : Int) == (n : Int)) = false := by rw [beq_eq_false_iff_ne]; omega
  have c3 : (0 : Int) ≤ (idx : Int) := by omega
  have c4 : (idx : Int) < (n : Int) := by omega
  have n1 : ¬ l = r := H.ne
  have n2 : ¬ r = l := fun e => H.ne e.symm
  have n3 : ¬ σ.next = l := by omega
  have n4 : ¬ σ.next = r := by omega
  have lx : idx * 3 + 3 ≤ (cellsP R).length := by rw [cellsP_length]; omega
  have ov := overP_at' (L := R) x (by omega : idx < R.length)
  simp only [Pk.cells] at ov
  refine enter (p := q8) Try.func70 rfl stat70 ?_
  simp only [go_sem, Nat.reducePow, Nat.reduceDiv, Nat.reduceMod, Nat.reduceAdd, Nat.reduceSub, Nat.reduceMul, Nat.reduceLeDiff, Nat.reduceLT, Nat.reduceEqDiff, reduceCtorEq, reduceIte, reduceDIte, if_pos rfl, Int.reduceLT, Int.reduceLE, Int.reduceEq, Int.reduceNeg, Int.reduceAdd, Int.reduceSub, Int.reduceMul, Int.reduceToNat, opLen, undef, Pk.val, Pk.cells, Try.f70, body98, body99, body100, body104]
  refine .of (lnone_call (l := l) (by simp only [go_sem, Nat.reducePow, Nat.reduceDiv, Nat.reduceMod, Nat.reduceAdd, Nat.reduceSub, Nat.reduceMul, Nat.reduceLeDiff, Nat.reduceLT, Nat.reduceEqDiff, reduceCtorEq, reduceIte, reduceDIte, if_pos rfl, Int.reduceLT, Int.reduceLE, Int.reduceEq, Int.reduceNeg, Int.reduceAdd, Int.reduceSub, Int.reduceMul, Int.reduceToNat, opLen, hl, gl]; rfl)) ?_
  simp only [go_sem, Nat.reducePow, Nat.reduceDiv, Nat.reduceMod, Nat.reduceAdd, Nat.reduceSub, Nat.reduceMul, Nat.reduceLeDiff, Nat.reduceLT, Nat.reduceEqDiff, reduceCtorEq, reduceIte, reduceDIte, if_pos rfl, Int.reduceLT, Int.reduceLE, Int.reduceEq, Int.reduceNeg, Int.reduceAdd, Int.reduceSub, Int.reduceMul, Int.reduceToNat, opLen, undef, body98, body99, body100, body104]
  refine .of (within98_call _ _ _ _) ?_
  simp only [go_sem, Nat.reducePow, Nat.reduceDiv, Nat.reduceMod, Nat.reduceAdd, Nat.reduceSub, Nat.reduceMul, Nat.reduceLeDiff, Nat.reduceLT, Nat.reduceEqDiff, reduceCtorEq, reduceIte, reduceDIte, if_pos rfl, Int.reduceLT, Int.reduceLE, Int.reduceEq, Int.reduceNeg, Int.reduceAdd, Int.reduceSub, Int.reduceMul, Int.reduceToNat, opLen, undef, h1.1, h1.2, body98, body99, body100, body104]
  refine .of (within98_call _ _ _ _) ?_
  simp only [go_sem, Nat.reducePow, Nat.reduceDiv, Nat.reduceMod, Nat.reduceAdd, Nat.reduceSub, Nat.reduceMul, Nat.reduceLeDiff, Nat.reduceLT, Nat.reduceEqDiff, reduceCtorEq, reduceIte, reduceDIte, if_pos rfl, Int.reduceLT, Int.reduceLE, Int.reduceEq, Int.reduceNeg, Int.reduceAdd, Int.reduceSub, Int.reduceMul, Int.reduceToNat, opLen, undef, h2.1, h2.2, body98, body99, body100, body104]
  refine .of (within98_call _ _ _ _) ?_
  simp only [go_sem, Nat.reducePow, Nat.reduceDiv, Nat.reduceMod, Nat.reduceAdd, Nat.reduceSub, Nat.reduceMul, Nat.reduceLeDiff, Nat.reduceLT, Nat.reduceEqDiff, reduceCtorEq, reduceIte, reduceDIte, if_pos rfl, Int.reduceLT, Int.reduceLE, Int.reduceEq, Int.reduceNeg, Int.reduceAdd, Int.reduceSub, Int.reduceMul, Int.reduceToNat, opLen, undef, h3.1, h3.2, gl, hl, body98, body99, body100, body104]
  refine .of (bytes_call (H.keep (by simp only [go_sem, Nat.reducePow, Nat.reduceDiv, Nat.reduceMod, Nat.reduceAdd, Nat.reduceSub, Nat.reduceMul, Nat.reduceLeDiff, Nat.reduceLT, Nat.reduceEqDiff, reduceCtorEq, reduceIte, reduceDIte, if_pos rfl, Int.reduceLT, Int.reduceLE, Int.reduceEq, Int.reduceNeg, Int.reduceAdd, Int.reduceSub, Int.reduceMul, Int.reduceToNat, opLen]) (by simp only [go_sem, Nat.reducePow, Nat.reduceDiv, Nat.reduceMod, Nat.reduceAdd, Nat.reduceSub, Nat.reduceMul, Nat.reduceLeDiff, Nat.reduceLT, Nat.reduceEqDiff, reduceCtorEq, reduceIte, reduceDIte, if_pos rfl, Int.reduceLT, Int.reduceLE, Int.reduceEq, Int.reduceNeg, Int.reduceAdd, Int.reduceSub, Int.reduceMul, Int.reduceToNat, opLen, hl]) (by simp only [go_sem, Nat.reducePow, Nat.reduceDiv, Nat.reduceMod, Nat.reduceAdd, Nat.reduceSub, Nat.reduceMul, Nat.reduceLeDiff, Nat.reduceLT, Nat.reduceEqDiff, reduceCtorEq, reduceIte, reduceDIte, if_pos rfl, Int.reduceLT, Int.reduceLE, Int.reduceEq, Int.reduceNeg, Int.reduceAdd, Int.reduceSub, Int.reduceMul, Int.reduceToNat, opLen, hrr])) hs) ?_
  simp only [go_sem, Nat.reducePow, Nat.reduceDiv, Nat.reduceMod, Nat.reduceAdd, Nat.reduceSub, Nat.reduceMul, Nat.reduceLeDiff, Nat.reduceLT, Nat.reduceEqDiff, reduceCtorEq, reduceIte, reduceDIte, if_pos rfl, Int.reduceLT, Int.reduceLE, Int.reduceEq, Int.reduceNeg, Int.reduceAdd, Int.reduceSub, Int.reduceMul, Int.reduceToNat, opLen, undef, gl, hl, w1, c1, c2, body98, body99, body100, body104]
  refine .of (at_call (l := l) (r := r) (n := n) (f := f) (k := V.L.length) (by simp only [go_sem, Nat.reducePow, Nat.reduceDiv, Nat.reduceMod, Nat.reduceAdd, Nat.reduceSub, Nat.reduceMul, Nat.reduceLeDiff, Nat.reduceLT, Nat.reduceEqDiff, reduceCtorEq, reduceIte, reduceDIte, if_pos rfl, Int.reduceLT, Int.reduceLE, Int.reduceEq, Int.reduceNeg, Int.reduceAdd, Int.reduceSub, Int.reduceMul, Int.reduceToNat, opLen, hl, gl]; rfl) (by simp only [go_sem, Nat.reducePow, Nat.reduceDiv, Nat.reduceMod, Nat.reduceAdd, Nat.reduceSub, Nat.reduceMul, Nat.reduceLeDiff, Nat.reduceLT, Nat.reduceEqDiff, reduceCtorEq, reduceIte, reduceDIte, if_pos rfl, Int.reduceLT, Int.reduceLE, Int.reduceEq, Int.reduceNeg, Int.reduceAdd, Int.reduceSub, Int.reduceMul, Int.reduceToNat, opLen]; omega) (by omega) (by omega) (by omega)) ?_
  simp only [go_sem, Nat.reducePow, Nat.reduceDiv, Nat.reduceMod, Nat.reduceAdd, Nat.reduceSub, Nat.reduceMul, Nat.reduceLeDiff, Nat.reduceLT, Nat.reduceEqDiff, reduceCtorEq, reduceIte, reduceDIte, if_pos rfl, Int.reduceLT, Int.reduceLE, Int.reduceEq, Int.reduceNeg, Int.reduceAdd, Int.reduceSub, Int.reduceMul, Int.reduceToNat, opLen, undef, ← hidx, Int.toNat_natCast, gl, gr, hl, hrr, c3, c4, n1, n2, n3, n4, lx, ov, w2, body98, body99, body100, body104]
  have hput := hR.put (by omega) x
  rw [hRn, ← hidx] at hput
  have hll : (V.L ++ [x]).length = V.L.length + 1 := by rw [List.length_append]; rfl
  have hRl : (R.set idx x).length = n := by rw [List.length_set, hRn]
  refine ⟨fun z hz => by simp at hz; omega, r, .inl rfl, ⟨R.set idx x, f, ?_, ?_, hput, by omega⟩, H.ne, by simp only [go_sem, Nat.reducePow, Nat.reduceDiv, Nat.reduceMod, Nat.reduceAdd, Nat.reduceSub, Nat.reduceMul, Nat.reduceLeDiff, Nat.reduceLT, Nat.reduceEqDiff, reduceCtorEq, reduceIte, reduceDIte, if_pos rfl, Int.reduceLT, Int.reduceLE, Int.reduceEq, Int.reduceNeg, Int.reduceAdd, Int.reduceSub, Int.reduceMul, Int.reduceToNat, opLen, St.next_put] <;> omega⟩
  · rw [hRl, hll, St.get_set, if_pos rfl]
  · simp only [go_sem, Nat.reducePow, Nat.reduceDiv, Nat.reduceMod, Nat.reduceAdd, Nat.reduceSub, Nat.reduceMul, Nat.reduceLeDiff, Nat.reduceLT, Nat.reduceEqDiff, reduceCtorEq, reduceIte, reduceDIte, if_pos rfl, Int.reduceLT, Int.reduceLE, Int.reduceEq, Int.reduceNeg, Int.reduceAdd, Int.reduceSub, Int.reduceMul, Int.reduceToNat, opLen, hrr, n1]

set_option maxHeartbeats 1600000 in
set_option maxRecDepth 20000 in
/-- Put of what fits, where no place is free. -/
theorem lput_full {σ : St} {l r : Nat} {V : LV} (H : LAt σ l r V) {x : Pk} (h1 : 0 ≤ x.id ∧ x.id ≤ 4611686018427387904) (h2 : 0 ≤ x.flow ∧ x.flow ≤ 2147483647) (h3 : 1 ≤ x.size ∧ x.size ≤ 2000) (hs : ∀ y ∈ V.L, 0 ≤ y.size ∧ y.size ≤ 2000) (hroom : x.size ≤ V.room - sumP V.L) (hr : -1000000000000 ≤ V.room ∧ V.room ≤ 1000000000000)
    (n f : Nat) (gl : σ.get l = some (.cells [.int .i64 V.lp, .int .i64 V.lb, .int .i64 V.room, .slice (some ⟨r, 0, some 0⟩) n n, .int .i64 f, .int .i64 V.L.length, .bool true] false)) (hn : n < 400000) (hpos : 0 < n) (hlt : V.L.length = n) :
    callX Try.prog 70 [.pointer (some ⟨l, 0, none⟩), x.val] σ fun e σ' lg => e = .ret (.int .i64 0) ∧ LPutR σ l r V x σ' lg := by
  have hl := H.lt.1
  have hrr := H.lt.2
  have hsum := sumP_bound V.L hs
  have w1 : IntKind.i64.wrap (V.room - sumP V.L) = V.room - sumP V.L := wrapI (by omega) (by omega)
  have w2 : IntKind.i64.wrap ((V.L.length : Int) + 1) = ((V.L.length + 1 : Nat) : Int) := by
    have : (V.L.length : Int) + 1 = ((V.L.length + 1 : Nat) : Int) := by omega
    rw [this]; exact wrapIN (by omega)
  have w3 : IntKind.i64.wrap (2 * (V.L.length : Int)) = ((2 * n : Nat) : Int) := by
    have : 2 * (V.L.length : Int) = ((2 * n : Nat) : Int) := by omega
    rw [this]; exact wrapIN (by omega)
  have c1 : ¬ V.room - sumP V.L < x.size := by omega
  have c2 : ((V.L.length : Int) == (n : Int)) = true := by rw [beq_iff_eq]; omega
  have n1 : ¬ l = r := H.ne
  have n3 : ¬ σ.next = l := by omega
  refine enter (p := q8) Try.func70 rfl stat70 ?_
  simp only [go_sem, Nat.reducePow, Nat.reduceDiv, Nat.reduceMod, Nat.reduceAdd, Nat.reduceSub, Nat.reduceMul, Nat.reduceLeDiff, Nat.reduceLT, Nat.reduceEqDiff, reduceCtorEq, reduceIte, reduceDIte, if_pos rfl, Int.reduceLT, Int.reduceLE, Int.reduceEq, Int.reduceNeg, Int.reduceAdd, Int.reduceSub, Int.reduceMul, Int.reduceToNat, opLen, undef, Pk.val, Pk.cells, Try.f70, body98, body99, body100, body104]
  refine .of (lnone_call (l := l) (by simp only [go_sem, Nat.reducePow, Nat.reduceDiv, Nat.reduceMod, Nat.reduceAdd, Nat.reduceSub, Nat.reduceMul, Nat.reduceLeDiff, Nat.reduceLT, Nat.reduceEqDiff, reduceCtorEq, reduceIte, reduceDIte, if_pos rfl, Int.reduceLT, Int.reduceLE, Int.reduceEq, Int.reduceNeg, Int.reduceAdd, Int.reduceSub, Int.reduceMul, Int.reduceToNat, opLen, hl, gl]; rfl)) ?_
  simp only [go_sem, Nat.reducePow, Nat.reduceDiv, Nat.reduceMod, Nat.reduceAdd, Nat.reduceSub, Nat.reduceMul, Nat.reduceLeDiff, Nat.reduceLT, Nat.reduceEqDiff, reduceCtorEq, reduceIte, reduceDIte, if_pos rfl, Int.reduceLT, Int.reduceLE, Int.reduceEq, Int.reduceNeg, Int.reduceAdd, Int.reduceSub, Int.reduceMul, Int.reduceToNat, opLen, undef, body98, body99, body100, body104]
  refine .of (within98_call _ _ _ _) ?_
  simp only [go_sem, Nat.reducePow, Nat.reduceDiv, Nat.reduceMod, Nat.reduceAdd, Nat.reduceSub, Nat.reduceMul, Nat.reduceLeDiff, Nat.reduceLT, Nat.reduceEqDiff, reduceCtorEq, reduceIte, reduceDIte, if_pos rfl, Int.reduceLT, Int.reduceLE, Int.reduceEq, Int.reduceNeg, Int.reduceAdd, Int.reduceSub, Int.reduceMul, Int.reduceToNat, opLen, undef, h1.1, h1.2, body98, body99, body100, body104]
  refine .of (within98_call _ _ _ _) ?_
  simp only [go_sem, Nat.reducePow, Nat.reduceDiv, Nat.reduceMod, Nat.reduceAdd, Nat.reduceSub, Nat.reduceMul, Nat.reduceLeDiff, Nat.reduceLT, Nat.reduceEqDiff, reduceCtorEq, reduceIte, reduceDIte, if_pos rfl, Int.reduceLT, Int.reduceLE, Int.reduceEq, Int.reduceNeg, Int.reduceAdd, Int.reduceSub, Int.reduceMul, Int.reduceToNat, opLen, undef, h2.1, h2.2, body98, body99, body100, body104]
  refine .of (within98_call _ _ _ _) ?_
  simp only [go_sem, Nat.reducePow, Nat.reduceDiv, Nat.reduceMod, Nat.reduceAdd, Nat.reduceSub, Nat.reduceMul, Nat.reduceLeDiff, Nat.reduceLT, Nat.reduceEqDiff, reduceCtorEq, reduceIte, reduceDIte, if_pos rfl, Int.reduceLT, Int.reduceLE, Int.reduceEq, Int.reduceNeg, Int.reduceAdd, Int.reduceSub, Int.reduceMul, Int.reduceToNat, opLen, undef, h3.1, h3.2, gl, hl, body98, body99, body100, body104]
  refine .of (bytes_call (H.keep (by simp only [go_sem, Nat.reducePow, Nat.reduceDiv, Nat.reduceMod, Nat.reduceAdd, Nat.reduceSub, Nat.reduceMul, Nat.reduceLeDiff, Nat.reduceLT, Nat.reduceEqDiff, reduceCtorEq, reduceIte, reduceDIte, if_pos rfl, Int.reduceLT, Int.reduceLE, Int.reduceEq, Int.reduceNeg, Int.reduceAdd, Int.reduceSub, Int.reduceMul, Int.reduceToNat, opLen]) (by simp only [go_sem, Nat.reducePow, Nat.reduceDiv, Nat.reduceMod, Nat.reduceAdd, Nat.reduceSub, Nat.reduceMul, Nat.reduceLeDiff, Nat.reduceLT, Nat.reduceEqDiff, reduceCtorEq, reduceIte, reduceDIte, if_pos rfl, Int.reduceLT, Int.reduceLE, Int.reduceEq, Int.reduceNeg, Int.reduceAdd, Int.reduceSub, Int.reduceMul, Int.reduceToNat, opLen, hl]) (by simp only [go_sem, Nat.reducePow, Nat.reduceDiv, Nat.reduceMod, Nat.reduceAdd, Nat.reduceSub, Nat.reduceMul, Nat.reduceLeDiff, Nat.reduceLT, Nat.reduceEqDiff, reduceCtorEq, reduceIte, reduceDIte, if_pos rfl, Int.reduceLT, Int.reduceLE, Int.reduceEq, Int.reduceNeg, Int.reduceAdd, Int.reduceSub, Int.reduceMul, Int.reduceToNat, opLen, hrr])) hs) ?_
  simp only [go_sem, Nat.reducePow, Nat.reduceDiv, Nat.reduceMod, Nat.reduceAdd, Nat.reduceSub, Nat.reduceMul, Nat.reduceLeDiff, Nat.reduceLT, Nat.reduceEqDiff, reduceCtorEq, reduceIte, reduceDIte, if_pos rfl, Int.reduceLT, Int.reduceLE, Int.reduceEq, Int.reduceNeg, Int.reduceAdd, Int.reduceSub, Int.reduceMul, Int.reduceToNat, opLen, undef, gl, hl, w1, c1, c2, body98, body99, body100, body103, body104]
  refine callX.hid (all_call (H.keep (by simp only [go_sem, Nat.reducePow, Nat.reduceDiv, Nat.reduceMod, Nat.reduceAdd, Nat.reduceSub, Nat.reduceMul, Nat.reduceLeDiff, Nat.reduceLT, Nat.reduceEqDiff, reduceCtorEq, reduceIte, reduceDIte, if_pos rfl, Int.reduceLT, Int.reduceLE, Int.reduceEq, Int.reduceNeg, Int.reduceAdd, Int.reduceSub, Int.reduceMul, Int.reduceToNat, opLen]) (by simp only [go_sem, Nat.reducePow, Nat.reduceDiv, Nat.reduceMod, Nat.reduceAdd, Nat.reduceSub, Nat.reduceMul, Nat.reduceLeDiff, Nat.reduceLT, Nat.reduceEqDiff, reduceCtorEq, reduceIte, reduceDIte, if_pos rfl, Int.reduceLT, Int.reduceLE, Int.reduceEq, Int.reduceNeg, Int.reduceAdd, Int.reduceSub, Int.reduceMul, Int.reduceToNat, opLen, hl]) (by simp only [go_sem, Nat.reducePow, Nat.reduceDiv, Nat.reduceMod, Nat.reduceAdd, Nat.reduceSub, Nat.reduceMul, Nat.reduceLeDiff, Nat.reduceLT, Nat.reduceEqDiff, reduceCtorEq, reduceIte, reduceDIte, if_pos rfl, Int.reduceLT, Int.reduceLE, Int.reduceEq, Int.reduceNeg, Int.reduceAdd, Int.reduceSub, Int.reduceMul, Int.reduceToNat, opLen, hrr]))) ?_
  intro σ1 lg1 hlg1 hA
  obtain ⟨hB1, nx1, v, gv, hv⟩ := hA
  simp only [go_sem, Nat.reducePow, Nat.reduceDiv, Nat.reduceMod, Nat.reduceAdd, Nat.reduceSub, Nat.reduceMul, Nat.reduceLeDiff, Nat.reduceLT, Nat.reduceEqDiff, reduceCtorEq, reduceIte, reduceDIte, if_pos rfl, Int.reduceLT, Int.reduceLE, Int.reduceEq, Int.reduceNeg, Int.reduceAdd, Int.reduceSub, Int.reduceMul, Int.reduceToNat, opLen] at hB1 nx1 gv hv
  have hL : V.L.length < 1000000 := by omega
  refine ⟨?_⟩
  simp only [go_sem, Nat.reducePow, Nat.reduceDiv, Nat.reduceMod, Nat.reduceAdd, Nat.reduceSub, Nat.reduceMul, Nat.reduceLeDiff, Nat.reduceLT, Nat.reduceEqDiff, reduceCtorEq, reduceIte, reduceDIte, if_pos rfl, Int.reduceLT, Int.reduceLE, Int.reduceEq, Int.reduceNeg, Int.reduceAdd, Int.reduceSub, Int.reduceMul, Int.reduceToNat, opLen, undef, body98, body99, body100, body102, body103, body104]
  refine callX.hidE (collect_call gv nx1 hv hL) ?_
  intro e σ2 lg2 hlg2 hC
  obtain ⟨w, rfl, hB2, hw⟩ := hC
  have kp : ∀ c, c < σ.next + 1 → σ2.get c = σ1.get c ∧ σ1.get c = (σ.new (.cells [.int .i64 x.id, .int .i64 x.flow, .int .i64 x.size] false)).get c := fun c hc => ⟨hlg2.2 c (by omega) fun hm => by have := hB2 c hm; omega, hlg1.2 c (by simp only [go_sem, Nat.reducePow, Nat.reduceDiv, Nat.reduceMod, Nat.reduceAdd, Nat.reduceSub, Nat.reduceMul, Nat.reduceLeDiff, Nat.reduceLT, Nat.reduceEqDiff, reduceCtorEq, reduceIte, reduceDIte, if_pos rfl, Int.reduceLT, Int.reduceLE, Int.reduceEq, Int.reduceNeg, Int.reduceAdd, Int.reduceSub, Int.reduceMul, Int.reduceToNat, opLen]; omega) fun hm => by have := hB1 c hm; omega⟩
  have gl2 : σ2.get l = some (.cells [.int .i64 V.lp, .int .i64 V.lb, .int .i64 V.room, .slice (some ⟨r, 0, some 0⟩) n n, .int .i64 f, .int .i64 V.L.length, .bool true] false) := by
    obtain ⟨a, b⟩ := kp l (by omega)
    rw [a, b, St.get_new, if_neg n3]; exact gl
  have gx2 : σ2.get σ.next = some (.cells [.int .i64 x.id, .int .i64 x.flow, .int .i64 x.size] false) := by
    obtain ⟨a, b⟩ := kp σ.next (by omega)
    rw [a, b, St.get_new, if_pos rfl]
  have nx2 : σ1.next ≤ σ2.next := hlg2.1
  have hl2 : l < σ2.next := by omega
  refine ⟨?_⟩
  simp only [go_sem, Nat.reducePow, Nat.reduceDiv, Nat.reduceMod, Nat.reduceAdd, Nat.reduceSub, Nat.reduceMul, Nat.reduceLeDiff, Nat.reduceLT, Nat.reduceEqDiff, reduceCtorEq, reduceIte, reduceDIte, if_pos rfl, Int.reduceLT, Int.reduceLE, Int.reduceEq, Int.reduceNeg, Int.reduceAdd, Int.reduceSub, Int.reduceMul, Int.reduceToNat, opLen, undef, gl2, hl2, w3, body98, body99, body100, body101, body102, body103, body104]
  refine callX.hid (llay_call (n := 2 * n) gl2 hl2 hw (by omega) (by omega) (by omega)) ?_
  intro σ3 lg3 hlg3 hY
  obtain ⟨hB3, hr3, R, hRn, gl3, gr3, hR⟩ := hY
  have nx3 : σ2.next ≤ σ3.next := hlg3.1
  have hl3 : l < σ3.next := by omega
  have hx3 : σ.next < σ3.next := by omega
  have gx3 : σ3.get σ.next = some (.cells [.int .i64 x.id, .int .i64 x.flow, .int .i64 x.size] false) := (hlg3.2 _ (by omega) fun hm => by have := hB3 _ hm; omega).trans gx2
  have an1 : (lg1.any fun c => c == l) = false := List.any_eq_false.2 fun c hc => by have := hB1 c hc; simp; omega
  have an2 : (lg2.any fun c => c == l) = false := List.any_eq_false.2 fun c hc => by have := hB2 c hc; simp; omega
  have q1 : ¬ σ.next + 1 ≤ l := by omega
  have q2 : ¬ σ1.next ≤ l := by omega
  refine ⟨?_⟩
  simp only [go_sem, Nat.reducePow, Nat.reduceDiv, Nat.reduceMod, Nat.reduceAdd, Nat.reduceSub, Nat.reduceMul, Nat.reduceLeDiff, Nat.reduceLT, Nat.reduceEqDiff, reduceCtorEq, reduceIte, reduceDIte, if_pos rfl, Int.reduceLT, Int.reduceLE, Int.reduceEq, Int.reduceNeg, Int.reduceAdd, Int.reduceSub, Int.reduceMul, Int.reduceToNat, opLen, undef, gl3, hl3, an1, an2, q1, q2, body98, body99, body100, body101, body102, body103, body104]
  refine .of (at_call (l := l) (r := σ2.next) (n := 2 * n) (f := 0) (k := V.L.length) gl3 (by omega) (by omega) (by omega) (by omega)) ?_
  have hidx : V.L.length % (2 * n) = n := by rw [hlt]; exact Nat.mod_eq_of_lt (by omega)
  have hR' : Ring R 0 V.L := hR
  have c3 : (0 : Int) ≤ (n : Int) := by omega
  have c4 : (n : Int) < ((2 * n : Nat) : Int) := by omega
  have lx : n * 3 + 3 ≤ (cellsP R).length := by rw [cellsP_length]; omega
  have ov := overP_at' (L := R) x (by omega : n < R.length)
  simp only [Pk.cells] at ov
  have m1 : ¬ l = σ2.next := by omega
  have m2 : ¬ σ2.next = l := by omega
  have m3 : ¬ σ2.next = σ.next := by omega
  have m4 : ¬ σ.next = σ2.next := by omega
  simp only [go_sem, Nat.reducePow, Nat.reduceDiv, Nat.reduceMod, Nat.reduceAdd, Nat.reduceSub, Nat.reduceMul, Nat.reduceLeDiff, Nat.reduceLT, Nat.reduceEqDiff, reduceCtorEq, reduceIte, reduceDIte, if_pos rfl, Int.reduceLT, Int.reduceLE, Int.reduceEq, Int.reduceNeg, Int.reduceAdd, Int.reduceSub, Int.reduceMul, Int.reduceToNat, opLen, undef, hidx, Int.toNat_natCast, gl3, gr3, gx3, hl3, hr3, hx3, c3, c4, m1, m2, m3, m4, n3, lx, ov, w2, body98, body99, body100, body104]
  have hput := hR'.put (by omega) x
  rw [hRn, Nat.zero_add, hidx] at hput
  have hll : (V.L ++ [x]).length = V.L.length + 1 := by rw [List.length_append]; rfl
  have hRl : (R.set n x).length = 2 * n := by rw [List.length_set, hRn]
  refine ⟨fun z hz => ?_, σ2.next, .inr (by omega), ⟨R.set n x, 0, ?_, ?_, hput, by omega⟩, m1, by simp only [go_sem, Nat.reducePow, Nat.reduceDiv, Nat.reduceMod, Nat.reduceAdd, Nat.reduceSub, Nat.reduceMul, Nat.reduceLeDiff, Nat.reduceLT, Nat.reduceEqDiff, reduceCtorEq, reduceIte, reduceDIte, if_pos rfl, Int.reduceLT, Int.reduceLE, Int.reduceEq, Int.reduceNeg, Int.reduceAdd, Int.reduceSub, Int.reduceMul, Int.reduceToNat, opLen, St.next_put] <;> omega⟩
  · simp only [List.mem_append, List.mem_cons, List.not_mem_nil, or_false] at hz
    rcases hz with ((hz | hz) | hz) | hz | hz
    · have := hB1 z hz; omega
    · have := hB2 z hz; omega
    · have := hB3 z hz; omega
    · omega
    · omega
  · rw [hRl, hll, St.get_set, if_pos rfl]; rfl
  · simp only [go_sem, Nat.reducePow, Nat.reduceDiv, Nat.reduceMod, Nat.reduceAdd, Nat.reduceSub, Nat.reduceMul, Nat.reduceLeDiff, Nat.reduceLT, Nat.reduceEqDiff, reduceCtorEq, reduceIte, reduceDIte, if_pos rfl, Int.reduceLT, Int.reduceLE, Int.reduceEq, Int.reduceNeg, Int.reduceAdd, Int.reduceSub, Int.reduceMul, Int.reduceToNat, opLen, hr3, m1]


/-- Put of what fits. -/
theorem lput_call {σ : St} {l r : Nat} {V : LV} (H : LAt σ l r V) {x : Pk} (h1 : 0 ≤ x.id ∧ x.id ≤ 4611686018427387904) (h2 : 0 ≤ x.flow ∧ x.flow ≤ 2147483647) (h3 : 1 ≤ x.size ∧ x.size ≤ 2000) (hs : ∀ y ∈ V.L, 0 ≤ y.size ∧ y.size ≤ 2000) (hroom : x.size ≤ V.room - sumP V.L) (hr : -1000000000000 ≤ V.room ∧ V.room ≤ 1000000000000) (hn : V.L.length < 400000) :
    callX Try.prog 70 [.pointer (some ⟨l, 0, none⟩), x.val] σ fun e σ' lg => e = .ret (.int .i64 0) ∧ LPutR σ l r V x σ' lg := by
  obtain ⟨R, f, gl, gr, hR, hRs⟩ := H.core
  by_cases e : V.L.length < R.length
  · exact lput_free H h1 h2 h3 hs hroom hr R.length f R rfl gl gr hR hRs e
  · have := hR.le
    have := hR.lt
    exact lput_full H h1 h2 h3 hs hroom hr R.length f gl (by omega) (by omega) (by omega)

end Go.Ab

set_option linter.unusedSimpArgs false
set_option linter.unusedVariables false
namespace Go.Ab
open Go.Proofs

theorem lnew_call {σ : St} {room : Int} (h : 0 ≤ room ∧ room ≤ 1000000000) : callX Try.prog 66 [.int .i64 room] σ fun e σ' lg => e = .ret (.tuple ⟨[.pointer (some ⟨σ.next + 1, 0, none⟩), .int .i64 0]⟩) ∧ ((∀ z ∈ lg, σ.next ≤ z) ∧ LAt σ' (σ.next + 1) σ.next ⟨0, 0, room, []⟩) := by
  have hmk := pk_make (σ := σ) (n := 1) (by omega)
  simp only [Int.cast_ofNat_Int] at hmk
  refine enter (p := q8) Try.func66 rfl stat66 ?_
  simp only [go_sem, Nat.reducePow, Nat.reduceDiv, Nat.reduceMod, Nat.reduceAdd, Nat.reduceSub, Nat.reduceMul, Nat.reduceLeDiff, Nat.reduceLT, Nat.reduceEqDiff, reduceCtorEq, reduceIte, reduceDIte, if_pos rfl, Int.reduceLT, Int.reduceLE, Int.reduceEq, Int.reduceNeg, Int.reduceAdd, Int.reduceSub, Int.reduceMul, Int.reduceToNat, opLen, undef, Try.f66, body98]
  refine .of (within98_call _ _ _ _) ?_
  simp only [go_sem, Nat.reducePow, Nat.reduceDiv, Nat.reduceMod, Nat.reduceAdd, Nat.reduceSub, Nat.reduceMul, Nat.reduceLeDiff, Nat.reduceLT, Nat.reduceEqDiff, reduceCtorEq, reduceIte, reduceDIte, if_pos rfl, Int.reduceLT, Int.reduceLE, Int.reduceEq, Int.reduceNeg, Int.reduceAdd, Int.reduceSub, Int.reduceMul, Int.reduceToNat, opLen, undef, h.1, h.2, hmk, body98]
  refine ⟨⟨List.replicate 1 Pk.zero, 0, ?_, ?_, ⟨by simp, by simp, fun i x h => by simp at h⟩, by simp⟩, by omega, by simp only [go_sem, Nat.reducePow, Nat.reduceDiv, Nat.reduceMod, Nat.reduceAdd, Nat.reduceSub, Nat.reduceMul, Nat.reduceLeDiff, Nat.reduceLT, Nat.reduceEqDiff, reduceCtorEq, reduceIte, reduceDIte, if_pos rfl, Int.reduceLT, Int.reduceLE, Int.reduceEq, Int.reduceNeg, Int.reduceAdd, Int.reduceSub, Int.reduceMul, Int.reduceToNat, opLen] <;> omega⟩
  · simp only [go_sem, Nat.reducePow, Nat.reduceDiv, Nat.reduceMod, Nat.reduceAdd, Nat.reduceSub, Nat.reduceMul, Nat.reduceLeDiff, Nat.reduceLT, Nat.reduceEqDiff, reduceCtorEq, reduceIte, reduceDIte, if_pos rfl, Int.reduceLT, Int.reduceLE, Int.reduceEq, Int.reduceNeg, Int.reduceAdd, Int.reduceSub, Int.reduceMul, Int.reduceToNat, opLen]
  · simp only [go_sem, Nat.reducePow, Nat.reduceDiv, Nat.reduceMod, Nat.reduceAdd, Nat.reduceSub, Nat.reduceMul, Nat.reduceLeDiff, Nat.reduceLT, Nat.reduceEqDiff, reduceCtorEq, reduceIte, reduceDIte, if_pos rfl, Int.reduceLT, Int.reduceLE, Int.reduceEq, Int.reduceNeg, Int.reduceAdd, Int.reduceSub, Int.reduceMul, Int.reduceToNat, opLen]

/-- First, of a line that is not empty. -/
theorem lfirst_call {σ : St} {l r : Nat} {V : LV} (H : LAt σ l r V) {x : Pk} {L : List Pk} (hL : V.L = x :: L) : DCall Try.prog 134 [.pointer (some ⟨l, 0, none⟩)] σ (.ret (.tuple ⟨[x.val, .bool true]⟩)) σ [] := by
  obtain ⟨R, f, gl, gr, hR, hRs⟩ := H.core
  have hl := H.lt.1
  have hrr := H.lt.2
  have hf := hR.lt
  have hx := hR.at' 0 x (by rw [hL]; rfl)
  rw [Nat.add_zero, Nat.mod_eq_of_lt hf] at hx
  have ex := cellsP_at' hx
  have lx : f * 3 + 3 ≤ (cellsP R).length := by rw [cellsP_length]; omega
  simp only [Pk.cells] at ex
  have c1 : (0 : Int) ≤ (f : Int) := by omega
  have c2 : (f : Int) < (R.length : Int) := by omega
  have c3 : ((V.L.length : Int) == 0) = false := by rw [beq_eq_false_iff_ne, hL, List.length_cons]; omega
  have n1 : ¬ σ.next = l := by omega
  have n2 : ¬ σ.next = r := by omega
  refine pure_call (enter (p := q8) Try.func134 rfl stat134 ?_) rfl
  simp only [go_sem, Nat.reducePow, Nat.reduceDiv, Nat.reduceMod, Nat.reduceAdd, Nat.reduceSub, Nat.reduceMul, Nat.reduceLeDiff, Nat.reduceLT, Nat.reduceEqDiff, reduceCtorEq, reduceIte, reduceDIte, if_pos rfl, Int.reduceLT, Int.reduceLE, Int.reduceEq, Int.reduceNeg, Int.reduceAdd, Int.reduceSub, Int.reduceMul, Int.reduceToNat, opLen, undef, Pk.val, Pk.cells, Try.f134, body99]
  refine .of (lnone_call (l := l) (by simp only [go_sem, Nat.reducePow, Nat.reduceDiv, Nat.reduceMod, Nat.reduceAdd, Nat.reduceSub, Nat.reduceMul, Nat.reduceLeDiff, Nat.reduceLT, Nat.reduceEqDiff, reduceCtorEq, reduceIte, reduceDIte, if_pos rfl, Int.reduceLT, Int.reduceLE, Int.reduceEq, Int.reduceNeg, Int.reduceAdd, Int.reduceSub, Int.reduceMul, Int.reduceToNat, opLen, hl, gl]; rfl)) ?_
  simp only [go_sem, Nat.reducePow, Nat.reduceDiv, Nat.reduceMod, Nat.reduceAdd, Nat.reduceSub, Nat.reduceMul, Nat.reduceLeDiff, Nat.reduceLT, Nat.reduceEqDiff, reduceCtorEq, reduceIte, reduceDIte, if_pos rfl, Int.reduceLT, Int.reduceLE, Int.reduceEq, Int.reduceNeg, Int.reduceAdd, Int.reduceSub, Int.reduceMul, Int.reduceToNat, opLen, undef, Int.toNat_natCast, gl, gr, hl, hrr, c1, c2, c3, ex, lx, n1, n2, body99]

/-- First, of an empty line. -/
theorem lfirst_none {σ : St} {l r : Nat} {V : LV} (H : LAt σ l r V) (hL : V.L = []) : DCall Try.prog 134 [.pointer (some ⟨l, 0, none⟩)] σ (.ret (.tuple ⟨[Pk.zero.val, .bool false]⟩)) σ [] := by
  obtain ⟨R, f, gl, gr, hR, hRs⟩ := H.core
  have hl := H.lt.1
  have c3 : ((V.L.length : Int) == 0) = true := by rw [hL]; rfl
  refine pure_call (enter (p := q8) Try.func134 rfl stat134 ?_) rfl
  simp only [go_sem, Nat.reducePow, Nat.reduceDiv, Nat.reduceMod, Nat.reduceAdd, Nat.reduceSub, Nat.reduceMul, Nat.reduceLeDiff, Nat.reduceLT, Nat.reduceEqDiff, reduceCtorEq, reduceIte, reduceDIte, if_pos rfl, Int.reduceLT, Int.reduceLE, Int.reduceEq, Int.reduceNeg, Int.reduceAdd, Int.reduceSub, Int.reduceMul, Int.reduceToNat, opLen, undef, Pk.val, Pk.cells, Pk.zero, Try.f134, body99]
  refine .of (lnone_call (l := l) (by simp only [go_sem, Nat.reducePow, Nat.reduceDiv, Nat.reduceMod, Nat.reduceAdd, Nat.reduceSub, Nat.reduceMul, Nat.reduceLeDiff, Nat.reduceLT, Nat.reduceEqDiff, reduceCtorEq, reduceIte, reduceDIte, if_pos rfl, Int.reduceLT, Int.reduceLE, Int.reduceEq, Int.reduceNeg, Int.reduceAdd, Int.reduceSub, Int.reduceMul, Int.reduceToNat, opLen, hl, gl]; rfl)) ?_
  simp only [go_sem, Nat.reducePow, Nat.reduceDiv, Nat.reduceMod, Nat.reduceAdd, Nat.reduceSub, Nat.reduceMul, Nat.reduceLeDiff, Nat.reduceLT, Nat.reduceEqDiff, reduceCtorEq, reduceIte, reduceDIte, if_pos rfl, Int.reduceLT, Int.reduceLE, Int.reduceEq, Int.reduceNeg, Int.reduceAdd, Int.reduceSub, Int.reduceMul, Int.reduceToNat, opLen, undef, gl, hl, c3, body99]

def LTakeR (σ : St) (l r : Nat) (V : LV) (L : List Pk) (σ' : St) (lg : Log) : Prop := (∀ z ∈ lg, z = l ∨ σ.next ≤ z) ∧ LAt σ' l r { V with L := L }

theorem ltake_call {σ : St} {l r : Nat} {V : LV} (H : LAt σ l r V) {x : Pk} {L : List Pk} (hL : V.L = x :: L) : callX Try.prog 108 [.pointer (some ⟨l, 0, none⟩)] σ fun e σ' lg => e = .ret (.tuple ⟨[x.val, .bool true]⟩) ∧ LTakeR σ l r V L σ' lg := by
  obtain ⟨R, f, gl, gr, hR, hRs⟩ := H.core
  have hl := H.lt.1
  have hrr := H.lt.2
  have hf := hR.lt
  have n1 : ¬ σ.next = l := by omega
  have n2 : ¬ σ.next = r := by omega
  have n3 : ¬ l = r := H.ne
  have w1 : IntKind.i64.wrap ((V.L.length : Int) - 1) = (L.length : Int) := by
    have : (V.L.length : Int) - 1 = (L.length : Int) := by rw [hL, List.length_cons]; omega
    rw [this]; exact wrapIN (by have := hR.le; rw [hL, List.length_cons] at this; omega)
  refine enter (p := q8) Try.func108 rfl stat108 ?_
  simp only [go_sem, Nat.reducePow, Nat.reduceDiv, Nat.reduceMod, Nat.reduceAdd, Nat.reduceSub, Nat.reduceMul, Nat.reduceLeDiff, Nat.reduceLT, Nat.reduceEqDiff, reduceCtorEq, reduceIte, reduceDIte, if_pos rfl, Int.reduceLT, Int.reduceLE, Int.reduceEq, Int.reduceNeg, Int.reduceAdd, Int.reduceSub, Int.reduceMul, Int.reduceToNat, opLen, undef, Pk.val, Pk.cells, Try.f108, body104, body134]
  refine .of (lfirst_call (H.keep (by simp only [go_sem, Nat.reducePow, Nat.reduceDiv, Nat.reduceMod, Nat.reduceAdd, Nat.reduceSub, Nat.reduceMul, Nat.reduceLeDiff, Nat.reduceLT, Nat.reduceEqDiff, reduceCtorEq, reduceIte, reduceDIte, if_pos rfl, Int.reduceLT, Int.reduceLE, Int.reduceEq, Int.reduceNeg, Int.reduceAdd, Int.reduceSub, Int.reduceMul, Int.reduceToNat, opLen]) (by simp only [go_sem, Nat.reducePow, Nat.reduceDiv, Nat.reduceMod, Nat.reduceAdd, Nat.reduceSub, Nat.reduceMul, Nat.reduceLeDiff, Nat.reduceLT, Nat.reduceEqDiff, reduceCtorEq, reduceIte, reduceDIte, if_pos rfl, Int.reduceLT, Int.reduceLE, Int.reduceEq, Int.reduceNeg, Int.reduceAdd, Int.reduceSub, Int.reduceMul, Int.reduceToNat, opLen, hl]) (by simp only [go_sem, Nat.reducePow, Nat.reduceDiv, Nat.reduceMod, Nat.reduceAdd, Nat.reduceSub, Nat.reduceMul, Nat.reduceLeDiff, Nat.reduceLT, Nat.reduceEqDiff, reduceCtorEq, reduceIte, reduceDIte, if_pos rfl, Int.reduceLT, Int.reduceLE, Int.reduceEq, Int.reduceNeg, Int.reduceAdd, Int.reduceSub, Int.reduceMul, Int.reduceToNat, opLen, hrr])) hL) ?_
  simp only [go_sem, Nat.reducePow, Nat.reduceDiv, Nat.reduceMod, Nat.reduceAdd, Nat.reduceSub, Nat.reduceMul, Nat.reduceLeDiff, Nat.reduceLT, Nat.reduceEqDiff, reduceCtorEq, reduceIte, reduceDIte, if_pos rfl, Int.reduceLT, Int.reduceLE, Int.reduceEq, Int.reduceNeg, Int.reduceAdd, Int.reduceSub, Int.reduceMul, Int.reduceToNat, opLen, undef, Pk.val, Pk.cells, body104, body134]
  refine .of (at_call (l := l) (r := r) (n := R.length) (f := f) (k := 1) (by simp only [go_sem, Nat.reducePow, Nat.reduceDiv, Nat.reduceMod, Nat.reduceAdd, Nat.reduceSub, Nat.reduceMul, Nat.reduceLeDiff, Nat.reduceLT, Nat.reduceEqDiff, reduceCtorEq, reduceIte, reduceDIte, if_pos rfl, Int.reduceLT, Int.reduceLE, Int.reduceEq, Int.reduceNeg, Int.reduceAdd, Int.reduceSub, Int.reduceMul, Int.reduceToNat, opLen, hl, gl]; rfl) (by simp only [go_sem, Nat.reducePow, Nat.reduceDiv, Nat.reduceMod, Nat.reduceAdd, Nat.reduceSub, Nat.reduceMul, Nat.reduceLeDiff, Nat.reduceLT, Nat.reduceEqDiff, reduceCtorEq, reduceIte, reduceDIte, if_pos rfl, Int.reduceLT, Int.reduceLE, Int.reduceEq, Int.reduceNeg, Int.reduceAdd, Int.reduceSub, Int.reduceMul, Int.reduceToNat, opLen]; omega) (by omega) hf (by omega)) ?_
  simp only [go_sem, Nat.reducePow, Nat.reduceDiv, Nat.reduceMod, Nat.reduceAdd, Nat.reduceSub, Nat.reduceMul, Nat.reduceLeDiff, Nat.reduceLT, Nat.reduceEqDiff, reduceCtorEq, reduceIte, reduceDIte, if_pos rfl, Int.reduceLT, Int.reduceLE, Int.reduceEq, Int.reduceNeg, Int.reduceAdd, Int.reduceSub, Int.reduceMul, Int.reduceToNat, opLen, undef, gl, hl, n1, n2, n3, w1, body104, body134]
  have hR' : Ring R f (x :: L) := hL ▸ hR
  refine ⟨fun z hz => by simp at hz; omega, ⟨R, (f + 1) % R.length, ?_, ?_, hR'.take, hRs⟩, H.ne, by simp only [go_sem, Nat.reducePow, Nat.reduceDiv, Nat.reduceMod, Nat.reduceAdd, Nat.reduceSub, Nat.reduceMul, Nat.reduceLeDiff, Nat.reduceLT, Nat.reduceEqDiff, reduceCtorEq, reduceIte, reduceDIte, if_pos rfl, Int.reduceLT, Int.reduceLE, Int.reduceEq, Int.reduceNeg, Int.reduceAdd, Int.reduceSub, Int.reduceMul, Int.reduceToNat, opLen, St.next_put] <;> omega⟩
  · rw [St.get_set, if_neg n1, St.get_set, if_pos rfl]
  · simp only [go_sem, Nat.reducePow, Nat.reduceDiv, Nat.reduceMod, Nat.reduceAdd, Nat.reduceSub, Nat.reduceMul, Nat.reduceLeDiff, Nat.reduceLT, Nat.reduceEqDiff, reduceCtorEq, reduceIte, reduceDIte, if_pos rfl, Int.reduceLT, Int.reduceLE, Int.reduceEq, Int.reduceNeg, Int.reduceAdd, Int.reduceSub, Int.reduceMul, Int.reduceToNat, opLen, hrr, n3]
    exact gr

theorem ltake_none {σ : St} {l r : Nat} {V : LV} (H : LAt σ l r V) (hL : V.L = []) : DCall Try.prog 108 [.pointer (some ⟨l, 0, none⟩)] σ (.ret (.tuple ⟨[Pk.zero.val, .bool false]⟩)) σ [] := by
  have hl := H.lt.1
  have hrr := H.lt.2
  refine pure_call (enter (p := q8) Try.func108 rfl stat108 ?_) rfl
  simp only [go_sem, Nat.reducePow, Nat.reduceDiv, Nat.reduceMod, Nat.reduceAdd, Nat.reduceSub, Nat.reduceMul, Nat.reduceLeDiff, Nat.reduceLT, Nat.reduceEqDiff, reduceCtorEq, reduceIte, reduceDIte, if_pos rfl, Int.reduceLT, Int.reduceLE, Int.reduceEq, Int.reduceNeg, Int.reduceAdd, Int.reduceSub, Int.reduceMul, Int.reduceToNat, opLen, undef, Pk.val, Pk.cells, Pk.zero, Try.f108, body104, body134]
  refine .of (lfirst_none (H.keep (by simp only [go_sem, Nat.reducePow, Nat.reduceDiv, Nat.reduceMod, Nat.reduceAdd, Nat.reduceSub, Nat.reduceMul, Nat.reduceLeDiff, Nat.reduceLT, Nat.reduceEqDiff, reduceCtorEq, reduceIte, reduceDIte, if_pos rfl, Int.reduceLT, Int.reduceLE, Int.reduceEq, Int.reduceNeg, Int.reduceAdd, Int.reduceSub, Int.reduceMul, Int.reduceToNat, opLen]) (by simp only [go_sem, Nat.reducePow, Nat.reduceDiv, Nat.reduceMod, Nat.reduceAdd, Nat.reduceSub, Nat.reduceMul, Nat.reduceLeDiff, Nat.reduceLT, Nat.reduceEqDiff, reduceCtorEq, reduceIte, reduceDIte, if_pos rfl, Int.reduceLT, Int.reduceLE, Int.reduceEq, Int.reduceNeg, Int.reduceAdd, Int.reduceSub, Int.reduceMul, Int.reduceToNat, opLen, hl]) (by simp only [go_sem, Nat.reducePow, Nat.reduceDiv, Nat.reduceMod, Nat.reduceAdd, Nat.reduceSub, Nat.reduceMul, Nat.reduceLeDiff, Nat.reduceLT, Nat.reduceEqDiff, reduceCtorEq, reduceIte, reduceDIte, if_pos rfl, Int.reduceLT, Int.reduceLE, Int.reduceEq, Int.reduceNeg, Int.reduceAdd, Int.reduceSub, Int.reduceMul, Int.reduceToNat, opLen, hrr])) hL) ?_
  simp only [go_sem, Nat.reducePow, Nat.reduceDiv, Nat.reduceMod, Nat.reduceAdd, Nat.reduceSub, Nat.reduceMul, Nat.reduceLeDiff, Nat.reduceLT, Nat.reduceEqDiff, reduceCtorEq, reduceIte, reduceDIte, if_pos rfl, Int.reduceLT, Int.reduceLE, Int.reduceEq, Int.reduceNeg, Int.reduceAdd, Int.reduceSub, Int.reduceMul, Int.reduceToNat, opLen, undef, Pk.val, Pk.cells, Pk.zero, body104, body134]

end Go.Ab
