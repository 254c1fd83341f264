/- rat, without its panics: what is made of one, of two fractions. rat, without its panics: Make, Greatest of two, Add. vclock: what a queue is in the abstract heap. rat: a sum of two fractions of words. vclock: New, Add. vclock: Put. vclock: Len, Take. Loops by a measure; frames of which only some places are known. known, of the layers 11, 14, 16: true. vclock: what Put refuses; Take of an empty queue. ClockAlone: what a queue holds, step by step. ClockAlone: the flows. ClockAlone: the loop over the packets. -/
import Derived.Test.YtlipmhhndhhgdaaJClockAloneSaid3
import Derived.Test.YtlipmhhndhhgdaaJClockAloneSaid2

set_option linter.unusedSimpArgs false
set_option linter.unusedVariables false
namespace Go.Ab
open Go.Proofs

def q8 : PureTab Try.prog := ⟨p8, p8_is⟩

/-- What is said of a call that answers v, and turns nothing of old. -/
def Ans (σ : St) (v : Value) (e : AE) (σ' : St) (l : Log) : Prop := e = .ret v ∧ (∀ c ∈ l, σ.next ≤ c) ∧ σ.next ≤ σ'.next ∧ ∀ c, c < σ.next → σ'.get c = σ.get c

theorem Ans.of {f : FuncId} {args : List Value} {σ : St} {v : Value} (h : callX Try.prog f args σ fun e _ l => e = .ret v ∧ ∀ c ∈ l, σ.next ≤ c) : callX Try.prog f args σ (Ans σ v) :=
  h.use fun _ _ _ hl ⟨a, b⟩ => ⟨a, b, hl.1, fun c hc => hl.2 c hc fun hm => by have := b c hm; omega⟩

theorem callX.ret {f : FuncId} {args : List Value} {σ : St} {v : Value} {R : St → Log → Prop} {K : AE → St → Log → Prop} (h : callX Try.prog f args σ fun e σ' l => e = .ret v ∧ R σ' l) (k : ∀ σ' l, Logged σ σ' l → R σ' l → K (.ret v) σ' l) : callX Try.prog f args σ K :=
  h.use fun _ σ' l hl ⟨a, b⟩ => a ▸ k σ' l hl b

theorem Ans.pure {f : FuncId} {args : List Value} {σ : St} {v : Value} (h : callX Try.prog f args σ (Ans σ v)) (hv : plain v = true) : DCall Try.prog f args σ (.ret v) σ [] :=
  pure_call (h.use fun _ _ _ _ ⟨a, b, _⟩ => ⟨a, b⟩) hv

theorem within_call (n a b : Int) (σ : St) : DCall Try.prog 60 [.int .i64 n, .int .i64 a, .int .i64 b] σ (.ret (.bool (decide (a ≤ n) && decide (n ≤ b)))) σ [] := by
  refine pure_call (enter (p := q8) Try.func60 rfl stat60 ?_) rfl
  by_cases h : a ≤ n
  · simp only [go_sem, Nat.reducePow, Nat.reduceDiv, Nat.reduceMod, Nat.reduceAdd, Nat.reduceSub, Nat.reduceMul, Nat.reduceLeDiff, Nat.reduceLT, Nat.reduceEqDiff, reduceCtorEq, reduceIte, reduceDIte, if_pos rfl, Int.reduceLT, Int.reduceLE, Int.reduceEq, Int.reduceNeg, Int.reduceAdd, Int.reduceSub, Int.reduceMul, Int.reduceToNat, opLen, Try.f60, Try.underlying2, info2, Try.t2, h]
  · simp only [go_sem, Nat.reducePow, Nat.reduceDiv, Nat.reduceMod, Nat.reduceAdd, Nat.reduceSub, Nat.reduceMul, Nat.reduceLeDiff, Nat.reduceLT, Nat.reduceEqDiff, reduceCtorEq, reduceIte, reduceDIte, if_pos rfl, Int.reduceLT, Int.reduceLE, Int.reduceEq, Int.reduceNeg, Int.reduceAdd, Int.reduceSub, Int.reduceMul, Int.reduceToNat, opLen, Try.f60, Try.underlying2, info2, Try.t2, h]

theorem whole_call' (n : Int) (σ : St) : DCall Try.prog 61 [.int .i64 n] σ (.ret (.agg ⟨[.int .i64 n, .int .i64 1]⟩)) σ [] := by
  refine pure_call (enter (p := q8) Try.func61 rfl stat61 ?_) rfl
  simp only [go_sem, Nat.reducePow, Nat.reduceDiv, Nat.reduceMod, Nat.reduceAdd, Nat.reduceSub, Nat.reduceMul, Nat.reduceLeDiff, Nat.reduceLT, Nat.reduceEqDiff, reduceCtorEq, reduceIte, reduceDIte, if_pos rfl, Int.reduceLT, Int.reduceLE, Int.reduceEq, Int.reduceNeg, Int.reduceAdd, Int.reduceSub, Int.reduceMul, Int.reduceToNat, opLen, Try.f61, Try.underlying2, info2, Try.t2, Try.underlying24, info24, Try.t24]

theorem told_call (n d : Int) (b : Bool) (σ : St) (h1 : 0 ≤ n) (h2 : n ≤ 9223372036854775807) (h3 : 0 ≤ d) (h4 : d ≤ 9223372036854775807) : DCall Try.prog 122 [.int .u64 n, .bool b, .int .u64 d] σ (.ret (.agg ⟨[.int .i64 (if b then -n else n), .int .i64 d]⟩)) σ [] := by
  have w1 : IntKind.i64.wrap n = n := by rw [IntKind.wrap_i64]; omega
  have w2 : IntKind.i64.wrap d = d := by rw [IntKind.wrap_i64]; omega
  have w3 : IntKind.i64.wrap (0 - n) = -n := by rw [IntKind.wrap_i64]; omega
  refine pure_call (enter (p := q8) Try.func122 rfl stat122 ?_) rfl
  simp only [go_sem, Nat.reducePow, Nat.reduceDiv, Nat.reduceMod, Nat.reduceAdd, Nat.reduceSub, Nat.reduceMul, Nat.reduceLeDiff, Nat.reduceLT, Nat.reduceEqDiff, reduceCtorEq, reduceIte, reduceDIte, if_pos rfl, Int.reduceLT, Int.reduceLE, Int.reduceEq, Int.reduceNeg, Int.reduceAdd, Int.reduceSub, Int.reduceMul, Int.reduceToNat, opLen, callW, q8, p8, p7, p6, p5, p4, p3, p2, p1, Try.f122, h2, h4, Try.underlying2, info2, Try.t2, Try.underlying24, info24, Try.t24, Try.underlying28, info28, Try.t28, Try.underlying115, info115, Try.t115, body91, body141]
  refine enter (p := q8) Try.func141 rfl stat141 ?_
  cases b
  · simp only [go_sem, Nat.reducePow, Nat.reduceDiv, Nat.reduceMod, Nat.reduceAdd, Nat.reduceSub, Nat.reduceMul, Nat.reduceLeDiff, Nat.reduceLT, Nat.reduceEqDiff, reduceCtorEq, reduceIte, reduceDIte, if_pos rfl, Int.reduceLT, Int.reduceLE, Int.reduceEq, Int.reduceNeg, Int.reduceAdd, Int.reduceSub, Int.reduceMul, Int.reduceToNat, opLen, callW, q8, p8, p7, p6, p5, p4, p3, p2, p1, Try.f141, h2, h4, w1, w2, w3, Try.underlying2, info2, Try.t2, Try.underlying4, info4, Try.t4, Try.underlying24, info24, Try.t24, Try.underlying28, info28, Try.t28, Try.underlying115, info115, Try.t115, body91, body141]
  · simp only [go_sem, Nat.reducePow, Nat.reduceDiv, Nat.reduceMod, Nat.reduceAdd, Nat.reduceSub, Nat.reduceMul, Nat.reduceLeDiff, Nat.reduceLT, Nat.reduceEqDiff, reduceCtorEq, reduceIte, reduceDIte, if_pos rfl, Int.reduceLT, Int.reduceLE, Int.reduceEq, Int.reduceNeg, Int.reduceAdd, Int.reduceSub, Int.reduceMul, Int.reduceToNat, opLen, callW, q8, p8, p7, p6, p5, p4, p3, p2, p1, Try.f141, h2, h4, w1, w2, w3, Try.underlying2, info2, Try.t2, Try.underlying4, info4, Try.t4, Try.underlying24, info24, Try.t24, Try.underlying28, info28, Try.t28, Try.underlying115, info115, Try.t115, body91, body141]

theorem gcd_div {n d : Int} (hn : 0 ≤ n) (hd : 0 < d) : 0 < (Int.gcd n d : Int) ∧ 0 ≤ n / (Int.gcd n d : Int) ∧ n / (Int.gcd n d : Int) ≤ n ∧ 0 ≤ d / (Int.gcd n d : Int) ∧ d / (Int.gcd n d : Int) ≤ d := by
  have hg : 0 < (Int.gcd n d : Int) := by
    have := Int.gcd_pos_of_ne_zero_right n (show d ≠ 0 by omega)
    omega
  refine ⟨hg, Int.ediv_nonneg hn (by omega), Int.ediv_le_self _ hn, Int.ediv_nonneg (by omega) (by omega), Int.ediv_le_self _ (by omega)⟩

theorem made_call (n d : Int) (b : Bool) (σ : St) (h1 : 0 ≤ n) (h2 : n ≤ 9223372036854775807) (h3 : 0 < d) (h4 : d ≤ 9223372036854775807) :
    DCall Try.prog 92 [.int .u64 n, .bool b, .int .u64 d] σ (.ret (.agg ⟨[.int .i64 (if b then -(n / (Int.gcd n d : Int)) else n / (Int.gcd n d : Int)), .int .i64 (d / (Int.gcd n d : Int))]⟩)) σ [] := by
  obtain ⟨g0, a1, a2, a3, a4⟩ := gcd_div h1 h3
  have o1 : okU n = true := by simp [okU]; omega
  have o2 : okU d = true := by simp [okU]; omega
  have gne : ¬ (Int.gcd n d : Int) = 0 := by omega
  have t1 : n.tdiv (Int.gcd n d : Int) = n / (Int.gcd n d : Int) := Int.tdiv_eq_ediv_of_nonneg h1
  have t2 : d.tdiv (Int.gcd n d : Int) = d / (Int.gcd n d : Int) := Int.tdiv_eq_ediv_of_nonneg (by omega)
  have w1 : IntKind.u64.wrap (n / (Int.gcd n d : Int)) = n / (Int.gcd n d : Int) := by rw [IntKind.wrap_u64]; omega
  have w2 : IntKind.u64.wrap (d / (Int.gcd n d : Int)) = d / (Int.gcd n d : Int) := by rw [IntKind.wrap_u64]; omega
  refine pure_call (enter (p := q8) Try.func92 rfl stat92 ?_) rfl
  simp only [go_sem, Nat.reducePow, Nat.reduceDiv, Nat.reduceMod, Nat.reduceAdd, Nat.reduceSub, Nat.reduceMul, Nat.reduceLeDiff, Nat.reduceLT, Nat.reduceEqDiff, reduceCtorEq, reduceIte, reduceDIte, if_pos rfl, Int.reduceLT, Int.reduceLE, Int.reduceEq, Int.reduceNeg, Int.reduceAdd, Int.reduceSub, Int.reduceMul, Int.reduceToNat, opLen, callW, q8, p8, p7, p6, p5, p4, p3, p2, p1, Try.f92, o1, o2, gne, t1, t2, w1, w2, Try.underlying2, info2, Try.t2, Try.underlying4, info4, Try.t4, Try.underlying24, info24, Try.t24, Try.underlying28, info28, Try.t28, Try.underlying115, info115, Try.t115, body77, body122]
  refine .of (told_call _ _ _ _ a1 (by omega) a3 (by omega)) ?_
  simp only [go_sem, Nat.reducePow, Nat.reduceDiv, Nat.reduceMod, Nat.reduceAdd, Nat.reduceSub, Nat.reduceMul, Nat.reduceLeDiff, Nat.reduceLT, Nat.reduceEqDiff, reduceCtorEq, reduceIte, reduceDIte, if_pos rfl, Int.reduceLT, Int.reduceLE, Int.reduceEq, Int.reduceNeg, Int.reduceAdd, Int.reduceSub, Int.reduceMul, Int.reduceToNat, opLen, Try.f92, Try.underlying2, info2, Try.t2, Try.underlying4, info4, Try.t4, Try.underlying24, info24, Try.t24, Try.underlying28, info28, Try.t28, Try.underlying115, info115, Try.t115]

/-- try, of what gives a fraction and does not give up. -/
theorem try_rat {g : FuncId} {ys : List Value} {n d : Int} {σ : St} (hg : (cP Try.prog).bodies g = true)
    (H : callX Try.prog g ys ((σ.new (.cells [.int .i64 0, .int .i64 0] false)).new (.cells [.int .i64 0] false)) (Ans ((σ.new (.cells [.int .i64 0, .int .i64 0] false)).new (.cells [.int .i64 0] false)) (.agg ⟨[.int .i64 n, .int .i64 d]⟩))) :
    DCall Try.prog 89 [.func (.func g) ⟨[]⟩ ⟨ys⟩] σ (.ret (.tuple ⟨[.agg ⟨[.int .i64 n, .int .i64 d]⟩, .int .i64 0]⟩)) σ [] := by
  refine pure_call (callX.enterD (p := q0) cP_ok mixed Try.func89 rfl stat89 ?_) rfl
  simp only [go_sem, Nat.reducePow, Nat.reduceDiv, Nat.reduceMod, Nat.reduceAdd, Nat.reduceSub, Nat.reduceMul, Nat.reduceLeDiff, Nat.reduceLT, Nat.reduceEqDiff, reduceCtorEq, reduceIte, reduceDIte, if_pos rfl, Int.reduceLT, Int.reduceLE, Int.reduceEq, Int.reduceNeg, Int.reduceAdd, Int.reduceSub, Int.reduceMul, Int.reduceToNat, opLen, callW, q0, Try.f89, hg, Try.underlying1, info1, Try.t1, Try.underlying3, info3, Try.t3, Try.underlying24, info24, Try.t24, Try.underlying28, info28, Try.t28, Try.underlying161, info161, Try.t161, body121]
  refine callX.ret H ?_
  intro σ' l hl ⟨h1, h2, h3⟩
  simp only [St.next_new] at h1 h2 h3
  have g0 := h3 σ.next (by omega)
  have g1 := h3 (σ.next + 1) (by omega)
  simp only [go_sem, Nat.reducePow, Nat.reduceDiv, Nat.reduceMod, Nat.reduceAdd, Nat.reduceSub, Nat.reduceMul, Nat.reduceLeDiff, Nat.reduceLT, Nat.reduceEqDiff, reduceCtorEq, reduceIte, reduceDIte, if_pos rfl, Int.reduceLT, Int.reduceLE, Int.reduceEq, Int.reduceNeg, Int.reduceAdd, Int.reduceSub, Int.reduceMul, Int.reduceToNat, opLen, Try.f89, Try.underlying1, info1, Try.t1, Try.underlying3, info3, Try.t3, Try.underlying24, info24, Try.t24, Try.underlying28, info28, Try.t28, Try.underlying161, info161, Try.t161] at g0 g1
  simp only [go_sem, Nat.reducePow, Nat.reduceDiv, Nat.reduceMod, Nat.reduceAdd, Nat.reduceSub, Nat.reduceMul, Nat.reduceLeDiff, Nat.reduceLT, Nat.reduceEqDiff, reduceCtorEq, reduceIte, reduceDIte, if_pos rfl, Int.reduceLT, Int.reduceLE, Int.reduceEq, Int.reduceNeg, Int.reduceAdd, Int.reduceSub, Int.reduceMul, Int.reduceToNat, opLen, Try.f89, g0, g1, Try.underlying1, info1, Try.t1, Try.underlying3, info3, Try.t3, Try.underlying24, info24, Try.t24, Try.underlying28, info28, Try.t28, Try.underlying161, info161, Try.t161]
  refine .cons has121 (.recover (p := q0) (bt := btAll 121) cP_ok mixed Try.func121 rfl rfl rfl (by kernel_rfl) ?_)
  simp only [go_sem, Nat.reducePow, Nat.reduceDiv, Nat.reduceMod, Nat.reduceAdd, Nat.reduceSub, Nat.reduceMul, Nat.reduceLeDiff, Nat.reduceLT, Nat.reduceEqDiff, reduceCtorEq, reduceIte, reduceDIte, if_pos rfl, Int.reduceLT, Int.reduceLE, Int.reduceEq, Int.reduceNeg, Int.reduceAdd, Int.reduceSub, Int.reduceMul, Int.reduceToNat, opLen, Try.f121, Try.underlying1, info1, Try.t1, Try.underlying3, info3, Try.t3, Try.underlying20, info20, Try.t20, Try.underlying24, info24, Try.t24, Try.underlying28, info28, Try.t28, Try.underlying161, info161, Try.t161]
  refine .ret cP_ok (by simp only [go_sem, Nat.reducePow, Nat.reduceDiv, Nat.reduceMod, Nat.reduceAdd, Nat.reduceSub, Nat.reduceMul, Nat.reduceLeDiff, Nat.reduceLT, Nat.reduceEqDiff, reduceCtorEq, reduceIte, reduceDIte, if_pos rfl, Int.reduceLT, Int.reduceLE, Int.reduceEq, Int.reduceNeg, Int.reduceAdd, Int.reduceSub, Int.reduceMul, Int.reduceToNat, opLen, Try.underlying1, info1, Try.t1, Try.underlying3, info3, Try.t3, Try.underlying20, info20, Try.t20, Try.underlying24, info24, Try.t24, Try.underlying28, info28, Try.t28, Try.underlying161, info161, Try.t161] <;> rfl) ?_
  simp only [go_sem, Nat.reducePow, Nat.reduceDiv, Nat.reduceMod, Nat.reduceAdd, Nat.reduceSub, Nat.reduceMul, Nat.reduceLeDiff, Nat.reduceLT, Nat.reduceEqDiff, reduceCtorEq, reduceIte, reduceDIte, if_pos rfl, Int.reduceLT, Int.reduceLE, Int.reduceEq, Int.reduceNeg, Int.reduceAdd, Int.reduceSub, Int.reduceMul, Int.reduceToNat, opLen]
  intro c hc
  rcases hc with (hc | hc) | hc
  · have := h1 c hc; omega
  · omega
  · omega

end Go.Ab

set_option linter.unusedSimpArgs false
set_option linter.unusedVariables false
namespace Go.Ab
open Go.Proofs

theorem make1_call {p q : Nat} {n d : Int} {σ : St} (hp : p < σ.next) (hq : q < σ.next) (gp : σ.get p = some (.cells [.int .i64 d] false)) (gq : σ.get q = some (.cells [.int .i64 n] false)) (h1 : 0 ≤ n) (h2 : n ≤ 9223372036854775807) (h3 : 0 < d) (h4 : d ≤ 9223372036854775807) :
    callX Try.prog 90 [.pointer (some ⟨p, 0, none⟩), .pointer (some ⟨q, 0, none⟩)] σ (Ans σ (.agg ⟨[.int .i64 (n / (Int.gcd n d : Int)), .int .i64 (d / (Int.gcd n d : Int))]⟩)) := by
  have o1 : okI n = true := by simp [okI]; omega
  have o2 : okI d = true := by simp [okI]; omega
  have n1 : (n.natAbs : Int) = n := by omega
  have n2 : (d.natAbs : Int) = d := by omega
  have e1 : (d != 0) = true := by simp; omega
  have e2 : ¬ n < 0 := by omega
  have e3 : ¬ d < 0 := by omega
  refine Ans.of (enter (p := q8) Try.func90 rfl stat90 ?_)
  simp only [go_sem, Nat.reducePow, Nat.reduceDiv, Nat.reduceMod, Nat.reduceAdd, Nat.reduceSub, Nat.reduceMul, Nat.reduceLeDiff, Nat.reduceLT, Nat.reduceEqDiff, reduceCtorEq, reduceIte, reduceDIte, if_pos rfl, Int.reduceLT, Int.reduceLE, Int.reduceEq, Int.reduceNeg, Int.reduceAdd, Int.reduceSub, Int.reduceMul, Int.reduceToNat, opLen, callW, q8, p8, p7, p6, p5, p4, p3, p2, p1, Try.f90, gp, gq, hp, hq, o1, o2, n1, n2, e1, e2, e3, Try.underlying2, info2, Try.t2, Try.underlying4, info4, Try.t4, Try.underlying24, info24, Try.t24, Try.underlying28, info28, Try.t28, Try.underlying115, info115, Try.t115, body78, body91, body92]
  refine .of (made_call n d false _ h1 h2 h3 h4) ?_
  simp only [go_sem, Nat.reducePow, Nat.reduceDiv, Nat.reduceMod, Nat.reduceAdd, Nat.reduceSub, Nat.reduceMul, Nat.reduceLeDiff, Nat.reduceLT, Nat.reduceEqDiff, reduceCtorEq, reduceIte, reduceDIte, if_pos rfl, Int.reduceLT, Int.reduceLE, Int.reduceEq, Int.reduceNeg, Int.reduceAdd, Int.reduceSub, Int.reduceMul, Int.reduceToNat, opLen, hp, hq, Try.underlying2, info2, Try.t2, Try.underlying4, info4, Try.t4, Try.underlying24, info24, Try.t24, Try.underlying28, info28, Try.t28, Try.underlying115, info115, Try.t115]

theorem make_call (n d : Int) (σ : St) (h1 : 0 ≤ n) (h2 : n ≤ 9223372036854775807) (h3 : 0 < d) (h4 : d ≤ 9223372036854775807) :
    DCall Try.prog 63 [.int .i64 n, .int .i64 d] σ (.ret (.tuple ⟨[.agg ⟨[.int .i64 (n / (Int.gcd n d : Int)), .int .i64 (d / (Int.gcd n d : Int))]⟩, .int .i64 0]⟩)) σ [] := by
  refine pure_call (enter (p := q8) Try.func63 rfl stat63 ?_) rfl
  simp only [go_sem, Nat.reducePow, Nat.reduceDiv, Nat.reduceMod, Nat.reduceAdd, Nat.reduceSub, Nat.reduceMul, Nat.reduceLeDiff, Nat.reduceLT, Nat.reduceEqDiff, reduceCtorEq, reduceIte, reduceDIte, if_pos rfl, Int.reduceLT, Int.reduceLE, Int.reduceEq, Int.reduceNeg, Int.reduceAdd, Int.reduceSub, Int.reduceMul, Int.reduceToNat, opLen, callW, q8, p8, p7, p6, p5, p4, p3, p2, p1, Try.f63, Try.underlying2, info2, Try.t2, Try.underlying4, info4, Try.t4, Try.underlying24, info24, Try.t24, Try.underlying28, info28, Try.t28, Try.underlying57, info57, Try.t57, Try.underlying115, info115, Try.t115, Try.underlying161, info161, Try.t161, body89, body90]
  refine .of (try_rat body90 (make1_call (n := n) (d := d) ?_ ?_ ?_ ?_ h1 h2 h3 h4)) ?_
  · simp only [go_sem, Nat.reducePow, Nat.reduceDiv, Nat.reduceMod, Nat.reduceAdd, Nat.reduceSub, Nat.reduceMul, Nat.reduceLeDiff, Nat.reduceLT, Nat.reduceEqDiff, reduceCtorEq, reduceIte, reduceDIte, if_pos rfl, Int.reduceLT, Int.reduceLE, Int.reduceEq, Int.reduceNeg, Int.reduceAdd, Int.reduceSub, Int.reduceMul, Int.reduceToNat, opLen]
  · simp only [go_sem, Nat.reducePow, Nat.reduceDiv, Nat.reduceMod, Nat.reduceAdd, Nat.reduceSub, Nat.reduceMul, Nat.reduceLeDiff, Nat.reduceLT, Nat.reduceEqDiff, reduceCtorEq, reduceIte, reduceDIte, if_pos rfl, Int.reduceLT, Int.reduceLE, Int.reduceEq, Int.reduceNeg, Int.reduceAdd, Int.reduceSub, Int.reduceMul, Int.reduceToNat, opLen]
  · simp only [go_sem, Nat.reducePow, Nat.reduceDiv, Nat.reduceMod, Nat.reduceAdd, Nat.reduceSub, Nat.reduceMul, Nat.reduceLeDiff, Nat.reduceLT, Nat.reduceEqDiff, reduceCtorEq, reduceIte, reduceDIte, if_pos rfl, Int.reduceLT, Int.reduceLE, Int.reduceEq, Int.reduceNeg, Int.reduceAdd, Int.reduceSub, Int.reduceMul, Int.reduceToNat, opLen]
  · simp only [go_sem, Nat.reducePow, Nat.reduceDiv, Nat.reduceMod, Nat.reduceAdd, Nat.reduceSub, Nat.reduceMul, Nat.reduceLeDiff, Nat.reduceLT, Nat.reduceEqDiff, reduceCtorEq, reduceIte, reduceDIte, if_pos rfl, Int.reduceLT, Int.reduceLE, Int.reduceEq, Int.reduceNeg, Int.reduceAdd, Int.reduceSub, Int.reduceMul, Int.reduceToNat, opLen]
  · simp only [go_sem, Nat.reducePow, Nat.reduceDiv, Nat.reduceMod, Nat.reduceAdd, Nat.reduceSub, Nat.reduceMul, Nat.reduceLeDiff, Nat.reduceLT, Nat.reduceEqDiff, reduceCtorEq, reduceIte, reduceDIte, if_pos rfl, Int.reduceLT, Int.reduceLE, Int.reduceEq, Int.reduceNeg, Int.reduceAdd, Int.reduceSub, Int.reduceMul, Int.reduceToNat, opLen, Try.underlying2, info2, Try.t2, Try.underlying4, info4, Try.t4, Try.underlying24, info24, Try.t24, Try.underlying28, info28, Try.t28, Try.underlying57, info57, Try.t57, Try.underlying115, info115, Try.t115, Try.underlying161, info161, Try.t161]

set_option maxRecDepth 20000 in
theorem first1_call {p q b : Nat} {n₁ d₁ n₂ d₂ : Int} {σ : St} (hp : p < σ.next) (hq : q < σ.next) (hb : b < σ.next) (gp : σ.get p = some (.cells [.slice (some ⟨b, 0, some 0⟩) 2 2] false)) (gq : σ.get q = some (.cells [.func (.func 87) ⟨[]⟩ ⟨[]⟩] false))
    (gb : σ.get b = some (.cells [.int .i64 n₁, .int .i64 d₁, .int .i64 n₂, .int .i64 d₂] false)) (h1 : okR n₁ d₁ = true) (h2 : okR n₂ d₂ = true) :
    callX Try.prog 117 [.pointer (some ⟨p, 0, none⟩), .pointer (some ⟨q, 0, none⟩)] σ (Ans σ (.agg ⟨if 0 < cmpR n₂ d₂ n₁ d₁ then [.int .i64 n₂, .int .i64 d₂] else [.int .i64 n₁, .int .i64 d₁]⟩)) := by
  have k1 := h1
  have k2 := h2
  simp only [okR, Bool.and_eq_true, decide_eq_true_eq] at k1 k2
  refine Ans.of (enter (p := q8) Try.func117 rfl stat117 ?_)
  simp only [go_sem, Nat.reducePow, Nat.reduceDiv, Nat.reduceMod, Nat.reduceAdd, Nat.reduceSub, Nat.reduceMul, Nat.reduceLeDiff, Nat.reduceLT, Nat.reduceEqDiff, reduceCtorEq, reduceIte, reduceDIte, if_pos rfl, Int.reduceLT, Int.reduceLE, Int.reduceEq, Int.reduceNeg, Int.reduceAdd, Int.reduceSub, Int.reduceMul, Int.reduceToNat, opLen, callW, q8, p8, p7, p6, p5, p4, p3, p2, p1, opLen, Try.f117, gp, gq, gb, hp, hq, hb, h1, h2, Try.underlying2, info2, Try.t2, Try.underlying3, info3, Try.t3, Try.underlying4, info4, Try.t4, Try.underlying22, info22, Try.t22, Try.underlying24, info24, Try.t24, Try.underlying28, info28, Try.t28, Try.underlying157, info157, Try.t157, body78, body91, body92, body118]
  refine .of (both_call b n₁ d₁ n₂ d₂ _ ?_ ?_ k1.1.1 k1.1.2 k2.1.1 k2.1.2 k1.2 k2.2) ?_
  · simp only [go_sem, Nat.reducePow, Nat.reduceDiv, Nat.reduceMod, Nat.reduceAdd, Nat.reduceSub, Nat.reduceMul, Nat.reduceLeDiff, Nat.reduceLT, Nat.reduceEqDiff, reduceCtorEq, reduceIte, reduceDIte, if_pos rfl, Int.reduceLT, Int.reduceLE, Int.reduceEq, Int.reduceNeg, Int.reduceAdd, Int.reduceSub, Int.reduceMul, Int.reduceToNat, opLen, hb]
  · simp only [go_sem, Nat.reducePow, Nat.reduceDiv, Nat.reduceMod, Nat.reduceAdd, Nat.reduceSub, Nat.reduceMul, Nat.reduceLeDiff, Nat.reduceLT, Nat.reduceEqDiff, reduceCtorEq, reduceIte, reduceDIte, if_pos rfl, Int.reduceLT, Int.reduceLE, Int.reduceEq, Int.reduceNeg, Int.reduceAdd, Int.reduceSub, Int.reduceMul, Int.reduceToNat, opLen, gb, hb]
  simp only [go_sem, Nat.reducePow, Nat.reduceDiv, Nat.reduceMod, Nat.reduceAdd, Nat.reduceSub, Nat.reduceMul, Nat.reduceLeDiff, Nat.reduceLT, Nat.reduceEqDiff, reduceCtorEq, reduceIte, reduceDIte, if_pos rfl, Int.reduceLT, Int.reduceLE, Int.reduceEq, Int.reduceNeg, Int.reduceAdd, Int.reduceSub, Int.reduceMul, Int.reduceToNat, opLen, callW, q8, p8, p7, p6, p5, p4, p3, p2, p1, gp, gq, gb, hp, hq, hb, h1, h2, Try.underlying2, info2, Try.t2, Try.underlying3, info3, Try.t3, Try.underlying4, info4, Try.t4, Try.underlying22, info22, Try.t22, Try.underlying24, info24, Try.t24, Try.underlying28, info28, Try.t28, Try.underlying157, info157, Try.t157, body78, body91, body92, body118]
  refine turn q8 117 (by kernel_rfl) ?_
  have n1 : Int.toNat 1 = 1 := rfl
  have n2 : Int.toNat 0 = 0 := rfl
  simp only [go_sem, Nat.reducePow, Nat.reduceDiv, Nat.reduceMod, Nat.reduceAdd, Nat.reduceSub, Nat.reduceMul, Nat.reduceLeDiff, Nat.reduceLT, Nat.reduceEqDiff, reduceCtorEq, reduceIte, reduceDIte, if_pos rfl, Int.reduceLT, Int.reduceLE, Int.reduceEq, Int.reduceNeg, Int.reduceAdd, Int.reduceSub, Int.reduceMul, Int.reduceToNat, opLen, callW, q8, p8, p7, p6, p5, p4, p3, p2, p1, n1, n2, gp, gq, gb, hp, hq, hb, h1, h2, Try.underlying2, info2, Try.t2, Try.underlying3, info3, Try.t3, Try.underlying4, info4, Try.t4, Try.underlying22, info22, Try.t22, Try.underlying24, info24, Try.t24, Try.underlying28, info28, Try.t28, Try.underlying157, info157, Try.t157, body87, body91, body92, body118]
  refine enter (p := q8) Try.func87 rfl stat87 ?_
  simp only [go_sem, Nat.reducePow, Nat.reduceDiv, Nat.reduceMod, Nat.reduceAdd, Nat.reduceSub, Nat.reduceMul, Nat.reduceLeDiff, Nat.reduceLT, Nat.reduceEqDiff, reduceCtorEq, reduceIte, reduceDIte, if_pos rfl, Int.reduceLT, Int.reduceLE, Int.reduceEq, Int.reduceNeg, Int.reduceAdd, Int.reduceSub, Int.reduceMul, Int.reduceToNat, opLen, callW, q8, p8, p7, p6, p5, p4, p3, p2, p1, Try.f87, gp, gq, gb, hp, hq, hb, h1, h2, Try.underlying2, info2, Try.t2, Try.underlying3, info3, Try.t3, Try.underlying4, info4, Try.t4, Try.underlying22, info22, Try.t22, Try.underlying24, info24, Try.t24, Try.underlying28, info28, Try.t28, Try.underlying157, info157, Try.t157, body87, body88, body91, body92, body118]
  split <;> rename_i hc
  · refine turn q8 117 (by kernel_rfl) ?_
    simp only [go_sem, Nat.reducePow, Nat.reduceDiv, Nat.reduceMod, Nat.reduceAdd, Nat.reduceSub, Nat.reduceMul, Nat.reduceLeDiff, Nat.reduceLT, Nat.reduceEqDiff, reduceCtorEq, reduceIte, reduceDIte, if_pos rfl, Int.reduceLT, Int.reduceLE, Int.reduceEq, Int.reduceNeg, Int.reduceAdd, Int.reduceSub, Int.reduceMul, Int.reduceToNat, opLen, callW, q8, p8, p7, p6, p5, p4, p3, p2, p1, gp, gq, gb, hp, hq, hb, h1, h2, hc, Try.underlying2, info2, Try.t2, Try.underlying3, info3, Try.t3, Try.underlying4, info4, Try.t4, Try.underlying22, info22, Try.t22, Try.underlying24, info24, Try.t24, Try.underlying28, info28, Try.t28, Try.underlying157, info157, Try.t157, body87, body91, body92, body118]
  · refine turn q8 117 (by kernel_rfl) ?_
    simp only [go_sem, Nat.reducePow, Nat.reduceDiv, Nat.reduceMod, Nat.reduceAdd, Nat.reduceSub, Nat.reduceMul, Nat.reduceLeDiff, Nat.reduceLT, Nat.reduceEqDiff, reduceCtorEq, reduceIte, reduceDIte, if_pos rfl, Int.reduceLT, Int.reduceLE, Int.reduceEq, Int.reduceNeg, Int.reduceAdd, Int.reduceSub, Int.reduceMul, Int.reduceToNat, opLen, callW, q8, p8, p7, p6, p5, p4, p3, p2, p1, gp, gq, gb, hp, hq, hb, h1, h2, hc, Try.underlying2, info2, Try.t2, Try.underlying3, info3, Try.t3, Try.underlying4, info4, Try.t4, Try.underlying22, info22, Try.t22, Try.underlying24, info24, Try.t24, Try.underlying28, info28, Try.t28, Try.underlying157, info157, Try.t157, body87, body91, body92, body118]

theorem greatest_call {b : Nat} {n₁ d₁ n₂ d₂ : Int} {σ : St} (hb : b < σ.next) (gb : σ.get b = some (.cells [.int .i64 n₁, .int .i64 d₁, .int .i64 n₂, .int .i64 d₂] false)) (h1 : okR n₁ d₁ = true) (h2 : okR n₂ d₂ = true) :
    DCall Try.prog 62 [.slice (some ⟨b, 0, some 0⟩) 2 2] σ (.ret (.tuple ⟨[if 0 < cmpR n₂ d₂ n₁ d₁ then .agg ⟨[.int .i64 n₂, .int .i64 d₂]⟩ else .agg ⟨[.int .i64 n₁, .int .i64 d₁]⟩, .int .i64 0]⟩)) σ [] := by
  refine pure_call (enter (p := q8) Try.func62 rfl stat62 ?_) (by split <;> rfl)
  simp only [go_sem, Nat.reducePow, Nat.reduceDiv, Nat.reduceMod, Nat.reduceAdd, Nat.reduceSub, Nat.reduceMul, Nat.reduceLeDiff, Nat.reduceLT, Nat.reduceEqDiff, reduceCtorEq, reduceIte, reduceDIte, if_pos rfl, Int.reduceLT, Int.reduceLE, Int.reduceEq, Int.reduceNeg, Int.reduceAdd, Int.reduceSub, Int.reduceMul, Int.reduceToNat, opLen, callW, q8, p8, p7, p6, p5, p4, p3, p2, p1, Try.f62, gb, hb, Try.underlying2, info2, Try.t2, Try.underlying4, info4, Try.t4, Try.underlying22, info22, Try.t22, Try.underlying24, info24, Try.t24, Try.underlying28, info28, Try.t28, Try.underlying57, info57, Try.t57, Try.underlying115, info115, Try.t115, Try.underlying157, info157, Try.t157, body86, body87]
  refine enter (p := q8) Try.func86 rfl stat86 ?_
  simp only [go_sem, Nat.reducePow, Nat.reduceDiv, Nat.reduceMod, Nat.reduceAdd, Nat.reduceSub, Nat.reduceMul, Nat.reduceLeDiff, Nat.reduceLT, Nat.reduceEqDiff, reduceCtorEq, reduceIte, reduceDIte, if_pos rfl, Int.reduceLT, Int.reduceLE, Int.reduceEq, Int.reduceNeg, Int.reduceAdd, Int.reduceSub, Int.reduceMul, Int.reduceToNat, opLen, callW, q8, p8, p7, p6, p5, p4, p3, p2, p1, Try.f86, gb, hb, Try.underlying2, info2, Try.t2, Try.underlying4, info4, Try.t4, Try.underlying22, info22, Try.t22, Try.underlying24, info24, Try.t24, Try.underlying28, info28, Try.t28, Try.underlying57, info57, Try.t57, Try.underlying115, info115, Try.t115, Try.underlying157, info157, Try.t157, Try.underlying161, info161, Try.t161, body89, body117]
  by_cases hc : 0 < cmpR n₂ d₂ n₁ d₁
  · refine .of (try_rat (n := n₂) (d := d₂) body117 ?_) ?_
    · have key := first1_call (σ := ((((((σ.new (.cells [.int .i64 0, .int .i64 0] false)).new (.cells [.slice (some ⟨b, 0, some 0⟩) 2 2] false)).new (.cells [.func (.func 87) ⟨[]⟩ ⟨[]⟩] false)).new (.cells [.int .i64 0, .int .i64 0] false)).new (.cells [.int .i64 0, .int .i64 0] false)).new (.cells [.int .i64 0] false))) (p := σ.next + 1) (q := σ.next + 2) (b := b)
        (by simp only [go_sem, Nat.reducePow, Nat.reduceDiv, Nat.reduceMod, Nat.reduceAdd, Nat.reduceSub, Nat.reduceMul, Nat.reduceLeDiff, Nat.reduceLT, Nat.reduceEqDiff, reduceCtorEq, reduceIte, reduceDIte, if_pos rfl, Int.reduceLT, Int.reduceLE, Int.reduceEq, Int.reduceNeg, Int.reduceAdd, Int.reduceSub, Int.reduceMul, Int.reduceToNat, opLen]) (by simp only [go_sem, Nat.reducePow, Nat.reduceDiv, Nat.reduceMod, Nat.reduceAdd, Nat.reduceSub, Nat.reduceMul, Nat.reduceLeDiff, Nat.reduceLT, Nat.reduceEqDiff, reduceCtorEq, reduceIte, reduceDIte, if_pos rfl, Int.reduceLT, Int.reduceLE, Int.reduceEq, Int.reduceNeg, Int.reduceAdd, Int.reduceSub, Int.reduceMul, Int.reduceToNat, opLen]) (by simp only [go_sem, Nat.reducePow, Nat.reduceDiv, Nat.reduceMod, Nat.reduceAdd, Nat.reduceSub, Nat.reduceMul, Nat.reduceLeDiff, Nat.reduceLT, Nat.reduceEqDiff, reduceCtorEq, reduceIte, reduceDIte, if_pos rfl, Int.reduceLT, Int.reduceLE, Int.reduceEq, Int.reduceNeg, Int.reduceAdd, Int.reduceSub, Int.reduceMul, Int.reduceToNat, opLen, hb]) (by simp only [go_sem, Nat.reducePow, Nat.reduceDiv, Nat.reduceMod, Nat.reduceAdd, Nat.reduceSub, Nat.reduceMul, Nat.reduceLeDiff, Nat.reduceLT, Nat.reduceEqDiff, reduceCtorEq, reduceIte, reduceDIte, if_pos rfl, Int.reduceLT, Int.reduceLE, Int.reduceEq, Int.reduceNeg, Int.reduceAdd, Int.reduceSub, Int.reduceMul, Int.reduceToNat, opLen]) (by simp only [go_sem, Nat.reducePow, Nat.reduceDiv, Nat.reduceMod, Nat.reduceAdd, Nat.reduceSub, Nat.reduceMul, Nat.reduceLeDiff, Nat.reduceLT, Nat.reduceEqDiff, reduceCtorEq, reduceIte, reduceDIte, if_pos rfl, Int.reduceLT, Int.reduceLE, Int.reduceEq, Int.reduceNeg, Int.reduceAdd, Int.reduceSub, Int.reduceMul, Int.reduceToNat, opLen]) (by simp only [go_sem, Nat.reducePow, Nat.reduceDiv, Nat.reduceMod, Nat.reduceAdd, Nat.reduceSub, Nat.reduceMul, Nat.reduceLeDiff, Nat.reduceLT, Nat.reduceEqDiff, reduceCtorEq, reduceIte, reduceDIte, if_pos rfl, Int.reduceLT, Int.reduceLE, Int.reduceEq, Int.reduceNeg, Int.reduceAdd, Int.reduceSub, Int.reduceMul, Int.reduceToNat, opLen, hb, gb]) h1 h2
      rw [if_pos hc] at key
      exact key
    · simp only [go_sem, Nat.reducePow, Nat.reduceDiv, Nat.reduceMod, Nat.reduceAdd, Nat.reduceSub, Nat.reduceMul, Nat.reduceLeDiff, Nat.reduceLT, Nat.reduceEqDiff, reduceCtorEq, reduceIte, reduceDIte, if_pos rfl, Int.reduceLT, Int.reduceLE, Int.reduceEq, Int.reduceNeg, Int.reduceAdd, Int.reduceSub, Int.reduceMul, Int.reduceToNat, opLen, hc, Try.underlying2, info2, Try.t2, Try.underlying4, info4, Try.t4, Try.underlying22, info22, Try.t22, Try.underlying24, info24, Try.t24, Try.underlying28, info28, Try.t28, Try.underlying57, info57, Try.t57, Try.underlying115, info115, Try.t115, Try.underlying157, info157, Try.t157, Try.underlying161, info161, Try.t161]
  · refine .of (try_rat (n := n₁) (d := d₁) body117 ?_) ?_
    · have key := first1_call (σ := ((((((σ.new (.cells [.int .i64 0, .int .i64 0] false)).new (.cells [.slice (some ⟨b, 0, some 0⟩) 2 2] false)).new (.cells [.func (.func 87) ⟨[]⟩ ⟨[]⟩] false)).new (.cells [.int .i64 0, .int .i64 0] false)).new (.cells [.int .i64 0, .int .i64 0] false)).new (.cells [.int .i64 0] false))) (p := σ.next + 1) (q := σ.next + 2) (b := b)
        (by simp only [go_sem, Nat.reducePow, Nat.reduceDiv, Nat.reduceMod, Nat.reduceAdd, Nat.reduceSub, Nat.reduceMul, Nat.reduceLeDiff, Nat.reduceLT, Nat.reduceEqDiff, reduceCtorEq, reduceIte, reduceDIte, if_pos rfl, Int.reduceLT, Int.reduceLE, Int.reduceEq, Int.reduceNeg, Int.reduceAdd, Int.reduceSub, Int.reduceMul, Int.reduceToNat, opLen]) (by simp only [go_sem, Nat.reducePow, Nat.reduceDiv, Nat.reduceMod, Nat.reduceAdd, Nat.reduceSub, Nat.reduceMul, Nat.reduceLeDiff, Nat.reduceLT, Nat.reduceEqDiff, reduceCtorEq, reduceIte, reduceDIte, if_pos rfl, Int.reduceLT, Int.reduceLE, Int.reduceEq, Int.reduceNeg, Int.reduceAdd, Int.reduceSub, Int.reduceMul, Int.reduceToNat, opLen]) (by simp only [go_sem, Nat.reducePow, Nat.reduceDiv, Nat.reduceMod, Nat.reduceAdd, Nat.reduceSub, Nat.reduceMul, Nat.reduceLeDiff, Nat.reduceLT, Nat.reduceEqDiff, reduceCtorEq, reduceIte, reduceDIte, if_pos rfl, Int.reduceLT, Int.reduceLE, Int.reduceEq, Int.reduceNeg, Int.reduceAdd, Int.reduceSub, Int.reduceMul, Int.reduceToNat, opLen, hb]) (by simp only [go_sem, Nat.reducePow, Nat.reduceDiv, Nat.reduceMod, Nat.reduceAdd, Nat.reduceSub, Nat.reduceMul, Nat.reduceLeDiff, Nat.reduceLT, Nat.reduceEqDiff, reduceCtorEq, reduceIte, reduceDIte, if_pos rfl, Int.reduceLT, Int.reduceLE, Int.reduceEq, Int.reduceNeg, Int.reduceAdd, Int.reduceSub, Int.reduceMul, Int.reduceToNat, opLen]) (by simp only [go_sem, Nat.reducePow, Nat.reduceDiv, Nat.reduceMod, Nat.reduceAdd, Nat.reduceSub, Nat.reduceMul, Nat.reduceLeDiff, Nat.reduceLT, Nat.reduceEqDiff, reduceCtorEq, reduceIte, reduceDIte, if_pos rfl, Int.reduceLT, Int.reduceLE, Int.reduceEq, Int.reduceNeg, Int.reduceAdd, Int.reduceSub, Int.reduceMul, Int.reduceToNat, opLen]) (by simp only [go_sem, Nat.reducePow, Nat.reduceDiv, Nat.reduceMod, Nat.reduceAdd, Nat.reduceSub, Nat.reduceMul, Nat.reduceLeDiff, Nat.reduceLT, Nat.reduceEqDiff, reduceCtorEq, reduceIte, reduceDIte, if_pos rfl, Int.reduceLT, Int.reduceLE, Int.reduceEq, Int.reduceNeg, Int.reduceAdd, Int.reduceSub, Int.reduceMul, Int.reduceToNat, opLen, hb, gb]) h1 h2
      rw [if_neg hc] at key
      exact key
    · simp only [go_sem, Nat.reducePow, Nat.reduceDiv, Nat.reduceMod, Nat.reduceAdd, Nat.reduceSub, Nat.reduceMul, Nat.reduceLeDiff, Nat.reduceLT, Nat.reduceEqDiff, reduceCtorEq, reduceIte, reduceDIte, if_pos rfl, Int.reduceLT, Int.reduceLE, Int.reduceEq, Int.reduceNeg, Int.reduceAdd, Int.reduceSub, Int.reduceMul, Int.reduceToNat, opLen, hc, Try.underlying2, info2, Try.t2, Try.underlying4, info4, Try.t4, Try.underlying22, info22, Try.t22, Try.underlying24, info24, Try.t24, Try.underlying28, info28, Try.t28, Try.underlying57, info57, Try.t57, Try.underlying115, info115, Try.t115, Try.underlying157, info157, Try.t157, Try.underlying161, info161, Try.t161]
end Go.Ab

set_option linter.unusedSimpArgs false
set_option linter.unusedVariables false
namespace Go.Ab
open Go.Proofs

/-- A heap and the blocks that it stands in: A: none or one, of the list. -/
def HX (σ : St) (h m : Nat) (A : List Nat) (L : List Item) (t : Int) : Prop :=
  (L = [] ∧ A = [] ∧ HE σ h m t) ∨ ∃ a cap, A = [a] ∧ HI σ h a m L cap t

theorem HX.keep {σ σ' : St} {h m : Nat} {A : List Nat} {L : List Item} {t : Int} (H : HX σ h m A L t) (hn : σ.next ≤ σ'.next) (hg : ∀ c ∈ h :: m :: A, σ'.get c = σ.get c) : HX σ' h m A L t := by
  rcases H with ⟨rfl, rfl, H⟩ | ⟨a, cap, rfl, H⟩
  · obtain ⟨ck, gm⟩ := H.gm
    exact .inl ⟨rfl, rfl, ⟨(hg _ (by simp)).trans H.gh, ⟨ck, (hg _ (by simp)).trans gm⟩, H.ne, by have := H.lt; omega⟩⟩
  · obtain ⟨f, H1, hi⟩ := H.hs
    obtain ⟨G, ga, hG⟩ := H1.ga
    obtain ⟨es, ck, gm, hkv⟩ := H1.gm
    exact .inr ⟨a, cap, rfl, ⟨⟨f, ⟨(hg _ (by simp)).trans H1.gh, ⟨G, (hg _ (by simp)).trans ga, hG⟩, ⟨es, ck, (hg _ (by simp)).trans gm, hkv⟩, H1.ne, by have := H1.lt; omega⟩, hi⟩, H.ok, H.small⟩⟩

theorem HX.toV {σ : St} {h m : Nat} {A : List Nat} {L : List Item} {t : Int} (H : HX σ h m A L t) : HV σ 0 h m L t := by
  refine ⟨Nat.zero_le _, Nat.zero_le _, Nat.zero_le _, ?_⟩
  rcases H with ⟨rfl, rfl, H⟩ | ⟨a, cap, rfl, H⟩
  · exact .inl ⟨rfl, H⟩
  · exact .inr ⟨a, cap, Nat.zero_le _, H⟩

theorem HX.lt {σ : St} {h m : Nat} {A : List Nat} {L : List Item} {t : Int} (H : HX σ h m A L t) : ∀ c ∈ h :: m :: A, c < σ.next := by
  rcases H with ⟨rfl, rfl, H⟩ | ⟨a, cap, rfl, H⟩
  · have := H.lt
    intro c hc; simp at hc; omega
  · obtain ⟨f, H1, hi⟩ := H.hs
    have := H1.lt
    intro c hc; simp at hc; omega

theorem HX.nodup {σ : St} {h m : Nat} {A : List Nat} {L : List Item} {t : Int} (H : HX σ h m A L t) : A.Nodup := by
  rcases H with ⟨_, rfl, _⟩ | ⟨a, cap, rfl, _⟩ <;> simp

/-- Put of a further item. -/
theorem HX.put {σ : St} {h m : Nat} {A : List Nat} {L : List Item} {t : Int} (H : HX σ h m A L t) (id kn kd : Int) (h0 : 0 ≤ id) (h1 : id ≤ 4611686018427387904) (hk : okR kn kd = true) (ht : 0 ≤ t) (ht1 : t < 1000000) (hnew : ∀ y ∈ L, y.id ≠ id) (hsm : L.length < 1000) :
    callX Try.prog 14 [.pointer (some ⟨h, 0, none⟩), .int .i64 id, .agg ⟨[.int .i64 kn, .int .i64 kd]⟩] σ fun e σ' l => e = .ret (.int .i64 0) ∧ ((∀ c ∈ l, c ∈ h :: m :: A ∨ σ.next ≤ c) ∧
      ∃ A', (∀ c ∈ A', c ∈ A ∨ σ.next ≤ c) ∧ HX σ' h m A' (riseL (L.length + 1) (L ++ [⟨id, kn, kd, t + 1⟩]) L.length) (t + 1)) := by
  rcases H with ⟨rfl, rfl, H⟩ | ⟨a, cap, rfl, H⟩
  · obtain ⟨σ', a, d, H', ha⟩ := put_first H id kn kd h0 h1 hk ht ht1
    exact .of d ⟨rfl, fun c hc => .inl hc, [a], fun c hc => by simp at hc; omega, .inr ⟨a, 1, rfl, by simpa [riseL] using H'⟩⟩
  · have hcap : L.length ≤ cap := by
      obtain ⟨f, H1, _⟩ := H.hs
      obtain ⟨G, _, hG⟩ := H1.ga
      omega
    by_cases hc : L.length + 1 ≤ cap
    · obtain ⟨σ', d, H', nx, _⟩ := put_in H id kn kd h0 h1 hk ht ht1 hnew hsm hc
      exact .of d ⟨rfl, fun c hc => .inl (by simp at hc ⊢; omega), [a], fun c hc => .inl hc, .inr ⟨a, cap, rfl, H'⟩⟩
    · obtain ⟨σ', d, H', nx, _⟩ := put_move H id kn kd h0 h1 hk ht ht1 hnew hsm (by omega)
      exact .of d ⟨rfl, fun c hc => .inl (by simp at hc ⊢; omega), [σ.next + 2], fun c hc => by simp at hc; omega, .inr ⟨_, _, rfl, H'⟩⟩

/-- Take of the least. -/
theorem HX.take {σ : St} {h m : Nat} {A : List Nat} {L : List Item} {t : Int} (H : HX σ h m A L t) {x : Item} (hx : L[0]? = some x) :
    callX Try.prog 16 [.pointer (some ⟨h, 0, none⟩)] σ fun e σ' l => e = .ret (.tuple ⟨[.agg ⟨[.int .i64 x.id, .int .i64 x.n, .int .i64 x.d, .int .i64 x.turn]⟩, .bool true]⟩) ∧ ((∀ c ∈ l, c ∈ h :: m :: A ∨ σ.next ≤ c) ∧ HX σ' h m A (outL L 0) t) := by
  rcases H with ⟨rfl, rfl, H⟩ | ⟨a, cap, rfl, H⟩
  · simp at hx
  · obtain ⟨σ', d, b3, b4, _⟩ := take_call H hx
    exact .of d ⟨rfl, fun c hc => .inl (by simp at hc ⊢; omega), .inr ⟨a, cap, rfl, b3⟩⟩

/-- A flow: the block in which it stands, its numbers. -/
structure FlowV where
  blk : Nat
  rate : Int
  room : Int
  bytes : Int
  n : Int
  d : Int

def FlowV.cells (x : FlowV) (k : Int) : List Value := [.int .i64 k, .int .i64 x.rate, .int .i64 x.room, .int .i64 x.bytes, .int .i64 x.n, .int .i64 x.d]
def ptrOf (x : FlowV) : Value := .pointer (some ⟨x.blk, 0, none⟩)
def packOf (k : Int) (x : Int × Int) : Value := .agg ⟨[.int .i64 k, .int .i64 x.1, .int .i64 x.2]⟩

def updF {α : Type} (F : Int → Option α) (k : Int) (x : Option α) : Int → Option α := fun k' => if k' = k then x else F k'

/-- A queue: its block, its flows' map, its packets' map, its heap's blocks. -/
structure QB where
  q : Nat
  fm : Nat
  pm : Nat
  h : Nat
  m : Nat
  A : List Nat

def QB.core (b : QB) : List Nat := b.q :: b.fm :: b.pm :: b.h :: b.m :: b.A

/-- What a queue holds. -/
structure QV where
  F : Int → Option FlowV
  nf : Nat
  P : Int → Option (Int × Int)
  np : Nat
  L : List Item
  t : Int

structure QAt (σ : St) (b : QB) (Q : QV) : Prop where
  gq : σ.get b.q = some (.cells [.pointer (some ⟨b.h, 0, none⟩), .map (some b.fm), .map (some b.pm)] false)
  hx : HX σ b.h b.m b.A Q.L Q.t
  mf : MapAt σ b.fm (fun k => (Q.F k).map ptrOf) Q.nf
  mp : MapAt σ b.pm (fun k => (Q.P k).map (packOf k)) Q.np
  fl : ∀ k x, Q.F k = some x → σ.get x.blk = some (.cells (x.cells k) false) ∧ x.blk < σ.next ∧ x.blk ∉ b.core
  inj : ∀ k k' x x', Q.F k = some x → Q.F k' = some x' → x.blk = x'.blk → k = k'
  nodup : b.core.Nodup
  lt : ∀ c ∈ b.core, c < σ.next

/-- The blocks of a queue. -/
def Foot (b : QB) (Q : QV) (c : Nat) : Prop := c ∈ b.core ∨ ∃ k x, Q.F k = some x ∧ x.blk = c

theorem QAt.keep {σ σ' : St} {b : QB} {Q : QV} (h : QAt σ b Q) (hn : σ.next ≤ σ'.next) (hg : ∀ c, Foot b Q c → σ'.get c = σ.get c) : QAt σ' b Q := by
  have hc : ∀ c ∈ b.core, σ'.get c = σ.get c := fun c hc => hg c (.inl hc)
  exact { gq := (hc _ (by simp [QB.core])).trans h.gq
          hx := h.hx.keep hn fun c hm => hc c (by simp [QB.core] at hm ⊢; rcases hm with h | h | h <;> simp [h])
          mf := h.mf.keep (hc _ (by simp [QB.core]))
          mp := h.mp.keep (hc _ (by simp [QB.core]))
          fl := fun k x hx => ⟨(hg _ (.inr ⟨k, x, hx, rfl⟩)).trans (h.fl k x hx).1, by have := (h.fl k x hx).2.1; omega, (h.fl k x hx).2.2⟩
          inj := h.inj
          nodup := h.nodup
          lt := fun c hc => by have := h.lt c hc; omega }

structure QNe (b : QB) : Prop where
  q_fm : b.q ≠ b.fm
  q_pm : b.q ≠ b.pm
  q_h : b.q ≠ b.h
  q_m : b.q ≠ b.m
  fm_pm : b.fm ≠ b.pm
  fm_h : b.fm ≠ b.h
  fm_m : b.fm ≠ b.m
  pm_h : b.pm ≠ b.h
  pm_m : b.pm ≠ b.m
  h_m : b.h ≠ b.m
  A : ∀ c ∈ b.A, c ≠ b.q ∧ c ≠ b.fm ∧ c ≠ b.pm ∧ c ≠ b.h ∧ c ≠ b.m

theorem QAt.ne {σ : St} {b : QB} {Q : QV} (H : QAt σ b Q) : QNe b := by
  have n := H.nodup
  simp only [QB.core, List.nodup_cons, List.mem_cons, not_or] at n
  obtain ⟨⟨a1, a2, a3, a4, a5⟩, ⟨b1, b2, b3, b4⟩, ⟨c1, c2, c3⟩, ⟨d1, d2⟩, e1, _⟩ := n
  exact ⟨a1, a2, a3, a4, b1, b2, b3, c1, c2, d1, fun c hc => ⟨fun e => a5 (e ▸ hc), fun e => b4 (e ▸ hc), fun e => c3 (e ▸ hc), fun e => d2 (e ▸ hc), fun e => e1 (e ▸ hc)⟩⟩

theorem QNe.core {b : QB} (h : QNe b) {A : List Nat} {n : Nat} (hA : ∀ c ∈ A, c ∈ b.A ∨ n ≤ c) (hlt : ∀ c ∈ b.core, c < n) (hn : A.Nodup) : ({ b with A := A } : QB).core.Nodup := by
  have l1 := hlt b.q (by simp [QB.core])
  have l2 := hlt b.fm (by simp [QB.core])
  have l3 := hlt b.pm (by simp [QB.core])
  have l4 := hlt b.h (by simp [QB.core])
  have l5 := hlt b.m (by simp [QB.core])
  have nA : ∀ c ∈ A, c ≠ b.q ∧ c ≠ b.fm ∧ c ≠ b.pm ∧ c ≠ b.h ∧ c ≠ b.m := fun c hc => by
    rcases hA c hc with h1 | h1
    · exact h.A c h1
    · omega
  simp only [QB.core, List.nodup_cons, List.mem_cons, not_or]
  exact ⟨⟨h.q_fm, h.q_pm, h.q_h, h.q_m, fun hm => (nA _ hm).1 rfl⟩, ⟨h.fm_pm, h.fm_h, h.fm_m, fun hm => (nA _ hm).2.1 rfl⟩, ⟨h.pm_h, h.pm_m, fun hm => (nA _ hm).2.2.1 rfl⟩, ⟨h.h_m, fun hm => (nA _ hm).2.2.2.1 rfl⟩, fun hm => (nA _ hm).2.2.2.2 rfl, hn⟩

theorem updF_same {α : Type} (F : Int → Option α) (k : Int) (x : Option α) : updF F k x k = x := by simp [updF]
theorem updF_other {α : Type} (F : Int → Option α) {k k' : Int} (x : Option α) (h : k' ≠ k) : updF F k x k' = F k' := by simp [updF, h]

end Go.Ab

set_option linter.unusedSimpArgs false
set_option linter.unusedVariables false
namespace Go.Ab
open Go.Proofs

noncomputable def cE : Cx := withExt (cP Try.prog) extAt
theorem cE_ok : cE.Ok Try.prog := withExt_ok cP_ok extAt_ok
theorem cE_und (t : TypeId) : cE.T.und t = (cP Try.prog).T.und t := withExt_und _ _ t
theorem cE_info (t : TypeId) : cE.T.info t = (cP Try.prog).T.info t := withExt_info _ _ t
theorem cE_flat (t : TypeId) : cE.T.flat t = (cP Try.prog).T.flat t := withExt_flat _ _ t
theorem cE_bodies (g : FuncId) : cE.bodies g = (cP Try.prog).bodies g := withExt_bodies _ _ g
theorem ext142is : extAt 142 = some .add64 := by kernel_rfl
theorem cE_ext142 : cE.T.ext 142 = some .add64 := (withExt_ext _ _ 142).trans ext142is
theorem nobody142 : (cP Try.prog).bodies 142 = false := by kernel_rfl

theorem plus_call (a b : Nat) (σ : St) (h : a + b < 18446744073709551616) : DCall Try.prog 124 [.agg ⟨[.int .u64 0, .int .u64 a]⟩, .agg ⟨[.int .u64 0, .int .u64 b]⟩] σ (.ret (.agg ⟨[.int .u64 0, .int .u64 ((a + b : Nat) : Int)]⟩)) σ [] := by
  have e6 : ((a + b : Nat) : Int) = (a : Int) + b := by omega
  have e7 : ((a : Int) + b) / 18446744073709551616 = 0 := by omega
  have e8 : ((a : Int) + b) % 18446744073709551616 = (a : Int) + b := by omega
  have a0 : (0 : Int) ≤ a := by omega
  have b0 : (0 : Int) ≤ b := by omega
  rw [e6]
  refine pure_call (callX.enter (p := q8) (bt := btAll 124) cE_ok mixed Try.func124 rfl stat124 ?_) rfl
  simp only [go_sem, Nat.reducePow, Nat.reduceDiv, Nat.reduceMod, Nat.reduceAdd, Nat.reduceSub, Nat.reduceMul, Nat.reduceLeDiff, Nat.reduceLT, Nat.reduceEqDiff, reduceCtorEq, reduceIte, reduceDIte, if_pos rfl, Int.reduceLT, Int.reduceLE, Int.reduceEq, Int.reduceNeg, Int.reduceAdd, Int.reduceSub, Int.reduceMul, Int.reduceToNat, opLen, cE_und, cE_info, cE_flat, cE_bodies, cE_ext142, nobody142, extA, a0, b0, e7, e8, Int.add_zero, Int.zero_add, Int.zero_emod, Try.f124, Try.underlying4, info4, Try.t4, Try.underlying115, info115, Try.t115, Try.underlying190, info190, Try.t190, Try.underlying191, info191, Try.t191, Try.underlying198, info198, Try.t198]

theorem div64_call (lo y : Nat) (σ : St) (h1 : lo < 18446744073709551616) (h2 : 0 < y) (h3 : y < 18446744073709551616) : DCall Try.prog 145 [.int .u64 0, .int .u64 lo, .int .u64 y] σ (.ret (.tuple ⟨[.int .u64 ((lo / y : Nat) : Int), .int .u64 ((lo % y : Nat) : Int)]⟩)) σ [] := by
  have e0 : ((y : Int) == 0) = false := by simp; omega
  have e1 : ¬ (y : Int) ≤ 0 := by omega
  have e2 : ¬ (y : Int) = 0 := by omega
  have t1 : (lo : Int).tdiv y = ((lo / y : Nat) : Int) := by rw [Int.tdiv_eq_ediv_of_nonneg (by omega)]; rfl
  have t2 : (lo : Int).tmod y = ((lo % y : Nat) : Int) := by rw [Int.tmod_eq_emod_of_nonneg (by omega)]; rfl
  have l1 : lo / y ≤ lo := Nat.div_le_self _ _
  have w1 : IntKind.u64.wrap ((lo / y : Nat) : Int) = ((lo / y : Nat) : Int) := wrapUN (by omega)
  have w2 : IntKind.u64.wrap ((lo % y : Nat) : Int) = ((lo % y : Nat) : Int) := wrapUN (by have := Nat.mod_le lo y; omega)
  refine pure_call (enter (p := q8) Try.func145 rfl stat145 ?_) rfl
  simp only [go_sem, Nat.reducePow, Nat.reduceDiv, Nat.reduceMod, Nat.reduceAdd, Nat.reduceSub, Nat.reduceMul, Nat.reduceLeDiff, Nat.reduceLT, Nat.reduceEqDiff, reduceCtorEq, reduceIte, reduceDIte, if_pos rfl, Int.reduceLT, Int.reduceLE, Int.reduceEq, Int.reduceNeg, Int.reduceAdd, Int.reduceSub, Int.reduceMul, Int.reduceToNat, opLen, e0, e1, e2, t1, t2, w1, w2, Try.f145, Try.underlying4, info4, Try.t4, Try.underlying115, info115, Try.t115, Try.underlying190, info190, Try.t190, Try.underlying191, info191, Try.t191, Try.underlying198, info198, Try.t198, Try.underlying216, info216, Try.t216, Try.underlying218, info218, Try.t218]

theorem left_call (n y : Nat) (σ : St) (h1 : n < 18446744073709551616) (h2 : 0 < y) (h3 : y < 18446744073709551616) : DCall Try.prog 126 [.agg ⟨[.int .u64 0, .int .u64 n]⟩, .int .u64 y] σ (.ret (.int .u64 ((n % y : Nat) : Int))) σ [] := by
  have e0 : ¬ (y : Int) = 0 := by omega
  have z : Int.tmod 0 (y : Int) = 0 := Int.zero_tmod _
  refine pure_call (enter (p := q8) Try.func126 rfl stat126 ?_) rfl
  simp only [go_sem, Nat.reducePow, Nat.reduceDiv, Nat.reduceMod, Nat.reduceAdd, Nat.reduceSub, Nat.reduceMul, Nat.reduceLeDiff, Nat.reduceLT, Nat.reduceEqDiff, reduceCtorEq, reduceIte, reduceDIte, if_pos rfl, Int.reduceLT, Int.reduceLE, Int.reduceEq, Int.reduceNeg, Int.reduceAdd, Int.reduceSub, Int.reduceMul, Int.reduceToNat, opLen, callW, q8, p8, p7, p6, p5, p4, p3, p2, p1, Try.f126, Try.underlying4, info4, Try.t4, Try.underlying115, info115, Try.t115, Try.underlying190, info190, Try.t190, Try.underlying191, info191, Try.t191, Try.underlying198, info198, Try.t198, body144]
  refine enter (p := q8) Try.func144 rfl stat144 ?_
  simp only [go_sem, Nat.reducePow, Nat.reduceDiv, Nat.reduceMod, Nat.reduceAdd, Nat.reduceSub, Nat.reduceMul, Nat.reduceLeDiff, Nat.reduceLT, Nat.reduceEqDiff, reduceCtorEq, reduceIte, reduceDIte, if_pos rfl, Int.reduceLT, Int.reduceLE, Int.reduceEq, Int.reduceNeg, Int.reduceAdd, Int.reduceSub, Int.reduceMul, Int.reduceToNat, opLen, callW, q8, p8, p7, p6, p5, p4, p3, p2, p1, e0, z, Try.f144, Try.underlying4, info4, Try.t4, Try.underlying115, info115, Try.t115, Try.underlying190, info190, Try.t190, Try.underlying191, info191, Try.t191, Try.underlying198, info198, Try.t198, body145]
  refine .of (div64_call _ _ _ h1 h2 h3) ?_
  simp only [go_sem, Nat.reducePow, Nat.reduceDiv, Nat.reduceMod, Nat.reduceAdd, Nat.reduceSub, Nat.reduceMul, Nat.reduceLeDiff, Nat.reduceLT, Nat.reduceEqDiff, reduceCtorEq, reduceIte, reduceDIte, if_pos rfl, Int.reduceLT, Int.reduceLE, Int.reduceEq, Int.reduceNeg, Int.reduceAdd, Int.reduceSub, Int.reduceMul, Int.reduceToNat, opLen, Try.underlying4, info4, Try.t4, Try.underlying115, info115, Try.t115, Try.underlying190, info190, Try.t190, Try.underlying191, info191, Try.t191, Try.underlying198, info198, Try.t198]

theorem by_call (n y : Nat) (σ : St) (h1 : n < 18446744073709551616) (h2 : 0 < y) (h3 : y < 18446744073709551616) : DCall Try.prog 127 [.agg ⟨[.int .u64 0, .int .u64 n]⟩, .int .u64 y] σ (.ret (.tuple ⟨[.int .u64 ((n / y : Nat) : Int), .int .u64 ((n % y : Nat) : Int)]⟩)) σ [] := by
  have e0 : (0 : Int) < y := by omega
  refine pure_call (enter (p := q8) Try.func127 rfl stat127 ?_) rfl
  simp only [go_sem, Nat.reducePow, Nat.reduceDiv, Nat.reduceMod, Nat.reduceAdd, Nat.reduceSub, Nat.reduceMul, Nat.reduceLeDiff, Nat.reduceLT, Nat.reduceEqDiff, reduceCtorEq, reduceIte, reduceDIte, if_pos rfl, Int.reduceLT, Int.reduceLE, Int.reduceEq, Int.reduceNeg, Int.reduceAdd, Int.reduceSub, Int.reduceMul, Int.reduceToNat, opLen, callW, q8, p8, p7, p6, p5, p4, p3, p2, p1, e0, Try.f127, Try.underlying4, info4, Try.t4, Try.underlying115, info115, Try.t115, Try.underlying190, info190, Try.t190, Try.underlying191, info191, Try.t191, Try.underlying198, info198, Try.t198, body91, body145]
  refine .of (div64_call _ _ _ h1 h2 h3) ?_
  simp only [go_sem, Nat.reducePow, Nat.reduceDiv, Nat.reduceMod, Nat.reduceAdd, Nat.reduceSub, Nat.reduceMul, Nat.reduceLeDiff, Nat.reduceLT, Nat.reduceEqDiff, reduceCtorEq, reduceIte, reduceDIte, if_pos rfl, Int.reduceLT, Int.reduceLE, Int.reduceEq, Int.reduceNeg, Int.reduceAdd, Int.reduceSub, Int.reduceMul, Int.reduceToNat, opLen, Try.underlying4, info4, Try.t4, Try.underlying115, info115, Try.t115, Try.underlying190, info190, Try.t190, Try.underlying191, info191, Try.t191, Try.underlying198, info198, Try.t198]

theorem wide_low {n : Nat} (h : n < 18446744073709551616) : wideV n = .agg ⟨[.int .u64 0, .int .u64 n]⟩ := by
  have e1 : (n : Int) / 18446744073709551616 = 0 := by omega
  have e3 : (n : Int) % 18446744073709551616 = n := by omega
  unfold wideV
  rw [e1, e3]

set_option maxRecDepth 20000 in
/-- What a sum is worked out of, in words. -/
theorem added_walk (an ad bn bd G X Y H T Z : Nat) (σ : St) (hT : (X + Y) / H = T) (hZ : ad / G * (bd / H) = Z) (hG : Nat.gcd ad bd = G) (hX : an * (bd / G) = X) (hY : bn * (ad / G) = Y) (hH : Nat.gcd G (X + Y) = H) (h1 : an < 9223372036854775808) (h2 : 0 < ad) (h3 : ad < 9223372036854775808) (h4 : bn < 9223372036854775808) (h5 : 0 < bd) (h6 : bd < 9223372036854775808)
    (h7 : X + Y < 9223372036854775808) (h8 : Z < 9223372036854775808) (h9 : X + Y = 0 → Z = 1) :
    callX Try.prog 94 [.agg ⟨[.int .i64 an, .int .i64 ad]⟩, .agg ⟨[.int .i64 bn, .int .i64 bd]⟩] σ (Ans σ (.agg ⟨[.int .i64 T, .int .i64 Z]⟩)) := by
  have g0 : 0 < G := hG ▸ Nat.gcd_pos_of_pos_left _ h2
  have g1 : G ≤ ad := hG ▸ Nat.gcd_le_left _ h2
  have g2 : ¬ (G : Int) = 0 := by omega
  have k0 : 0 < H := hH ▸ Nat.gcd_pos_of_pos_left _ g0
  have k1 : H ≤ G := hH ▸ Nat.gcd_le_left _ g0
  have k2 : ¬ (H : Int) = 0 := by omega
  have f1 : ¬ (an : Int) < 0 := by omega
  have f2 : ¬ (bn : Int) < 0 := by omega
  have w1 : an < 18446744073709551616 := by omega
  have w2 : bn < 18446744073709551616 := by omega
  have w3 : ad < 18446744073709551616 := by omega
  have w4 : bd < 18446744073709551616 := by omega
  have d1 : (bd : Int).tdiv G = ((bd / G : Nat) : Int) := by rw [Int.tdiv_eq_ediv_of_nonneg (by omega)]; rfl
  have d2 : (ad : Int).tdiv G = ((ad / G : Nat) : Int) := by rw [Int.tdiv_eq_ediv_of_nonneg (by omega)]; rfl
  have l1 : bd / G ≤ bd := Nat.div_le_self _ _
  have l2 : ad / G ≤ ad := Nat.div_le_self _ _
  have w5 : bd / G < 18446744073709551616 := by omega
  have w6 : ad / G < 18446744073709551616 := by omega
  have oN : ∀ k : Nat, k < 18446744073709551616 → okU (k : Int) = true := fun k hk => by simp [okU]; omega
  have oI : ∀ k : Nat, k < 9223372036854775808 → okI (k : Int) = true := fun k hk => by simp [okI]; omega
  have u1 := oN _ w1
  have u2 := oN _ w2
  have u3 := oN _ w3
  have u4 := oN _ w4
  have u5 := oN _ w5
  have u6 := oN _ w6
  have i1 := oI _ h1
  have i2 := oI _ h4
  have c1 : (Int.gcd (ad : Int) (bd : Int) : Int) = (G : Int) := by rw [Int.gcd_natCast_natCast, hG]
  have n1 : ((an : Int).natAbs : Int) = an := by omega
  have n2 : ((bn : Int).natAbs : Int) = bn := by omega
  have x1 : (an : Int) * ((bd / G : Nat) : Int) = (X : Int) := by rw [← Int.natCast_mul, hX]
  have y1 : (bn : Int) * ((ad / G : Nat) : Int) = (Y : Int) := by rw [← Int.natCast_mul, hY]
  have vx := wide_low (n := X) (by omega)
  have vy := wide_low (n := Y) (by omega)
  refine Ans.of (enter (p := q8) Try.func94 rfl stat94 ?_)
  simp only [go_sem, Nat.reducePow, Nat.reduceDiv, Nat.reduceMod, Nat.reduceAdd, Nat.reduceSub, Nat.reduceMul, Nat.reduceLeDiff, Nat.reduceLT, Nat.reduceEqDiff, reduceCtorEq, reduceIte, reduceDIte, if_pos rfl, Int.reduceLT, Int.reduceLE, Int.reduceEq, Int.reduceNeg, Int.reduceAdd, Int.reduceSub, Int.reduceMul, Int.reduceToNat, opLen, callW, q8, p8, p7, p6, p5, p4, p3, p2, p1, Try.f94, vx, vy, n1, n2, c1, d1, d2, x1, y1, g2, f1, f2, w1, w2, w3, w4, w5, w6, u1, u2, u3, u4, u5, u6, i1, i2, Try.underlying2, info2, Try.t2, Try.underlying4, info4, Try.t4, Try.underlying24, info24, Try.t24, Try.underlying28, info28, Try.t28, Try.underlying115, info115, Try.t115, Try.underlying190, info190, Try.t190, Try.underlying191, info191, Try.t191, Try.underlying198, info198, Try.t198, body77, body78, body91, body119, body120, body122, body124, body125, body126, body127]
  have m1 : (X + Y) % G ≤ X + Y := Nat.mod_le _ _
  have u7 := oN _ (show (X + Y) % G < 18446744073709551616 by omega)
  have u8 := oN _ (show G < 18446744073709551616 by omega)
  have c2 : (Int.gcd (G : Int) (((X + Y) % G : Nat) : Int) : Int) = (H : Int) := by
    rw [Int.gcd_natCast_natCast, ← hH, Nat.gcd_comm G, ← Nat.gcd_rec, Nat.gcd_comm]
  have d3 : (bd : Int).tdiv H = ((bd / H : Nat) : Int) := by rw [Int.tdiv_eq_ediv_of_nonneg (by omega)]; rfl
  have l3 : bd / H ≤ bd := Nat.div_le_self _ _
  have w7 : bd / H < 18446744073709551616 := by omega
  have u9 := oN _ w7
  have z1 : ((ad / G : Nat) : Int) * ((bd / H : Nat) : Int) = (Z : Int) := by rw [← Int.natCast_mul, hZ]
  have vz := wide_low (n := Z) (by omega)
  have l4 : T ≤ X + Y := hT ▸ Nat.div_le_self _ _
  refine .of (plus_call X Y _ (by omega)) ?_
  simp only [go_sem, Nat.reducePow, Nat.reduceDiv, Nat.reduceMod, Nat.reduceAdd, Nat.reduceSub, Nat.reduceMul, Nat.reduceLeDiff, Nat.reduceLT, Nat.reduceEqDiff, reduceCtorEq, reduceIte, reduceDIte, if_pos rfl, Int.reduceLT, Int.reduceLE, Int.reduceEq, Int.reduceNeg, Int.reduceAdd, Int.reduceSub, Int.reduceMul, Int.reduceToNat, opLen, callW, q8, p8, p7, p6, p5, p4, p3, p2, p1, f1, f2, Try.underlying2, info2, Try.t2, Try.underlying4, info4, Try.t4, Try.underlying24, info24, Try.t24, Try.underlying28, info28, Try.t28, Try.underlying115, info115, Try.t115, Try.underlying190, info190, Try.t190, Try.underlying191, info191, Try.t191, Try.underlying198, info198, Try.t198, body77, body78, body91, body119, body120, body122, body124, body125, body126, body127]
  refine .of (left_call (X + Y) G _ (by omega) g0 (by omega)) ?_
  simp only [go_sem, Nat.reducePow, Nat.reduceDiv, Nat.reduceMod, Nat.reduceAdd, Nat.reduceSub, Nat.reduceMul, Nat.reduceLeDiff, Nat.reduceLT, Nat.reduceEqDiff, reduceCtorEq, reduceIte, reduceDIte, if_pos rfl, Int.reduceLT, Int.reduceLE, Int.reduceEq, Int.reduceNeg, Int.reduceAdd, Int.reduceSub, Int.reduceMul, Int.reduceToNat, opLen, callW, q8, p8, p7, p6, p5, p4, p3, p2, p1, u7, u8, c2, Try.underlying2, info2, Try.t2, Try.underlying4, info4, Try.t4, Try.underlying24, info24, Try.t24, Try.underlying28, info28, Try.t28, Try.underlying115, info115, Try.t115, Try.underlying190, info190, Try.t190, Try.underlying191, info191, Try.t191, Try.underlying198, info198, Try.t198, body77, body78, body91, body119, body120, body122, body124, body125, body126, body127]
  refine .of (by_call (X + Y) H _ (by omega) k0 (by omega)) ?_
  simp only [go_sem, Nat.reducePow, Nat.reduceDiv, Nat.reduceMod, Nat.reduceAdd, Nat.reduceSub, Nat.reduceMul, Nat.reduceLeDiff, Nat.reduceLT, Nat.reduceEqDiff, reduceCtorEq, reduceIte, reduceDIte, if_pos rfl, Int.reduceLT, Int.reduceLE, Int.reduceEq, Int.reduceNeg, Int.reduceAdd, Int.reduceSub, Int.reduceMul, Int.reduceToNat, opLen, callW, q8, p8, p7, p6, p5, p4, p3, p2, p1, d2, d3, g2, k2, w3, w4, w6, w7, u6, u9, z1, vz, Try.underlying2, info2, Try.t2, Try.underlying4, info4, Try.t4, Try.underlying24, info24, Try.t24, Try.underlying28, info28, Try.t28, Try.underlying115, info115, Try.t115, Try.underlying190, info190, Try.t190, Try.underlying191, info191, Try.t191, Try.underlying198, info198, Try.t198, body77, body78, body91, body119, body120, body122, body124, body125, body126, body127]
  have fl := flat191
  by_cases hz : X + Y = 0
  · have hT0 : T = 0 := by rw [← hT, hz, Nat.zero_div]
    simp only [go_sem, Nat.reducePow, Nat.reduceDiv, Nat.reduceMod, Nat.reduceAdd, Nat.reduceSub, Nat.reduceMul, Nat.reduceLeDiff, Nat.reduceLT, Nat.reduceEqDiff, reduceCtorEq, reduceIte, reduceDIte, if_pos rfl, Int.reduceLT, Int.reduceLE, Int.reduceEq, Int.reduceNeg, Int.reduceAdd, Int.reduceSub, Int.reduceMul, Int.reduceToNat, opLen, callW, q8, p8, p7, p6, p5, p4, p3, p2, p1, eqCells, fl, hz, h9 hz, hT0, Nat.zero_div, Int.natCast_zero, Int.natCast_one, Try.underlying2, info2, Try.t2, Try.underlying4, info4, Try.t4, Try.underlying24, info24, Try.t24, Try.underlying28, info28, Try.t28, Try.underlying115, info115, Try.t115, Try.underlying190, info190, Try.t190, Try.underlying191, info191, Try.t191, Try.underlying198, info198, Try.t198, body77, body78, body91, body119, body120, body122, body124, body125, body126, body127]
  · have ez : (((X + Y : Nat) : Int) == 0) = false := by simp; omega
    simp only [go_sem, Nat.reducePow, Nat.reduceDiv, Nat.reduceMod, Nat.reduceAdd, Nat.reduceSub, Nat.reduceMul, Nat.reduceLeDiff, Nat.reduceLT, Nat.reduceEqDiff, reduceCtorEq, reduceIte, reduceDIte, if_pos rfl, Int.reduceLT, Int.reduceLE, Int.reduceEq, Int.reduceNeg, Int.reduceAdd, Int.reduceSub, Int.reduceMul, Int.reduceToNat, opLen, callW, q8, p8, p7, p6, p5, p4, p3, p2, p1, eqCells, fl, ez, hT, Try.underlying2, info2, Try.t2, Try.underlying4, info4, Try.t4, Try.underlying24, info24, Try.t24, Try.underlying28, info28, Try.t28, Try.underlying115, info115, Try.t115, Try.underlying190, info190, Try.t190, Try.underlying191, info191, Try.t191, Try.underlying198, info198, Try.t198, body77, body78, body91, body119, body120, body122, body124, body125, body126, body127]
    refine .of (told_call _ _ false _ (by omega) (by omega) (by omega) (by omega)) ?_
    simp only [go_sem, Nat.reducePow, Nat.reduceDiv, Nat.reduceMod, Nat.reduceAdd, Nat.reduceSub, Nat.reduceMul, Nat.reduceLeDiff, Nat.reduceLT, Nat.reduceEqDiff, reduceCtorEq, reduceIte, reduceDIte, if_pos rfl, Int.reduceLT, Int.reduceLE, Int.reduceEq, Int.reduceNeg, Int.reduceAdd, Int.reduceSub, Int.reduceMul, Int.reduceToNat, opLen, Try.underlying2, info2, Try.t2, Try.underlying4, info4, Try.t4, Try.underlying24, info24, Try.t24, Try.underlying28, info28, Try.t28, Try.underlying115, info115, Try.t115, Try.underlying190, info190, Try.t190, Try.underlying191, info191, Try.t191, Try.underlying198, info198, Try.t198]

/-- Fractions by one number, in words. -/
def fracV (a r : Nat) : Value := .agg ⟨[.int .i64 (fN a r : Int), .int .i64 (fD a r : Int)]⟩

theorem okR_frac {a r : Nat} (hr : 0 < r) (ha : a < 9223372036854775808) (hr2 : r < 9223372036854775808) : okR (fN a r : Int) (fD a r : Int) = true := by
  have h1 := fN_le a r
  have h2 := fD_le a r
  have h3 := fD_pos (a := a) hr
  have h4 := f_coprime (a := a) hr
  simp only [okR, okI, Bool.and_eq_true, decide_eq_true_eq, chk, Int.gcd_natCast_natCast]
  refine ⟨⟨⟨?_, ?_⟩, ⟨?_, ?_⟩⟩, ?_, ?_, h4⟩ <;> omega

theorem added_call (a b r : Nat) (σ : St) (hr : 0 < r) (hr2 : r < 9223372036854775808) (hab : a + b < 9223372036854775808) :
    callX Try.prog 94 [fracV a r, fracV b r] σ (Ans σ (fracV (a + b) r)) := by
  obtain ⟨s1, s2⟩ := sum_is (a := a) (b := b) hr
  have b1 := fN_le a r
  have b2 := fN_le b r
  have b3 := fD_le a r
  have b4 := fD_le b r
  have b5 := fD_le (a + b) r
  have b6 := sX_le (a := a) (b := b) hr
  have b7 := sY_le (a := a) (b := b) hr
  have h9 : sX a b r + sY a b r = 0 → fD a r / sG a b r * (fD b r / sH a b r) = 1 := fun h => by
    rw [s2]
    rw [h, Nat.zero_div] at s1
    have h0 : a + b = 0 := by have := fN_mul (a + b) r; rw [← s1, Nat.zero_mul] at this; exact this.symm
    rw [h0]
    unfold fD
    rw [Nat.gcd_zero_left]
    exact Nat.div_self hr
  have := added_walk (fN a r) (fD a r) (fN b r) (fD b r) (sG a b r) (sX a b r) (sY a b r) (sH a b r) _ _ σ rfl rfl rfl rfl rfl rfl (by omega) (fD_pos hr) (by omega) (by omega) (fD_pos hr) (by omega) (by omega) (by rw [s2]; omega) h9
  rw [s1, s2] at this
  exact this

theorem two1_call {p q s : Nat} {a b r : Nat} {σ : St} (hp : p < σ.next) (hq : q < σ.next) (hs : s < σ.next) (gp : σ.get p = some (.cells [.int .i64 (fN a r : Int), .int .i64 (fD a r : Int)] false)) (gq : σ.get q = some (.cells [.int .i64 (fN b r : Int), .int .i64 (fD b r : Int)] false))
    (gs : σ.get s = some (.cells [.func (.func 94) ⟨[]⟩ ⟨[]⟩] false)) (hr : 0 < r) (hr2 : r < 9223372036854775808) (hab : a + b < 9223372036854775808) :
    callX Try.prog 123 [.pointer (some ⟨p, 0, none⟩), .pointer (some ⟨q, 0, none⟩), .pointer (some ⟨s, 0, none⟩)] σ (Ans σ (.agg ⟨[.int .i64 (fN (a + b) r : Int), .int .i64 (fD (a + b) r : Int)]⟩)) := by
  have k1 := okR_frac (a := a) hr (by omega) hr2
  have k2 := okR_frac (a := b) hr (by omega) hr2
  simp only [okR, Bool.and_eq_true, decide_eq_true_eq] at k1 k2
  have ha := (added_call a b r · hr hr2 hab)
  simp only [fracV] at ha
  refine Ans.of (enter (p := q8) Try.func123 rfl stat123 ?_)
  simp only [go_sem, Nat.reducePow, Nat.reduceDiv, Nat.reduceMod, Nat.reduceAdd, Nat.reduceSub, Nat.reduceMul, Nat.reduceLeDiff, Nat.reduceLT, Nat.reduceEqDiff, reduceCtorEq, reduceIte, reduceDIte, if_pos rfl, Int.reduceLT, Int.reduceLE, Int.reduceEq, Int.reduceNeg, Int.reduceAdd, Int.reduceSub, Int.reduceMul, Int.reduceToNat, opLen, callW, q8, p8, p7, p6, p5, p4, p3, p2, p1, Try.f123, zerosN, gp, gq, gs, hp, hq, hs, Try.underlying2, info2, Try.t2, Try.underlying4, info4, Try.t4, Try.underlying22, info22, Try.t22, Try.underlying23, info23, Try.t23, Try.underlying24, info24, Try.t24, Try.underlying28, info28, Try.t28, Try.underlying115, info115, Try.t115, Try.underlying163, info163, Try.t163, body94, body118]
  refine .of (both_call _ _ _ _ _ _ (by simp only [go_sem, Nat.reducePow, Nat.reduceDiv, Nat.reduceMod, Nat.reduceAdd, Nat.reduceSub, Nat.reduceMul, Nat.reduceLeDiff, Nat.reduceLT, Nat.reduceEqDiff, reduceCtorEq, reduceIte, reduceDIte, if_pos rfl, Int.reduceLT, Int.reduceLE, Int.reduceEq, Int.reduceNeg, Int.reduceAdd, Int.reduceSub, Int.reduceMul, Int.reduceToNat, opLen]) (by simp only [go_sem, Nat.reducePow, Nat.reduceDiv, Nat.reduceMod, Nat.reduceAdd, Nat.reduceSub, Nat.reduceMul, Nat.reduceLeDiff, Nat.reduceLT, Nat.reduceEqDiff, reduceCtorEq, reduceIte, reduceDIte, if_pos rfl, Int.reduceLT, Int.reduceLE, Int.reduceEq, Int.reduceNeg, Int.reduceAdd, Int.reduceSub, Int.reduceMul, Int.reduceToNat, opLen]) k1.1.1 k1.1.2 k2.1.1 k2.1.2 k1.2 k2.2) ?_
  simp only [go_sem, Nat.reducePow, Nat.reduceDiv, Nat.reduceMod, Nat.reduceAdd, Nat.reduceSub, Nat.reduceMul, Nat.reduceLeDiff, Nat.reduceLT, Nat.reduceEqDiff, reduceCtorEq, reduceIte, reduceDIte, if_pos rfl, Int.reduceLT, Int.reduceLE, Int.reduceEq, Int.reduceNeg, Int.reduceAdd, Int.reduceSub, Int.reduceMul, Int.reduceToNat, opLen, callW, q8, p8, p7, p6, p5, p4, p3, p2, p1, gp, gq, gs, hp, hq, hs, Try.underlying2, info2, Try.t2, Try.underlying4, info4, Try.t4, Try.underlying22, info22, Try.t22, Try.underlying24, info24, Try.t24, Try.underlying28, info28, Try.t28, Try.underlying115, info115, Try.t115, Try.underlying163, info163, Try.t163, body94, body118]
  refine callX.ret (ha _) ?_
  intro σ' l hl ⟨h1, h2, h3⟩
  simp only [St.next_new] at h1 h2 h3
  have g0 := h3 σ.next (by omega)
  simp only [go_sem, Nat.reducePow, Nat.reduceDiv, Nat.reduceMod, Nat.reduceAdd, Nat.reduceSub, Nat.reduceMul, Nat.reduceLeDiff, Nat.reduceLT, Nat.reduceEqDiff, reduceCtorEq, reduceIte, reduceDIte, if_pos rfl, Int.reduceLT, Int.reduceLE, Int.reduceEq, Int.reduceNeg, Int.reduceAdd, Int.reduceSub, Int.reduceMul, Int.reduceToNat, opLen] at g0
  simp only [go_sem, Nat.reducePow, Nat.reduceDiv, Nat.reduceMod, Nat.reduceAdd, Nat.reduceSub, Nat.reduceMul, Nat.reduceLeDiff, Nat.reduceLT, Nat.reduceEqDiff, reduceCtorEq, reduceIte, reduceDIte, if_pos rfl, Int.reduceLT, Int.reduceLE, Int.reduceEq, Int.reduceNeg, Int.reduceAdd, Int.reduceSub, Int.reduceMul, Int.reduceToNat, opLen, g0, Try.underlying2, info2, Try.t2, Try.underlying4, info4, Try.t4, Try.underlying22, info22, Try.t22, Try.underlying24, info24, Try.t24, Try.underlying28, info28, Try.t28, Try.underlying115, info115, Try.t115, Try.underlying163, info163, Try.t163]
  intro c hc
  rcases hc with hc | hc
  · have := h1 c hc; omega
  · omega

theorem addF_call (a b r : Nat) (σ : St) (hr : 0 < r) (hr2 : r < 9223372036854775808) (hab : a + b < 9223372036854775808) :
    DCall Try.prog 64 [.agg ⟨[.int .i64 (fN a r : Int), .int .i64 (fD a r : Int)]⟩, .agg ⟨[.int .i64 (fN b r : Int), .int .i64 (fD b r : Int)]⟩] σ (.ret (.tuple ⟨[.agg ⟨[.int .i64 (fN (a + b) r : Int), .int .i64 (fD (a + b) r : Int)]⟩, .int .i64 0]⟩)) σ [] := by
  refine pure_call (enter (p := q8) Try.func64 rfl stat64 ?_) rfl
  simp only [go_sem, Nat.reducePow, Nat.reduceDiv, Nat.reduceMod, Nat.reduceAdd, Nat.reduceSub, Nat.reduceMul, Nat.reduceLeDiff, Nat.reduceLT, Nat.reduceEqDiff, reduceCtorEq, reduceIte, reduceDIte, if_pos rfl, Int.reduceLT, Int.reduceLE, Int.reduceEq, Int.reduceNeg, Int.reduceAdd, Int.reduceSub, Int.reduceMul, Int.reduceToNat, opLen, callW, q8, p8, p7, p6, p5, p4, p3, p2, p1, Try.f64, Try.underlying2, info2, Try.t2, Try.underlying4, info4, Try.t4, Try.underlying22, info22, Try.t22, Try.underlying24, info24, Try.t24, Try.underlying28, info28, Try.t28, Try.underlying57, info57, Try.t57, Try.underlying115, info115, Try.t115, Try.underlying157, info157, Try.t157, Try.underlying163, info163, Try.t163, body93, body94]
  refine enter (p := q8) Try.func93 rfl stat93 ?_
  simp only [go_sem, Nat.reducePow, Nat.reduceDiv, Nat.reduceMod, Nat.reduceAdd, Nat.reduceSub, Nat.reduceMul, Nat.reduceLeDiff, Nat.reduceLT, Nat.reduceEqDiff, reduceCtorEq, reduceIte, reduceDIte, if_pos rfl, Int.reduceLT, Int.reduceLE, Int.reduceEq, Int.reduceNeg, Int.reduceAdd, Int.reduceSub, Int.reduceMul, Int.reduceToNat, opLen, callW, q8, p8, p7, p6, p5, p4, p3, p2, p1, Try.f93, Try.underlying2, info2, Try.t2, Try.underlying4, info4, Try.t4, Try.underlying22, info22, Try.t22, Try.underlying24, info24, Try.t24, Try.underlying28, info28, Try.t28, Try.underlying57, info57, Try.t57, Try.underlying115, info115, Try.t115, Try.underlying157, info157, Try.t157, Try.underlying161, info161, Try.t161, Try.underlying163, info163, Try.t163, body89, body123]
  refine .of (try_rat body123 (two1_call (a := a) (b := b) (r := r) ?_ ?_ ?_ ?_ ?_ ?_ hr hr2 hab)) ?_
  · simp only [go_sem, Nat.reducePow, Nat.reduceDiv, Nat.reduceMod, Nat.reduceAdd, Nat.reduceSub, Nat.reduceMul, Nat.reduceLeDiff, Nat.reduceLT, Nat.reduceEqDiff, reduceCtorEq, reduceIte, reduceDIte, if_pos rfl, Int.reduceLT, Int.reduceLE, Int.reduceEq, Int.reduceNeg, Int.reduceAdd, Int.reduceSub, Int.reduceMul, Int.reduceToNat, opLen]
  · simp only [go_sem, Nat.reducePow, Nat.reduceDiv, Nat.reduceMod, Nat.reduceAdd, Nat.reduceSub, Nat.reduceMul, Nat.reduceLeDiff, Nat.reduceLT, Nat.reduceEqDiff, reduceCtorEq, reduceIte, reduceDIte, if_pos rfl, Int.reduceLT, Int.reduceLE, Int.reduceEq, Int.reduceNeg, Int.reduceAdd, Int.reduceSub, Int.reduceMul, Int.reduceToNat, opLen]
  · simp only [go_sem, Nat.reducePow, Nat.reduceDiv, Nat.reduceMod, Nat.reduceAdd, Nat.reduceSub, Nat.reduceMul, Nat.reduceLeDiff, Nat.reduceLT, Nat.reduceEqDiff, reduceCtorEq, reduceIte, reduceDIte, if_pos rfl, Int.reduceLT, Int.reduceLE, Int.reduceEq, Int.reduceNeg, Int.reduceAdd, Int.reduceSub, Int.reduceMul, Int.reduceToNat, opLen]
  · simp only [go_sem, Nat.reducePow, Nat.reduceDiv, Nat.reduceMod, Nat.reduceAdd, Nat.reduceSub, Nat.reduceMul, Nat.reduceLeDiff, Nat.reduceLT, Nat.reduceEqDiff, reduceCtorEq, reduceIte, reduceDIte, if_pos rfl, Int.reduceLT, Int.reduceLE, Int.reduceEq, Int.reduceNeg, Int.reduceAdd, Int.reduceSub, Int.reduceMul, Int.reduceToNat, opLen]
  · simp only [go_sem, Nat.reducePow, Nat.reduceDiv, Nat.reduceMod, Nat.reduceAdd, Nat.reduceSub, Nat.reduceMul, Nat.reduceLeDiff, Nat.reduceLT, Nat.reduceEqDiff, reduceCtorEq, reduceIte, reduceDIte, if_pos rfl, Int.reduceLT, Int.reduceLE, Int.reduceEq, Int.reduceNeg, Int.reduceAdd, Int.reduceSub, Int.reduceMul, Int.reduceToNat, opLen]
  · simp only [go_sem, Nat.reducePow, Nat.reduceDiv, Nat.reduceMod, Nat.reduceAdd, Nat.reduceSub, Nat.reduceMul, Nat.reduceLeDiff, Nat.reduceLT, Nat.reduceEqDiff, reduceCtorEq, reduceIte, reduceDIte, if_pos rfl, Int.reduceLT, Int.reduceLE, Int.reduceEq, Int.reduceNeg, Int.reduceAdd, Int.reduceSub, Int.reduceMul, Int.reduceToNat, opLen]
  · simp only [go_sem, Nat.reducePow, Nat.reduceDiv, Nat.reduceMod, Nat.reduceAdd, Nat.reduceSub, Nat.reduceMul, Nat.reduceLeDiff, Nat.reduceLT, Nat.reduceEqDiff, reduceCtorEq, reduceIte, reduceDIte, if_pos rfl, Int.reduceLT, Int.reduceLE, Int.reduceEq, Int.reduceNeg, Int.reduceAdd, Int.reduceSub, Int.reduceMul, Int.reduceToNat, opLen, Try.underlying2, info2, Try.t2, Try.underlying4, info4, Try.t4, Try.underlying22, info22, Try.t22, Try.underlying24, info24, Try.t24, Try.underlying28, info28, Try.t28, Try.underlying57, info57, Try.t57, Try.underlying115, info115, Try.t115, Try.underlying157, info157, Try.t157, Try.underlying161, info161, Try.t161, Try.underlying163, info163, Try.t163]
end Go.Ab

set_option linter.unusedSimpArgs false
set_option linter.unusedVariables false
namespace Go.Ab
open Go.Proofs

def Q0 : QV := ⟨fun _ => none, 0, fun _ => none, 0, [], 0⟩

theorem und2' : (cP Try.prog).T.und 2 = some (.int .i64) := (cx_und 2).trans Try.underlying2

theorem may_call (f r m : Int) (σ : St) (h : (0 ≤ f ∧ f ≤ 2147483647) ∧ (1 ≤ r ∧ r ≤ 1000000) ∧ (0 ≤ m ∧ m ≤ 1000000000)) : DCall Try.prog 59 [.int .i64 f, .int .i64 r, .int .i64 m] σ (.ret (.bool true)) σ [] := by
  obtain ⟨⟨h1, h2⟩, ⟨h3, h4⟩, h5, h6⟩ := h
  refine pure_call (enter (p := q8) Try.func59 rfl stat59 ?_) rfl
  simp only [go_sem, Nat.reducePow, Nat.reduceDiv, Nat.reduceMod, Nat.reduceAdd, Nat.reduceSub, Nat.reduceMul, Nat.reduceLeDiff, Nat.reduceLT, Nat.reduceEqDiff, reduceCtorEq, reduceIte, reduceDIte, if_pos rfl, Int.reduceLT, Int.reduceLE, Int.reduceEq, Int.reduceNeg, Int.reduceAdd, Int.reduceSub, Int.reduceMul, Int.reduceToNat, opLen, callW, q8, p8, p7, p6, p5, p4, p3, p2, p1, Try.f59, Try.underlying2, info2, Try.t2, Try.underlying4, info4, Try.t4, body60]
  refine .of (within_call _ _ _ _) ?_
  simp only [go_sem, Nat.reducePow, Nat.reduceDiv, Nat.reduceMod, Nat.reduceAdd, Nat.reduceSub, Nat.reduceMul, Nat.reduceLeDiff, Nat.reduceLT, Nat.reduceEqDiff, reduceCtorEq, reduceIte, reduceDIte, if_pos rfl, Int.reduceLT, Int.reduceLE, Int.reduceEq, Int.reduceNeg, Int.reduceAdd, Int.reduceSub, Int.reduceMul, Int.reduceToNat, opLen, callW, q8, p8, p7, p6, p5, p4, p3, p2, p1, h1, h2, Try.underlying2, info2, Try.t2, Try.underlying4, info4, Try.t4, body60]
  refine .of (within_call _ _ _ _) ?_
  simp only [go_sem, Nat.reducePow, Nat.reduceDiv, Nat.reduceMod, Nat.reduceAdd, Nat.reduceSub, Nat.reduceMul, Nat.reduceLeDiff, Nat.reduceLT, Nat.reduceEqDiff, reduceCtorEq, reduceIte, reduceDIte, if_pos rfl, Int.reduceLT, Int.reduceLE, Int.reduceEq, Int.reduceNeg, Int.reduceAdd, Int.reduceSub, Int.reduceMul, Int.reduceToNat, opLen, callW, q8, p8, p7, p6, p5, p4, p3, p2, p1, h3, h4, Try.underlying2, info2, Try.t2, Try.underlying4, info4, Try.t4, body60]
  refine .of (within_call _ _ _ _) ?_
  simp only [go_sem, Nat.reducePow, Nat.reduceDiv, Nat.reduceMod, Nat.reduceAdd, Nat.reduceSub, Nat.reduceMul, Nat.reduceLeDiff, Nat.reduceLT, Nat.reduceEqDiff, reduceCtorEq, reduceIte, reduceDIte, if_pos rfl, Int.reduceLT, Int.reduceLE, Int.reduceEq, Int.reduceNeg, Int.reduceAdd, Int.reduceSub, Int.reduceMul, Int.reduceToNat, opLen, callW, q8, p8, p7, p6, p5, p4, p3, p2, p1, h5, h6, Try.underlying2, info2, Try.t2, Try.underlying4, info4, Try.t4, body60]

theorem qnone_call {σ : St} {q fm pm h : Nat} (gq : σ.get q = some (.cells [.pointer (some ⟨h, 0, none⟩), .map (some fm), .map (some pm)] false)) : DCall Try.prog 58 [.pointer (some ⟨q, 0, none⟩)] σ (.ret (.bool false)) σ [] := by
  refine pure_call (enter (p := q8) Try.func58 rfl stat58 ?_) rfl
  simp only [go_sem, Nat.reducePow, Nat.reduceDiv, Nat.reduceMod, Nat.reduceAdd, Nat.reduceSub, Nat.reduceMul, Nat.reduceLeDiff, Nat.reduceLT, Nat.reduceEqDiff, reduceCtorEq, reduceIte, reduceDIte, if_pos rfl, Int.reduceLT, Int.reduceLE, Int.reduceEq, Int.reduceNeg, Int.reduceAdd, Int.reduceSub, Int.reduceMul, Int.reduceToNat, opLen, callW, q8, p8, p7, p6, p5, p4, p3, p2, p1, gq, Option.isNone_some, Try.f58, Try.underlying4, info4, Try.t4, Try.underlying26, info26, Try.t26, Try.underlying50, info50, Try.t50, Try.underlying118, info118, Try.t118, Try.underlying119, info119, Try.t119, Try.underlying120, info120, Try.t120, Try.underlying121, info121, Try.t121]

def AddR (σ : St) (b : QB) (Q : QV) (flow rate room now : Int) (σ' : St) (l : Log) : Prop :=
  (∀ c ∈ l, c ∈ b.core ∨ σ.next ≤ c) ∧ ∃ blk, σ.next ≤ blk ∧ QAt σ' b { Q with F := updF Q.F flow (some ⟨blk, rate, room, 0, now, 1⟩), nf := Q.nf + 1 }

theorem qadd_state {σ : St} {b : QB} {Q : QV} (H : QAt σ b Q) {flow rate room now : Int} {es : List MapEntry} {ck : Nat} (gf : σ.get b.fm = some (.map es ck)) (hki : KI es) (hlk : ∀ k, lkV es k = (Q.F k).map ptrOf) (hlen : es.length = Q.nf) (hF : Q.F flow = none) :
    AddR σ b Q flow rate room now ((σ.new (.cells [.int .i64 flow, .int .i64 rate, .int .i64 room, .int .i64 0, .int .i64 now, .int .i64 1] false)).set b.fm (.map (pushE es ⟨.int .i64 flow, .pointer (some ⟨σ.next, 0, none⟩), ck⟩) (ck + 1))) [b.fm] := by
  have hfm : b.fm < σ.next := H.lt _ (by simp [QB.core])
  have ne := H.ne
  have hno : lkV es flow = none := by rw [hlk, hF]; rfl
  refine ⟨fun c hc => .inl (by simp at hc; simp [QB.core, hc]), σ.next, Nat.le_refl _, ?_⟩
  generalize hσ : (σ.new (.cells [.int .i64 flow, .int .i64 rate, .int .i64 room, .int .i64 0, .int .i64 now, .int .i64 1] false)).set b.fm (.map (pushE es ⟨.int .i64 flow, .pointer (some ⟨σ.next, 0, none⟩), ck⟩) (ck + 1)) = σ'
  have nx : σ'.next = σ.next + 1 := by rw [← hσ]; rfl
  have g : ∀ c, c < σ.next → c ≠ b.fm → σ'.get c = σ.get c := fun c h1 h2 => by rw [← hσ, St.get_set, if_neg (Ne.symm h2), St.get_new, if_neg (by omega)]
  have gn : σ'.get σ.next = some (.cells [.int .i64 flow, .int .i64 rate, .int .i64 room, .int .i64 0, .int .i64 now, .int .i64 1] false) := by rw [← hσ, St.get_set, if_neg (by omega), St.get_new, if_pos rfl]
  have gm : σ'.get b.fm = some (.map (pushE es ⟨.int .i64 flow, .pointer (some ⟨σ.next, 0, none⟩), ck⟩) (ck + 1)) := by rw [← hσ, St.get_set, if_pos rfl]
  have lt := H.lt
  exact { gq := (g _ (lt _ (by simp [QB.core])) ne.q_fm).trans H.gq
          hx := H.hx.keep (by omega) fun c hc => g c (H.hx.lt c hc) (by
            simp only [List.mem_cons] at hc
            rcases hc with rfl | rfl | hc
            · exact ne.fm_h.symm
            · exact ne.fm_m.symm
            · exact (ne.A c hc).2.1)
          mf := ⟨_, _, gm, pushV_KI hki hno, fun k => by
            rw [pushV_lk hki hno]
            show _ = (updF Q.F flow _ k).map ptrOf
            by_cases e : k = flow
            · subst e; rw [if_pos rfl, updF_same]; rfl
            · rw [if_neg e, updF_other _ _ e, hlk], by rw [pushV_length, hlen]⟩
          mp := H.mp.keep (g _ (lt _ (by simp [QB.core])) ne.fm_pm.symm)
          fl := fun k x hx => by
            have hx : updF Q.F flow _ k = some x := hx
            by_cases e : k = flow
            · subst e
              rw [updF_same] at hx
              cases hx
              exact ⟨gn, by show σ.next < σ'.next; omega, fun hm => by have := lt _ hm; exact absurd this (Nat.lt_irrefl _)⟩
            · rw [updF_other _ _ e] at hx
              obtain ⟨a1, a2, a3⟩ := H.fl k x hx
              exact ⟨(g _ a2 fun e' => a3 (by simp [QB.core, e'])).trans a1, by omega, a3⟩
          inj := fun k k' x x' hx hx' hb => by
            have h1 : updF Q.F flow _ k = some x := hx
            have h2 : updF Q.F flow _ k' = some x' := hx'
            clear hx hx'
            by_cases e : k = flow <;> by_cases e' : k' = flow
            · rw [e, e']
            · rw [e, updF_same] at h1
              rw [updF_other _ _ e'] at h2
              cases h1
              have := (H.fl k' x' h2).2.1
              have hb : σ.next = x'.blk := hb
              omega
            · rw [e', updF_same] at h2
              rw [updF_other _ _ e] at h1
              cases h2
              have := (H.fl k x h1).2.1
              have hb : x.blk = σ.next := hb
              omega
            · rw [updF_other _ _ e] at h1
              rw [updF_other _ _ e'] at h2
              exact H.inj k k' x x' h1 h2 hb
          nodup := H.nodup
          lt := fun c hc => by have := lt c hc; omega }

set_option maxRecDepth 20000 in
theorem qadd_call {σ : St} {b : QB} {Q : QV} (H : QAt σ b Q) (flow rate room now : Int) (h : (0 ≤ flow ∧ flow ≤ 2147483647) ∧ (1 ≤ rate ∧ rate ≤ 1000000) ∧ (0 ≤ room ∧ room ≤ 1000000000)) (hnow : 0 ≤ now ∧ now ≤ 2147483647) (hF : Q.F flow = none) (hn : Q.nf < 32) :
    callX Try.prog 24 [.pointer (some ⟨b.q, 0, none⟩), .int .i64 flow, .int .i64 rate, .int .i64 room, .int .i64 now] σ fun e σ' l => e = .ret (.int .i64 0) ∧ AddR σ b Q flow rate room now σ' l := by
  have gq := H.gq
  obtain ⟨es, ck, gf, hki, hlk, hlen⟩ := H.mf
  have hq : b.q < σ.next := H.lt _ (by simp [QB.core])
  have hfm : b.fm < σ.next := H.lt _ (by simp [QB.core])
  have hfind := findV_none und2' (i := 0) hki ((hlk flow).trans (by show (Q.F flow).map ptrOf = none; rw [hF]; rfl))
  have hn' : ¬ (32 : Int) ≤ es.length := by omega
  refine enter (p := q8) Try.func24 rfl stat24 ?_
  simp only [go_sem, Nat.reducePow, Nat.reduceDiv, Nat.reduceMod, Nat.reduceAdd, Nat.reduceSub, Nat.reduceMul, Nat.reduceLeDiff, Nat.reduceLT, Nat.reduceEqDiff, reduceCtorEq, reduceIte, reduceDIte, if_pos rfl, Int.reduceLT, Int.reduceLE, Int.reduceEq, Int.reduceNeg, Int.reduceAdd, Int.reduceSub, Int.reduceMul, Int.reduceToNat, opLen, callW, q8, p8, p7, p6, p5, p4, p3, p2, p1, Try.f24, Try.underlying2, info2, Try.t2, Try.underlying3, info3, Try.t3, Try.underlying4, info4, Try.t4, Try.underlying24, info24, Try.t24, Try.underlying28, info28, Try.t28, Try.underlying50, info50, Try.t50, Try.underlying118, info118, Try.t118, Try.underlying121, info121, Try.t121, Try.underlying123, info123, Try.t123, body58, body59, body60, body61]
  refine enscope q8 24 (by kernel_rfl) ?_
  simp only [go_sem, Nat.reducePow, Nat.reduceDiv, Nat.reduceMod, Nat.reduceAdd, Nat.reduceSub, Nat.reduceMul, Nat.reduceLeDiff, Nat.reduceLT, Nat.reduceEqDiff, reduceCtorEq, reduceIte, reduceDIte, if_pos rfl, Int.reduceLT, Int.reduceLE, Int.reduceEq, Int.reduceNeg, Int.reduceAdd, Int.reduceSub, Int.reduceMul, Int.reduceToNat, opLen, callW, q8, p8, p7, p6, p5, p4, p3, p2, p1, Try.underlying2, info2, Try.t2, Try.underlying3, info3, Try.t3, Try.underlying4, info4, Try.t4, Try.underlying24, info24, Try.t24, Try.underlying28, info28, Try.t28, Try.underlying50, info50, Try.t50, Try.underlying118, info118, Try.t118, Try.underlying121, info121, Try.t121, Try.underlying123, info123, Try.t123, body58, body59, body60, body61]
  refine .of (qnone_call gq) ?_
  simp only [go_sem, Nat.reducePow, Nat.reduceDiv, Nat.reduceMod, Nat.reduceAdd, Nat.reduceSub, Nat.reduceMul, Nat.reduceLeDiff, Nat.reduceLT, Nat.reduceEqDiff, reduceCtorEq, reduceIte, reduceDIte, if_pos rfl, Int.reduceLT, Int.reduceLE, Int.reduceEq, Int.reduceNeg, Int.reduceAdd, Int.reduceSub, Int.reduceMul, Int.reduceToNat, opLen, callW, q8, p8, p7, p6, p5, p4, p3, p2, p1, Try.underlying2, info2, Try.t2, Try.underlying3, info3, Try.t3, Try.underlying4, info4, Try.t4, Try.underlying24, info24, Try.t24, Try.underlying28, info28, Try.t28, Try.underlying50, info50, Try.t50, Try.underlying118, info118, Try.t118, Try.underlying121, info121, Try.t121, Try.underlying123, info123, Try.t123, body58, body59, body60, body61]
  refine .of (may_call _ _ _ _ h) ?_
  simp only [go_sem, Nat.reducePow, Nat.reduceDiv, Nat.reduceMod, Nat.reduceAdd, Nat.reduceSub, Nat.reduceMul, Nat.reduceLeDiff, Nat.reduceLT, Nat.reduceEqDiff, reduceCtorEq, reduceIte, reduceDIte, if_pos rfl, Int.reduceLT, Int.reduceLE, Int.reduceEq, Int.reduceNeg, Int.reduceAdd, Int.reduceSub, Int.reduceMul, Int.reduceToNat, opLen, callW, q8, p8, p7, p6, p5, p4, p3, p2, p1, Try.underlying2, info2, Try.t2, Try.underlying3, info3, Try.t3, Try.underlying4, info4, Try.t4, Try.underlying24, info24, Try.t24, Try.underlying28, info28, Try.t28, Try.underlying50, info50, Try.t50, Try.underlying118, info118, Try.t118, Try.underlying121, info121, Try.t121, Try.underlying123, info123, Try.t123, body58, body59, body60, body61]
  refine .of (within_call _ _ _ _) ?_
  simp only [go_sem, Nat.reducePow, Nat.reduceDiv, Nat.reduceMod, Nat.reduceAdd, Nat.reduceSub, Nat.reduceMul, Nat.reduceLeDiff, Nat.reduceLT, Nat.reduceEqDiff, reduceCtorEq, reduceIte, reduceDIte, if_pos rfl, Int.reduceLT, Int.reduceLE, Int.reduceEq, Int.reduceNeg, Int.reduceAdd, Int.reduceSub, Int.reduceMul, Int.reduceToNat, opLen, callW, q8, p8, p7, p6, p5, p4, p3, p2, p1, hnow.1, hnow.2, gq, gf, hfind, hn', und2', Try.underlying2, info2, Try.t2, Try.underlying3, info3, Try.t3, Try.underlying4, info4, Try.t4, Try.underlying24, info24, Try.t24, Try.underlying28, info28, Try.t28, Try.underlying50, info50, Try.t50, Try.underlying118, info118, Try.t118, Try.underlying121, info121, Try.t121, Try.underlying123, info123, Try.t123, Try.underlying126, info126, Try.t126, body58, body59, body60, body61]
  refine .of (whole_call' _ _) ?_
  simp only [go_sem, Nat.reducePow, Nat.reduceDiv, Nat.reduceMod, Nat.reduceAdd, Nat.reduceSub, Nat.reduceMul, Nat.reduceLeDiff, Nat.reduceLT, Nat.reduceEqDiff, reduceCtorEq, reduceIte, reduceDIte, if_pos rfl, Int.reduceLT, Int.reduceLE, Int.reduceEq, Int.reduceNeg, Int.reduceAdd, Int.reduceSub, Int.reduceMul, Int.reduceToNat, opLen, callW, q8, p8, p7, p6, p5, p4, p3, p2, p1, hnow.1, hnow.2, gq, gf, hq, hfm, hfind, hn', und2', Try.underlying2, info2, Try.t2, Try.underlying3, info3, Try.t3, Try.underlying4, info4, Try.t4, Try.underlying24, info24, Try.t24, Try.underlying28, info28, Try.t28, Try.underlying50, info50, Try.t50, Try.underlying118, info118, Try.t118, Try.underlying121, info121, Try.t121, Try.underlying123, info123, Try.t123, Try.underlying126, info126, Try.t126, body58, body59, body60, body61]
  exact qadd_state H gf hki hlk hlen hF

def NewR (σ : St) (σ' : St) (l : Log) : Prop := (∀ c ∈ l, σ.next ≤ c) ∧ QAt σ' ⟨σ.next + 4, σ.next + 2, σ.next + 3, σ.next + 1, σ.next, []⟩ Q0

theorem qnew_call (σ : St) : callX Try.prog 23 [] σ fun e σ' l => e = .ret (.pointer (some ⟨σ.next + 4, 0, none⟩)) ∧ NewR σ σ' l := by
  refine enter (p := q8) Try.func23 rfl stat23 ?_
  simp only [go_sem, Nat.reducePow, Nat.reduceDiv, Nat.reduceMod, Nat.reduceAdd, Nat.reduceSub, Nat.reduceMul, Nat.reduceLeDiff, Nat.reduceLT, Nat.reduceEqDiff, reduceCtorEq, reduceIte, reduceDIte, if_pos rfl, Int.reduceLT, Int.reduceLE, Int.reduceEq, Int.reduceNeg, Int.reduceAdd, Int.reduceSub, Int.reduceMul, Int.reduceToNat, opLen, callW, q8, p8, p7, p6, p5, p4, p3, p2, p1, Try.f23, Try.underlying2, info2, Try.t2, Try.underlying3, info3, Try.t3, Try.underlying4, info4, Try.t4, Try.underlying24, info24, Try.t24, Try.underlying28, info28, Try.t28, Try.underlying50, info50, Try.t50, Try.underlying118, info118, Try.t118, Try.underlying121, info121, Try.t121, Try.underlying123, info123, Try.t123, body13]
  refine .of (new_call σ) ?_
  simp only [go_sem, Nat.reducePow, Nat.reduceDiv, Nat.reduceMod, Nat.reduceAdd, Nat.reduceSub, Nat.reduceMul, Nat.reduceLeDiff, Nat.reduceLT, Nat.reduceEqDiff, reduceCtorEq, reduceIte, reduceDIte, if_pos rfl, Int.reduceLT, Int.reduceLE, Int.reduceEq, Int.reduceNeg, Int.reduceAdd, Int.reduceSub, Int.reduceMul, Int.reduceToNat, opLen, callW, q8, p8, p7, p6, p5, p4, p3, p2, p1, Try.f23, Try.underlying2, info2, Try.t2, Try.underlying3, info3, Try.t3, Try.underlying4, info4, Try.t4, Try.underlying24, info24, Try.t24, Try.underlying26, info26, Try.t26, Try.underlying28, info28, Try.t28, Try.underlying50, info50, Try.t50, Try.underlying118, info118, Try.t118, Try.underlying119, info119, Try.t119, Try.underlying120, info120, Try.t120, Try.underlying121, info121, Try.t121, Try.underlying123, info123, Try.t123, body13]
  refine ⟨fun c hc => by simp at hc, ?_⟩
  generalize hσ : (((((σ.new (.map [] 0)).new (.cells [.map (some σ.next), .slice none 0 0, .int .i64 0] false)).new (.map [] 0)).new (.map [] 0)).new (.cells [.pointer (some ⟨σ.next + 1, 0, none⟩), .map (some (σ.next + 2)), .map (some (σ.next + 3))] false)) = σ'
  have nx : σ'.next = σ.next + 5 := by rw [← hσ]; rfl
  have g0 : σ'.get σ.next = some (.map [] 0) := by rw [← hσ]; simp only [go_sem, Nat.reducePow, Nat.reduceDiv, Nat.reduceMod, Nat.reduceAdd, Nat.reduceSub, Nat.reduceMul, Nat.reduceLeDiff, Nat.reduceLT, Nat.reduceEqDiff, reduceCtorEq, reduceIte, reduceDIte, if_pos rfl, Int.reduceLT, Int.reduceLE, Int.reduceEq, Int.reduceNeg, Int.reduceAdd, Int.reduceSub, Int.reduceMul, Int.reduceToNat, opLen]
  have g1 : σ'.get (σ.next + 1) = some (.cells [.map (some σ.next), .slice none 0 0, .int .i64 0] false) := by rw [← hσ]; simp only [go_sem, Nat.reducePow, Nat.reduceDiv, Nat.reduceMod, Nat.reduceAdd, Nat.reduceSub, Nat.reduceMul, Nat.reduceLeDiff, Nat.reduceLT, Nat.reduceEqDiff, reduceCtorEq, reduceIte, reduceDIte, if_pos rfl, Int.reduceLT, Int.reduceLE, Int.reduceEq, Int.reduceNeg, Int.reduceAdd, Int.reduceSub, Int.reduceMul, Int.reduceToNat, opLen]
  have g2 : σ'.get (σ.next + 2) = some (.map [] 0) := by rw [← hσ]; simp only [go_sem, Nat.reducePow, Nat.reduceDiv, Nat.reduceMod, Nat.reduceAdd, Nat.reduceSub, Nat.reduceMul, Nat.reduceLeDiff, Nat.reduceLT, Nat.reduceEqDiff, reduceCtorEq, reduceIte, reduceDIte, if_pos rfl, Int.reduceLT, Int.reduceLE, Int.reduceEq, Int.reduceNeg, Int.reduceAdd, Int.reduceSub, Int.reduceMul, Int.reduceToNat, opLen]
  have g3 : σ'.get (σ.next + 3) = some (.map [] 0) := by rw [← hσ]; simp only [go_sem, Nat.reducePow, Nat.reduceDiv, Nat.reduceMod, Nat.reduceAdd, Nat.reduceSub, Nat.reduceMul, Nat.reduceLeDiff, Nat.reduceLT, Nat.reduceEqDiff, reduceCtorEq, reduceIte, reduceDIte, if_pos rfl, Int.reduceLT, Int.reduceLE, Int.reduceEq, Int.reduceNeg, Int.reduceAdd, Int.reduceSub, Int.reduceMul, Int.reduceToNat, opLen]
  have g4 : σ'.get (σ.next + 4) = some (.cells [.pointer (some ⟨σ.next + 1, 0, none⟩), .map (some (σ.next + 2)), .map (some (σ.next + 3))] false) := by rw [← hσ]; simp only [go_sem, Nat.reducePow, Nat.reduceDiv, Nat.reduceMod, Nat.reduceAdd, Nat.reduceSub, Nat.reduceMul, Nat.reduceLeDiff, Nat.reduceLT, Nat.reduceEqDiff, reduceCtorEq, reduceIte, reduceDIte, if_pos rfl, Int.reduceLT, Int.reduceLE, Int.reduceEq, Int.reduceNeg, Int.reduceAdd, Int.reduceSub, Int.reduceMul, Int.reduceToNat, opLen]
  exact { gq := g4
          hx := .inl ⟨rfl, rfl, ⟨g1, ⟨0, g0⟩, by show σ.next + 1 ≠ σ.next; omega, by show σ.next + 1 < σ'.next ∧ σ.next < σ'.next; omega⟩⟩
          mf := ⟨[], 0, g2, KI.nil, fun k => rfl, rfl⟩
          mp := ⟨[], 0, g3, KI.nil, fun k => rfl, rfl⟩
          fl := fun k x hx => by cases hx
          inj := fun k k' x x' hx => by cases hx
          nodup := by simp only [QB.core, List.nodup_cons, List.mem_cons, List.not_mem_nil, or_false]; refine ⟨?_, ?_, ?_, ?_, ?_⟩ <;> first | omega | (refine ⟨?_, ?_⟩ <;> simp)
          lt := fun c hc => by simp only [QB.core, List.mem_cons, List.not_mem_nil, or_false] at hc; omega }

end Go.Ab

set_option linter.unusedSimpArgs false
set_option linter.unusedVariables false
namespace Go.Ab
open Go.Proofs

theorem makeN_call (s r : Nat) (σ : St) (hs : s < 9223372036854775808) (hr : 0 < r) (hr2 : r < 9223372036854775808) :
    DCall Try.prog 63 [.int .i64 (s : Int), .int .i64 (r : Int)] σ (.ret (.tuple ⟨[.agg ⟨[.int .i64 (fN s r : Int), .int .i64 (fD s r : Int)]⟩, .int .i64 0]⟩)) σ [] := by
  have := make_call (s : Int) (r : Int) σ (by omega) (by omega) (by omega) (by omega)
  rw [Int.gcd_natCast_natCast] at this
  exact this

theorem greater_frac {S R now : Nat} (hR : 0 < R) : (if 0 < cmpR (fN S R : Int) (fD S R : Int) (now : Int) 1 then Value.agg ⟨[.int .i64 (fN S R : Int), .int .i64 (fD S R : Int)]⟩ else Value.agg ⟨[.int .i64 (now : Int), .int .i64 1]⟩) = .agg ⟨[.int .i64 (fN (max (now * R) S) R : Int), .int .i64 (fD (max (now * R) S) R : Int)]⟩ := by
  have hc := f_cross S R
  have hd := fD_pos (a := S) hR
  have key : 0 < cmpR (fN S R : Int) (fD S R : Int) (now : Int) 1 ↔ now * R < S := by
    unfold cmpR
    have e1 : (fN S R : Int) * 1 = ((fN S R : Nat) : Int) := by omega
    have e2 : (now : Int) * (fD S R : Int) = ((now * fD S R : Nat) : Int) := (Int.natCast_mul _ _).symm
    rw [e1, e2]
    have m1 : now * fD S R < fN S R ↔ now * R < S := by
      constructor
      · intro h
        have h2 : now * fD S R * R < fN S R * R := Nat.mul_lt_mul_of_pos_right h hR
        rw [hc] at h2
        have h3 : now * R * fD S R < S * fD S R := by
          have : now * R * fD S R = now * fD S R * R := by rw [Nat.mul_assoc, Nat.mul_comm R, ← Nat.mul_assoc]
          omega
        exact Nat.lt_of_mul_lt_mul_right h3
      · intro h
        have h2 : now * R * fD S R < S * fD S R := Nat.mul_lt_mul_of_pos_right h hd
        rw [← hc] at h2
        have h3 : now * fD S R * R < fN S R * R := by
          have : now * R * fD S R = now * fD S R * R := by rw [Nat.mul_assoc, Nat.mul_comm R, ← Nat.mul_assoc]
          omega
        exact Nat.lt_of_mul_lt_mul_right h3
    rw [← m1]
    split
    · omega
    · split <;> omega
  by_cases h : now * R < S
  · rw [if_pos (key.2 h), Nat.max_eq_right (by omega)]
  · rw [if_neg (fun k => h (key.1 k)), Nat.max_eq_left (by omega), (f_whole hR).1, (f_whole hR).2]
    rfl

def PutR (σ : St) (b : QB) (Q : QV) (id flow size : Int) (x : FlowV) (n d : Int) (σ' : St) (l : Log) : Prop :=
  (∀ c ∈ l, Foot b Q c ∨ σ.next ≤ c) ∧ ∃ A', (∀ c ∈ A', c ∈ b.A ∨ σ.next ≤ c) ∧
    QAt σ' { b with A := A' } { Q with F := updF Q.F flow (some { x with bytes := x.bytes + size, n := n, d := d }), P := updF Q.P id (some (flow, size)), np := Q.np + 1, L := riseL (Q.L.length + 1) (Q.L ++ [⟨id, n, d, Q.t + 1⟩]) Q.L.length, t := Q.t + 1 }

theorem qput_state {σ σ' : St} {b : QB} {Q : QV} (H : QAt σ b Q) {id flow size n d : Int} {x : FlowV} {A' : List Nat} {l : Log} {ep : List MapEntry} {cp K : Nat} {v : AObj} (hF : Q.F flow = some x) (hK : 1 < K)
    (hkp : KI ep) (hlp : ∀ k, lkV ep k = (Q.P k).map (packOf k)) (hlen : ep.length = Q.np) (hP : Q.P id = none)
    (hx' : HX σ' b.h b.m A' (riseL (Q.L.length + 1) (Q.L ++ [⟨id, n, d, Q.t + 1⟩]) Q.L.length) (Q.t + 1)) (hA : ∀ c ∈ A', c ∈ b.A ∨ σ.next + K ≤ c) (hl : ∀ c ∈ l, Foot b Q c ∨ σ.next ≤ c)
    (kc : ∀ c, c < σ.next → ¬ x.blk = c → ¬ b.pm = c → c ∉ b.h :: b.m :: b.A → σ'.get c = σ.get c) (nx : σ.next + K ≤ σ'.next)
    (kx : σ'.get x.blk = some (.cells [.int .i64 flow, .int .i64 x.rate, .int .i64 x.room, .int .i64 (x.bytes + size), .int .i64 n, .int .i64 d] false))
    (kpm : σ'.get b.pm = some (.map (pushE ep ⟨.int .i64 id, .agg ⟨[.int .i64 id, .int .i64 flow, .int .i64 size]⟩, cp⟩) (cp + 1))) :
    PutR σ b Q id flow size x n d (σ'.set (σ.next + 1) v) l := by
  have ne := H.ne
  have lt := H.lt
  obtain ⟨gx, hxl, hxc⟩ := H.fl flow x hF
  have hno : lkV ep id = none := by rw [hlp, hP]; rfl
  have sf : ∀ c, c ≠ σ.next + 1 → (σ'.set (σ.next + 1) v).get c = σ'.get c := fun c hc => by rw [St.get_set, if_neg (Ne.symm hc)]
  have core : ∀ c ∈ b.core, c < σ.next := lt
  have lo : ∀ c, c < σ.next → (σ'.set (σ.next + 1) v).get c = σ'.get c := fun c hc => sf c (by omega)
  have inh : ∀ c ∈ b.h :: b.m :: b.A, c ∈ b.core := fun c hc => by simp only [QB.core, List.mem_cons] at hc ⊢; rcases hc with h | h | h <;> simp [h]
  have xq : ¬ x.blk = b.q := fun e => hxc (by simp [QB.core, e])
  have xf : ¬ x.blk = b.fm := fun e => hxc (by simp [QB.core, e])
  have nq : b.q ∉ b.h :: b.m :: b.A := fun hm => by
    simp only [List.mem_cons] at hm
    rcases hm with h | h | h
    · exact ne.q_h h
    · exact ne.q_m h
    · exact (ne.A _ h).1 rfl
  have nf : b.fm ∉ b.h :: b.m :: b.A := fun hm => by
    simp only [List.mem_cons] at hm
    rcases hm with h | h | h
    · exact ne.fm_h h
    · exact ne.fm_m h
    · exact (ne.A _ h).2.1 rfl
  refine ⟨hl, A', fun c hc => by rcases hA c hc with h | h; exact .inl h; exact .inr (by omega), ?_⟩
  have newcore : ∀ c, c ∈ ({ b with A := A' } : QB).core → c ∈ b.core ∨ σ.next + K ≤ c := fun c hc => by
    simp only [QB.core, List.mem_cons] at hc ⊢
    rcases hc with h | h | h | h | h | h
    · simp [h]
    · simp [h]
    · simp [h]
    · simp [h]
    · simp [h]
    · rcases hA c h with h | h
      · simp [h]
      · exact .inr h
  exact { gq := (lo _ (lt _ (by simp [QB.core]))).trans ((kc _ (lt _ (by simp [QB.core])) xq ne.q_pm.symm nq).trans H.gq)
          hx := hx'.keep (Nat.le_refl _) fun c hc => sf c (by
            rcases newcore c (by simp only [QB.core, List.mem_cons] at hc ⊢; rcases hc with h | h | h <;> simp [h]) with h | h
            · have := lt c h; omega
            · omega)
          mf := by
            obtain ⟨es, ck, gf, a, f, g⟩ := H.mf
            refine ⟨es, ck, (lo _ (lt _ (by simp [QB.core]))).trans ((kc _ (lt _ (by simp [QB.core])) xf ne.fm_pm.symm nf).trans gf), a, fun k => ?_, g⟩
            rw [f]
            show (Q.F k).map ptrOf = (updF Q.F flow _ k).map ptrOf
            by_cases e : k = flow
            · subst e; rw [updF_same, hF]; rfl
            · rw [updF_other _ _ e]
          mp := ⟨_, _, (lo _ (lt _ (by simp [QB.core]))).trans kpm, pushV_KI hkp hno, fun k => by
            rw [pushV_lk hkp hno]
            show _ = (updF Q.P id _ k).map (packOf k)
            by_cases e : k = id
            · subst e; rw [if_pos rfl, updF_same]; rfl
            · rw [if_neg e, updF_other _ _ e, hlp], by rw [pushV_length, hlen]⟩
          fl := fun k y hy => by
            have h1 : updF Q.F flow _ k = some y := hy
            clear hy
            by_cases e : k = flow
            · subst e
              rw [updF_same] at h1
              cases h1
              refine ⟨(lo _ hxl).trans kx, by show x.blk < σ'.next; omega, fun hm => ?_⟩
              rcases newcore _ hm with h | h
              · exact hxc h
              · have h : σ.next + K ≤ x.blk := h
                omega
            · rw [updF_other _ _ e] at h1
              obtain ⟨a1, a2, a3⟩ := H.fl k y h1
              refine ⟨(lo _ a2).trans ((kc _ a2 (fun e' => e (H.inj _ _ _ _ h1 hF e'.symm)) (fun e' => a3 (by simp [QB.core, e'])) (fun hm => a3 (inh _ hm))).trans a1), by show y.blk < σ'.next; omega, fun hm => ?_⟩
              rcases newcore _ hm with h | h
              · exact a3 h
              · omega
          inj := fun k k' y y' hy hy' hb => by
            have h1 : updF Q.F flow _ k = some y := hy
            have h2 : updF Q.F flow _ k' = some y' := hy'
            clear hy hy'
            by_cases e : k = flow <;> by_cases e' : k' = flow
            · rw [e, e']
            · rw [e, updF_same] at h1
              rw [updF_other _ _ e'] at h2
              cases h1
              rw [e]
              exact H.inj _ _ _ _ hF h2 hb
            · rw [e', updF_same] at h2
              rw [updF_other _ _ e] at h1
              cases h2
              rw [e']
              exact H.inj _ _ _ _ h1 hF hb
            · rw [updF_other _ _ e] at h1
              rw [updF_other _ _ e'] at h2
              exact H.inj k k' y y' h1 h2 hb
          nodup := ne.core (n := σ.next) (fun c hc => by rcases hA c hc with h | h; exact .inl h; exact .inr (by omega)) lt hx'.nodup
          lt := fun c hc => by
            rcases newcore c hc with h | h
            · have := lt c h; show c < σ'.next; omega
            · have h3 := hx'.lt
              simp only [QB.core, List.mem_cons] at hc
              rcases hc with h | h | h | h | h | h
              · have := lt b.q (by simp [QB.core]); show c < σ'.next; omega
              · have := lt b.fm (by simp [QB.core]); show c < σ'.next; omega
              · have := lt b.pm (by simp [QB.core]); show c < σ'.next; omega
              · exact h3 c (by simp [h])
              · exact h3 c (by simp [h])
              · exact h3 c (by simp [h]) }

theorem keep_log {σ σ' : St} {l : Log} {B : List Nat} (hl : Logged σ σ' l) (h : ∀ c ∈ l, c ∈ B ∨ σ.next ≤ c) : ∀ c, c < σ.next → c ∉ B → σ'.get c = σ.get c := fun c hc hn =>
  hl.2 c hc fun hm => by
    rcases h c hm with h | h
    · exact hn h
    · omega

set_option maxRecDepth 20000 in
theorem qput_call {σ : St} {b : QB} {Q : QV} (H : QAt σ b Q) (id flow : Int) (size now S R : Nat) {x : FlowV} (hF : Q.F flow = some x) (hP : Q.P id = none) (hid : 0 ≤ id ∧ id ≤ 4611686018427387904) (hfl : 0 ≤ flow ∧ flow ≤ 2147483647) (hsz : 1 ≤ size ∧ size ≤ 2000) (hnow : now ≤ 2147483647)
    (hx1 : x.rate = R) (hx2 : x.n = fN S R) (hx3 : x.d = fD S R) (hR : 1 ≤ R ∧ R ≤ 1000000) (hS : S < 1000000000000000000) (hb : -100000000 ≤ x.bytes ∧ x.bytes ≤ 100000000) (hr : 0 ≤ x.room ∧ x.room ≤ 1000000000) (hroom : x.bytes + size ≤ x.room) (hnp : Q.np < 50000) (hnew : ∀ y ∈ Q.L, y.id ≠ id) (hL : Q.L.length < 1000) (ht : 0 ≤ Q.t ∧ Q.t < 1000000) :
    callX Try.prog 25 [.pointer (some ⟨b.q, 0, none⟩), .agg ⟨[.int .i64 id, .int .i64 flow, .int .i64 size]⟩, .int .i64 now] σ fun e σ' l =>
      e = .ret (.tuple ⟨[.agg ⟨[.int .i64 (fN (max (now * R) S + size) R : Int), .int .i64 (fD (max (now * R) S + size) R : Int)]⟩, .int .i64 0]⟩) ∧ PutR σ b Q id flow size x (fN (max (now * R) S + size) R) (fD (max (now * R) S + size) R) σ' l := by
  have gq := H.gq
  obtain ⟨es, ck, gf, hki, hlk, hlen⟩ := H.mf
  obtain ⟨ep, cp, gp, hkp, hlp, hlenp⟩ := H.mp
  obtain ⟨gx, hxl, hxc⟩ := H.fl flow x hF
  have hq : b.q < σ.next := H.lt _ (by simp [QB.core])
  have hfm : b.fm < σ.next := H.lt _ (by simp [QB.core])
  have hpm : b.pm < σ.next := H.lt _ (by simp [QB.core])
  obtain ⟨j, e, hfind, hev, _, _⟩ := findV_some und2' (i := 0) (v := ptrOf x) hki ((hlk flow).trans (by show (Q.F flow).map ptrOf = _; rw [hF]; rfl))
  have hfindp := findV_none und2' (i := 0) hkp ((hlp id).trans (by show (Q.P id).map (packOf id) = none; rw [hP]; rfl))
  have hn' : ¬ (50000 : Int) ≤ ep.length := by omega
  have hM : max (now * R) S + size < 2000000000000000000 := by
    have : now * R ≤ 2147483647 * 1000000 := Nat.mul_le_mul hnow hR.2
    omega
  obtain ⟨M, hMe⟩ : ∃ M, max (now * R) S = M := ⟨_, rfl⟩
  have hgr := greater_frac (S := S) (R := R) (now := now) (by omega)
  rw [hMe] at hM hgr ⊢
  rw [← hx2, ← hx3] at hgr
  have s1 : (1 : Int) ≤ (size : Int) := by omega
  have s2 : (size : Int) ≤ 2000 := by omega
  have w1 : IntKind.i64.wrap (x.room - x.bytes) = x.room - x.bytes := wrapI (by omega) (by omega)
  have w2 : IntKind.i64.wrap (x.bytes + size) = x.bytes + size := wrapI (by omega) (by omega)
  have l1 : ¬ x.room - x.bytes < size := by omega
  have l2 : (0 : Int) ≤ now := by omega
  have l3 : (now : Int) ≤ 2147483647 := by omega
  have k1 : okR (now : Int) 1 = true := by simp [okR, okI, chk]; omega
  have k2 : okR x.n x.d = true := by rw [hx2, hx3]; exact okR_frac (by omega) (by omega) (by omega)
  simp only [FlowV.cells] at gx
  have ne := H.ne
  have n1 : ¬ x.blk = b.q := fun e' => hxc (by simp [QB.core, e'])
  have n2 : ¬ x.blk = b.pm := fun e' => hxc (by simp [QB.core, e'])
  have n3 : ¬ b.q = b.pm := ne.q_pm
  have n4 : ¬ b.pm = b.q := ne.q_pm.symm
  have n5 : ¬ b.q = x.blk := fun e' => n1 e'.symm
  have n6 : ¬ b.pm = x.blk := fun e' => n2 e'.symm
  refine enter (p := q8) Try.func25 rfl stat25 ?_
  simp only [go_sem, Nat.reducePow, Nat.reduceDiv, Nat.reduceMod, Nat.reduceAdd, Nat.reduceSub, Nat.reduceMul, Nat.reduceLeDiff, Nat.reduceLT, Nat.reduceEqDiff, reduceCtorEq, reduceIte, reduceDIte, if_pos rfl, Int.reduceLT, Int.reduceLE, Int.reduceEq, Int.reduceNeg, Int.reduceAdd, Int.reduceSub, Int.reduceMul, Int.reduceToNat, opLen, callW, q8, p8, p7, p6, p5, p4, p3, p2, p1, Try.f25]
  refine .of (qnone_call (q := b.q) (by simp only [go_sem, Nat.reducePow, Nat.reduceDiv, Nat.reduceMod, Nat.reduceAdd, Nat.reduceSub, Nat.reduceMul, Nat.reduceLeDiff, Nat.reduceLT, Nat.reduceEqDiff, reduceCtorEq, reduceIte, reduceDIte, if_pos rfl, Int.reduceLT, Int.reduceLE, Int.reduceEq, Int.reduceNeg, Int.reduceAdd, Int.reduceSub, Int.reduceMul, Int.reduceToNat, opLen, hq, gq]; rfl)) ?_
  simp only [go_sem, Nat.reducePow, Nat.reduceDiv, Nat.reduceMod, Nat.reduceAdd, Nat.reduceSub, Nat.reduceMul, Nat.reduceLeDiff, Nat.reduceLT, Nat.reduceEqDiff, reduceCtorEq, reduceIte, reduceDIte, if_pos rfl, Int.reduceLT, Int.reduceLE, Int.reduceEq, Int.reduceNeg, Int.reduceAdd, Int.reduceSub, Int.reduceMul, Int.reduceToNat, opLen, callW, q8, p8, p7, p6, p5, p4, p3, p2, p1, ptrOf, gq, gf, gp, hq, hfm, hpm, hfind, hev, hfindp, und2']
  refine .of (within_call _ _ _ _) ?_
  simp only [go_sem, Nat.reducePow, Nat.reduceDiv, Nat.reduceMod, Nat.reduceAdd, Nat.reduceSub, Nat.reduceMul, Nat.reduceLeDiff, Nat.reduceLT, Nat.reduceEqDiff, reduceCtorEq, reduceIte, reduceDIte, if_pos rfl, Int.reduceLT, Int.reduceLE, Int.reduceEq, Int.reduceNeg, Int.reduceAdd, Int.reduceSub, Int.reduceMul, Int.reduceToNat, opLen, callW, q8, p8, p7, p6, p5, p4, p3, p2, p1, hid.1, hid.2]
  refine .of (within_call _ _ _ _) ?_
  simp only [go_sem, Nat.reducePow, Nat.reduceDiv, Nat.reduceMod, Nat.reduceAdd, Nat.reduceSub, Nat.reduceMul, Nat.reduceLeDiff, Nat.reduceLT, Nat.reduceEqDiff, reduceCtorEq, reduceIte, reduceDIte, if_pos rfl, Int.reduceLT, Int.reduceLE, Int.reduceEq, Int.reduceNeg, Int.reduceAdd, Int.reduceSub, Int.reduceMul, Int.reduceToNat, opLen, callW, q8, p8, p7, p6, p5, p4, p3, p2, p1, hfl.1, hfl.2]
  refine .of (within_call _ _ _ _) ?_
  simp only [go_sem, Nat.reducePow, Nat.reduceDiv, Nat.reduceMod, Nat.reduceAdd, Nat.reduceSub, Nat.reduceMul, Nat.reduceLeDiff, Nat.reduceLT, Nat.reduceEqDiff, reduceCtorEq, reduceIte, reduceDIte, if_pos rfl, Int.reduceLT, Int.reduceLE, Int.reduceEq, Int.reduceNeg, Int.reduceAdd, Int.reduceSub, Int.reduceMul, Int.reduceToNat, opLen, callW, q8, p8, p7, p6, p5, p4, p3, p2, p1, s1, s2]
  refine .of (within_call _ _ _ _) ?_
  simp only [go_sem, Nat.reducePow, Nat.reduceDiv, Nat.reduceMod, Nat.reduceAdd, Nat.reduceSub, Nat.reduceMul, Nat.reduceLeDiff, Nat.reduceLT, Nat.reduceEqDiff, reduceCtorEq, reduceIte, reduceDIte, if_pos rfl, Int.reduceLT, Int.reduceLE, Int.reduceEq, Int.reduceNeg, Int.reduceAdd, Int.reduceSub, Int.reduceMul, Int.reduceToNat, opLen, callW, q8, p8, p7, p6, p5, p4, p3, p2, p1, l2, l3, l1, w1, gx, hxl, gq, gp, hq, hpm, hn']
  refine .of (whole_call' _ _) ?_
  simp only [go_sem, Nat.reducePow, Nat.reduceDiv, Nat.reduceMod, Nat.reduceAdd, Nat.reduceSub, Nat.reduceMul, Nat.reduceLeDiff, Nat.reduceLT, Nat.reduceEqDiff, reduceCtorEq, reduceIte, reduceDIte, if_pos rfl, Int.reduceLT, Int.reduceLE, Int.reduceEq, Int.reduceNeg, Int.reduceAdd, Int.reduceSub, Int.reduceMul, Int.reduceToNat, opLen, callW, q8, p8, p7, p6, p5, p4, p3, p2, p1, zerosN, gx, hxl]
  refine .of (greatest_call (by simp only [go_sem, Nat.reducePow, Nat.reduceDiv, Nat.reduceMod, Nat.reduceAdd, Nat.reduceSub, Nat.reduceMul, Nat.reduceLeDiff, Nat.reduceLT, Nat.reduceEqDiff, reduceCtorEq, reduceIte, reduceDIte, if_pos rfl, Int.reduceLT, Int.reduceLE, Int.reduceEq, Int.reduceNeg, Int.reduceAdd, Int.reduceSub, Int.reduceMul, Int.reduceToNat, opLen]) (by simp only [go_sem, Nat.reducePow, Nat.reduceDiv, Nat.reduceMod, Nat.reduceAdd, Nat.reduceSub, Nat.reduceMul, Nat.reduceLeDiff, Nat.reduceLT, Nat.reduceEqDiff, reduceCtorEq, reduceIte, reduceDIte, if_pos rfl, Int.reduceLT, Int.reduceLE, Int.reduceEq, Int.reduceNeg, Int.reduceAdd, Int.reduceSub, Int.reduceMul, Int.reduceToNat, opLen]) k1 k2) ?_
  simp only [go_sem, Nat.reducePow, Nat.reduceDiv, Nat.reduceMod, Nat.reduceAdd, Nat.reduceSub, Nat.reduceMul, Nat.reduceLeDiff, Nat.reduceLT, Nat.reduceEqDiff, reduceCtorEq, reduceIte, reduceDIte, if_pos rfl, Int.reduceLT, Int.reduceLE, Int.reduceEq, Int.reduceNeg, Int.reduceAdd, Int.reduceSub, Int.reduceMul, Int.reduceToNat, opLen, callW, q8, p8, p7, p6, p5, p4, p3, p2, p1, hgr, gx, hxl, hx1]
  refine .of (makeN_call size R _ (by omega) (by omega) (by omega)) ?_
  simp only [go_sem, Nat.reducePow, Nat.reduceDiv, Nat.reduceMod, Nat.reduceAdd, Nat.reduceSub, Nat.reduceMul, Nat.reduceLeDiff, Nat.reduceLT, Nat.reduceEqDiff, reduceCtorEq, reduceIte, reduceDIte, if_pos rfl, Int.reduceLT, Int.reduceLE, Int.reduceEq, Int.reduceNeg, Int.reduceAdd, Int.reduceSub, Int.reduceMul, Int.reduceToNat, opLen, callW, q8, p8, p7, p6, p5, p4, p3, p2, p1, gx, hxl]
  refine .of (addF_call M size R _ (by omega) (by omega) (by omega)) ?_
  simp only [go_sem, Nat.reducePow, Nat.reduceDiv, Nat.reduceMod, Nat.reduceAdd, Nat.reduceSub, Nat.reduceMul, Nat.reduceLeDiff, Nat.reduceLT, Nat.reduceEqDiff, reduceCtorEq, reduceIte, reduceDIte, if_pos rfl, Int.reduceLT, Int.reduceLE, Int.reduceEq, Int.reduceNeg, Int.reduceAdd, Int.reduceSub, Int.reduceMul, Int.reduceToNat, opLen, callW, q8, p8, p7, p6, p5, p4, p3, p2, p1, gx, hxl, w2, gq, gp, hq, hpm, hfindp, und2', n1, n2, n3, n4, n5, n6]
  have hx := H.hx
  have hA := H.hx.lt
  refine callX.ret (HX.put (hx.keep ?_ ?_) id _ _ hid.1 hid.2 (okR_frac (by omega) (by omega) (by omega)) ht.1 ht.2 hnew hL) ?_
  · simp only [go_sem, Nat.reducePow, Nat.reduceDiv, Nat.reduceMod, Nat.reduceAdd, Nat.reduceSub, Nat.reduceMul, Nat.reduceLeDiff, Nat.reduceLT, Nat.reduceEqDiff, reduceCtorEq, reduceIte, reduceDIte, if_pos rfl, Int.reduceLT, Int.reduceLE, Int.reduceEq, Int.reduceNeg, Int.reduceAdd, Int.reduceSub, Int.reduceMul, Int.reduceToNat, opLen]
  · intro c hc
    have hlt := hA c hc
    have m1 : ¬ x.blk = c := fun e' => hxc (by rw [e']; simp only [QB.core, List.mem_cons] at hc ⊢; rcases hc with h | h | h <;> simp [h])
    have m2 : ¬ b.pm = c := fun e' => by
      simp only [List.mem_cons] at hc
      rcases hc with h | h | h
      · exact ne.pm_h (e'.trans h)
      · exact ne.pm_m (e'.trans h)
      · exact (ne.A c h).2.2.1 e'.symm
    simp only [go_sem, Nat.reducePow, Nat.reduceDiv, Nat.reduceMod, Nat.reduceAdd, Nat.reduceSub, Nat.reduceMul, Nat.reduceLeDiff, Nat.reduceLT, Nat.reduceEqDiff, reduceCtorEq, reduceIte, reduceDIte, if_pos rfl, Int.reduceLT, Int.reduceLE, Int.reduceEq, Int.reduceNeg, Int.reduceAdd, Int.reduceSub, Int.reduceMul, Int.reduceToNat, opLen, hlt, m1, m2]
  intro σ' l hl ⟨hlg, A', hA', hx'⟩
  have nx := hl.1
  have kp := keep_log hl hlg
  have hA2 : ∀ c ∈ A', c ∈ b.A ∨ σ.next + 7 ≤ c := fun c hc => by
    have := hA' c hc
    simp only [go_sem, Nat.reducePow, Nat.reduceDiv, Nat.reduceMod, Nat.reduceAdd, Nat.reduceSub, Nat.reduceMul, Nat.reduceLeDiff, Nat.reduceLT, Nat.reduceEqDiff, reduceCtorEq, reduceIte, reduceDIte, if_pos rfl, Int.reduceLT, Int.reduceLE, Int.reduceEq, Int.reduceNeg, Int.reduceAdd, Int.reduceSub, Int.reduceMul, Int.reduceToNat, opLen] at this
    exact this
  have hl2 : ∀ c ∈ l, c ∈ b.h :: b.m :: b.A ∨ σ.next + 7 ≤ c := fun c hc => by
    rcases hlg c hc with h | h
    · exact .inl h
    · simp only [go_sem, Nat.reducePow, Nat.reduceDiv, Nat.reduceMod, Nat.reduceAdd, Nat.reduceSub, Nat.reduceMul, Nat.reduceLeDiff, Nat.reduceLT, Nat.reduceEqDiff, reduceCtorEq, reduceIte, reduceDIte, if_pos rfl, Int.reduceLT, Int.reduceLE, Int.reduceEq, Int.reduceNeg, Int.reduceAdd, Int.reduceSub, Int.reduceMul, Int.reduceToNat, opLen] at h
      exact .inr h
  have k6 := kp (σ.next + 6) (by simp only [go_sem, Nat.reducePow, Nat.reduceDiv, Nat.reduceMod, Nat.reduceAdd, Nat.reduceSub, Nat.reduceMul, Nat.reduceLeDiff, Nat.reduceLT, Nat.reduceEqDiff, reduceCtorEq, reduceIte, reduceDIte, if_pos rfl, Int.reduceLT, Int.reduceLE, Int.reduceEq, Int.reduceNeg, Int.reduceAdd, Int.reduceSub, Int.reduceMul, Int.reduceToNat, opLen]) fun hm => by have := hA _ hm; omega
  have k1 := kp (σ.next + 1) (by simp only [go_sem, Nat.reducePow, Nat.reduceDiv, Nat.reduceMod, Nat.reduceAdd, Nat.reduceSub, Nat.reduceMul, Nat.reduceLeDiff, Nat.reduceLT, Nat.reduceEqDiff, reduceCtorEq, reduceIte, reduceDIte, if_pos rfl, Int.reduceLT, Int.reduceLE, Int.reduceEq, Int.reduceNeg, Int.reduceAdd, Int.reduceSub, Int.reduceMul, Int.reduceToNat, opLen]) fun hm => by have := hA _ hm; omega
  have kx := kp x.blk (by simp only [go_sem, Nat.reducePow, Nat.reduceDiv, Nat.reduceMod, Nat.reduceAdd, Nat.reduceSub, Nat.reduceMul, Nat.reduceLeDiff, Nat.reduceLT, Nat.reduceEqDiff, reduceCtorEq, reduceIte, reduceDIte, if_pos rfl, Int.reduceLT, Int.reduceLE, Int.reduceEq, Int.reduceNeg, Int.reduceAdd, Int.reduceSub, Int.reduceMul, Int.reduceToNat, opLen, hxl]) fun hm => hxc (by simp only [QB.core, List.mem_cons] at hm ⊢; rcases hm with h | h | h <;> simp [h])
  have kpm := kp b.pm (by simp only [go_sem, Nat.reducePow, Nat.reduceDiv, Nat.reduceMod, Nat.reduceAdd, Nat.reduceSub, Nat.reduceMul, Nat.reduceLeDiff, Nat.reduceLT, Nat.reduceEqDiff, reduceCtorEq, reduceIte, reduceDIte, if_pos rfl, Int.reduceLT, Int.reduceLE, Int.reduceEq, Int.reduceNeg, Int.reduceAdd, Int.reduceSub, Int.reduceMul, Int.reduceToNat, opLen, hpm]) fun hm => by
    simp only [List.mem_cons] at hm
    rcases hm with h | h | h
    · exact ne.pm_h h
    · exact ne.pm_m h
    · exact (ne.A _ h).2.2.1 rfl
  have kc : ∀ c, c < σ.next → ¬ x.blk = c → ¬ b.pm = c → c ∉ b.h :: b.m :: b.A → σ'.get c = σ.get c := fun c c1 c2 c3 c4 => by
    have := kp c (by simp only [go_sem, Nat.reducePow, Nat.reduceDiv, Nat.reduceMod, Nat.reduceAdd, Nat.reduceSub, Nat.reduceMul, Nat.reduceLeDiff, Nat.reduceLT, Nat.reduceEqDiff, reduceCtorEq, reduceIte, reduceDIte, if_pos rfl, Int.reduceLT, Int.reduceLE, Int.reduceEq, Int.reduceNeg, Int.reduceAdd, Int.reduceSub, Int.reduceMul, Int.reduceToNat, opLen, c1]) c4
    simp only [go_sem, Nat.reducePow, Nat.reduceDiv, Nat.reduceMod, Nat.reduceAdd, Nat.reduceSub, Nat.reduceMul, Nat.reduceLeDiff, Nat.reduceLT, Nat.reduceEqDiff, reduceCtorEq, reduceIte, reduceDIte, if_pos rfl, Int.reduceLT, Int.reduceLE, Int.reduceEq, Int.reduceNeg, Int.reduceAdd, Int.reduceSub, Int.reduceMul, Int.reduceToNat, opLen, c1, c2, c3] at this
    exact this
  simp only [go_sem, Nat.reducePow, Nat.reduceDiv, Nat.reduceMod, Nat.reduceAdd, Nat.reduceSub, Nat.reduceMul, Nat.reduceLeDiff, Nat.reduceLT, Nat.reduceEqDiff, reduceCtorEq, reduceIte, reduceDIte, if_pos rfl, Int.reduceLT, Int.reduceLE, Int.reduceEq, Int.reduceNeg, Int.reduceAdd, Int.reduceSub, Int.reduceMul, Int.reduceToNat, opLen, hxl, hpm, n1, n2, n3, n4, n5, n6] at nx k6 k1 kx kpm
  clear kp hl hlg hA'
  simp only [go_sem, Nat.reducePow, Nat.reduceDiv, Nat.reduceMod, Nat.reduceAdd, Nat.reduceSub, Nat.reduceMul, Nat.reduceLeDiff, Nat.reduceLT, Nat.reduceEqDiff, reduceCtorEq, reduceIte, reduceDIte, if_pos rfl, Int.reduceLT, Int.reduceLE, Int.reduceEq, Int.reduceNeg, Int.reduceAdd, Int.reduceSub, Int.reduceMul, Int.reduceToNat, opLen, k6, k1, Nat.add_eq]
  refine qput_state H (K := 7) hF (by omega) hkp hlp hlenp hP hx' hA2 (fun c hc => ?_) kc nx kx kpm
  simp only [List.mem_cons, List.mem_append, List.not_mem_nil, or_false] at hc
  have fx : Foot b Q x.blk := .inr ⟨flow, x, hF, rfl⟩
  rcases hc with h | h | h | h | h | h | h | h | h
  · exact .inr (by omega)
  · exact .inr (by omega)
  · exact .inr (by omega)
  · exact .inr (by omega)
  · exact .inl (h ▸ fx)
  · exact .inl (h ▸ fx)
  · exact .inl (.inl (by simp [QB.core, h]))
  · rcases hl2 c h with h | h
    · exact .inl (.inl (by simp only [QB.core, List.mem_cons] at h ⊢; rcases h with h | h | h <;> simp [h]))
    · exact .inr (by omega)
  · exact .inr (by omega)
end Go.Ab

set_option linter.unusedSimpArgs false
set_option linter.unusedVariables false
namespace Go.Ab
open Go.Proofs

theorem qlen_call {σ : St} {b : QB} {Q : QV} (H : QAt σ b Q) : DCall Try.prog 28 [.pointer (some ⟨b.q, 0, none⟩)] σ (.ret (.int .i64 Q.L.length)) σ [] := by
  have gq := H.gq
  refine pure_call (enter (p := q8) Try.func28 rfl stat28 ?_) rfl
  simp only [go_sem, Nat.reducePow, Nat.reduceDiv, Nat.reduceMod, Nat.reduceAdd, Nat.reduceSub, Nat.reduceMul, Nat.reduceLeDiff, Nat.reduceLT, Nat.reduceEqDiff, reduceCtorEq, reduceIte, reduceDIte, if_pos rfl, Int.reduceLT, Int.reduceLE, Int.reduceEq, Int.reduceNeg, Int.reduceAdd, Int.reduceSub, Int.reduceMul, Int.reduceToNat, opLen, callW, q8, p8, p7, p6, p5, p4, p3, p2, p1, Try.f28]
  refine .of (qnone_call gq) ?_
  simp only [go_sem, Nat.reducePow, Nat.reduceDiv, Nat.reduceMod, Nat.reduceAdd, Nat.reduceSub, Nat.reduceMul, Nat.reduceLeDiff, Nat.reduceLT, Nat.reduceEqDiff, reduceCtorEq, reduceIte, reduceDIte, if_pos rfl, Int.reduceLT, Int.reduceLE, Int.reduceEq, Int.reduceNeg, Int.reduceAdd, Int.reduceSub, Int.reduceMul, Int.reduceToNat, opLen, callW, q8, p8, p7, p6, p5, p4, p3, p2, p1, gq]
  refine .of (len_hv H.hx.toV) ?_
  simp only [go_sem, Nat.reducePow, Nat.reduceDiv, Nat.reduceMod, Nat.reduceAdd, Nat.reduceSub, Nat.reduceMul, Nat.reduceLeDiff, Nat.reduceLT, Nat.reduceEqDiff, reduceCtorEq, reduceIte, reduceDIte, if_pos rfl, Int.reduceLT, Int.reduceLE, Int.reduceEq, Int.reduceNeg, Int.reduceAdd, Int.reduceSub, Int.reduceMul, Int.reduceToNat, opLen]

theorem QAt.change {σ σ' : St} {b : QB} {Q : QV} (H : QAt σ b Q) {flow : Int} {x x' : FlowV} {A' : List Nat} {P' : Int → Option (Int × Int)} {np' : Nat} {L' : List Item} {t' : Int} (hF : Q.F flow = some x) (hblk : x'.blk = x.blk)
    (hx' : HX σ' b.h b.m A' L' t') (hA : ∀ c ∈ A', c ∈ b.A ∨ σ.next ≤ c)
    (kc : ∀ c, c < σ.next → ¬ x.blk = c → ¬ b.pm = c → c ∉ b.h :: b.m :: b.A → σ'.get c = σ.get c) (nx : σ.next ≤ σ'.next)
    (kx : σ'.get x.blk = some (.cells (x'.cells flow) false)) (mp' : MapAt σ' b.pm (fun k => (P' k).map (packOf k)) np') :
    QAt σ' { b with A := A' } { Q with F := updF Q.F flow (some x'), P := P', np := np', L := L', t := t' } := by
  have ne := H.ne
  have lt := H.lt
  obtain ⟨gx, hxl, hxc⟩ := H.fl flow x hF
  have inh : ∀ c ∈ b.h :: b.m :: b.A, c ∈ b.core := fun c hc => by simp only [QB.core, List.mem_cons] at hc ⊢; rcases hc with h | h | h <;> simp [h]
  have xq : ¬ x.blk = b.q := fun e => hxc (by simp [QB.core, e])
  have xf : ¬ x.blk = b.fm := fun e => hxc (by simp [QB.core, e])
  have nq : b.q ∉ b.h :: b.m :: b.A := fun hm => by
    simp only [List.mem_cons] at hm
    rcases hm with h | h | h
    · exact ne.q_h h
    · exact ne.q_m h
    · exact (ne.A _ h).1 rfl
  have nf : b.fm ∉ b.h :: b.m :: b.A := fun hm => by
    simp only [List.mem_cons] at hm
    rcases hm with h | h | h
    · exact ne.fm_h h
    · exact ne.fm_m h
    · exact (ne.A _ h).2.1 rfl
  have newcore : ∀ c, c ∈ ({ b with A := A' } : QB).core → c ∈ b.core ∨ σ.next ≤ c := fun c hc => by
    simp only [QB.core, List.mem_cons] at hc ⊢
    rcases hc with h | h | h | h | h | h
    · simp [h]
    · simp [h]
    · simp [h]
    · simp [h]
    · simp [h]
    · rcases hA c h with h | h
      · simp [h]
      · exact .inr h
  exact { gq := (kc _ (lt _ (by simp [QB.core])) xq ne.q_pm.symm nq).trans H.gq
          hx := hx'
          mf := by
            obtain ⟨es, ck, gf, a, f, g⟩ := H.mf
            refine ⟨es, ck, (kc _ (lt _ (by simp [QB.core])) xf ne.fm_pm.symm nf).trans gf, a, fun k => ?_, g⟩
            rw [f]
            show (Q.F k).map ptrOf = (updF Q.F flow _ k).map ptrOf
            by_cases e : k = flow
            · subst e; rw [updF_same, hF]; simp only [Option.map, ptrOf, hblk]
            · rw [updF_other _ _ e]
          mp := mp'
          fl := fun k y hy => by
            have h1 : updF Q.F flow _ k = some y := hy
            clear hy
            by_cases e : k = flow
            · subst e
              rw [updF_same] at h1
              cases h1
              rw [hblk]
              refine ⟨kx, by omega, fun hm => ?_⟩
              rcases newcore _ hm with h | h
              · exact hxc h
              · omega
            · rw [updF_other _ _ e] at h1
              obtain ⟨a1, a2, a3⟩ := H.fl k y h1
              refine ⟨(kc _ a2 (fun e' => e (H.inj _ _ _ _ h1 hF e'.symm)) (fun e' => a3 (by simp [QB.core, e'])) (fun hm => a3 (inh _ hm))).trans a1, by omega, fun hm => ?_⟩
              rcases newcore _ hm with h | h
              · exact a3 h
              · omega
          inj := fun k k' y y' hy hy' hb => by
            have h1 : updF Q.F flow _ k = some y := hy
            have h2 : updF Q.F flow _ k' = some y' := hy'
            clear hy hy'
            by_cases e : k = flow <;> by_cases e' : k' = flow
            · rw [e, e']
            · rw [e, updF_same] at h1
              rw [updF_other _ _ e'] at h2
              cases h1
              rw [e]
              exact H.inj _ _ _ _ hF h2 (hblk.symm.trans hb)
            · rw [e', updF_same] at h2
              rw [updF_other _ _ e] at h1
              cases h2
              rw [e']
              exact H.inj _ _ _ _ h1 hF (hb.trans hblk)
            · rw [updF_other _ _ e] at h1
              rw [updF_other _ _ e'] at h2
              exact H.inj k k' y y' h1 h2 hb
          nodup := ne.core (n := σ.next) hA lt hx'.nodup
          lt := fun c hc => by
            have h3 := hx'.lt
            simp only [QB.core, List.mem_cons] at hc
            rcases hc with h | h | h | h | h | h
            · have := lt b.q (by simp [QB.core]); omega
            · have := lt b.fm (by simp [QB.core]); omega
            · have := lt b.pm (by simp [QB.core]); omega
            · exact h3 c (by simp [h])
            · exact h3 c (by simp [h])
            · exact h3 c (by simp [h]) }

def TakeR (σ : St) (b : QB) (Q : QV) (id flow size : Int) (x : FlowV) (σ' : St) (l : Log) : Prop :=
  (∀ c ∈ l, Foot b Q c ∨ σ.next ≤ c) ∧ QAt σ' b { Q with F := updF Q.F flow (some { x with bytes := x.bytes - size }), P := updF Q.P id none, np := Q.np - 1, L := outL Q.L 0 }

set_option maxRecDepth 20000 in
theorem qtake_call {σ : St} {b : QB} {Q : QV} (H : QAt σ b Q) {y : Item} (hy : Q.L[0]? = some y) {flow size : Int} (hP : Q.P y.id = some (flow, size)) {x : FlowV} (hF : Q.F flow = some x) (hsz : 0 ≤ size ∧ size ≤ 2000) (hb : -100000000 ≤ x.bytes ∧ x.bytes ≤ 100000000) :
    callX Try.prog 26 [.pointer (some ⟨b.q, 0, none⟩)] σ fun e σ' l =>
      e = .ret (.tuple ⟨[.agg ⟨[.int .i64 y.id, .int .i64 flow, .int .i64 size]⟩, .agg ⟨[.int .i64 y.n, .int .i64 y.d]⟩, .bool true]⟩) ∧ TakeR σ b Q y.id flow size x σ' l := by
  have gq := H.gq
  obtain ⟨es, ck, gf, hki, hlk, hlen⟩ := H.mf
  obtain ⟨ep, cp, gp, hkp, hlp, hlenp⟩ := H.mp
  obtain ⟨gx, hxl, hxc⟩ := H.fl flow x hF
  have hq : b.q < σ.next := H.lt _ (by simp [QB.core])
  have hfm : b.fm < σ.next := H.lt _ (by simp [QB.core])
  have hpm : b.pm < σ.next := H.lt _ (by simp [QB.core])
  obtain ⟨j, e, hfind, hev, _, _⟩ := findV_some und2' (i := 0) (v := ptrOf x) hki ((hlk flow).trans (by show (Q.F flow).map ptrOf = _; rw [hF]; rfl))
  obtain ⟨jp, ep', hfindp, hevp, hjp, hkeyp⟩ := findV_some und2' (i := 0) (v := packOf y.id (flow, size)) hkp ((hlp y.id).trans (by show (Q.P y.id).map (packOf y.id) = _; rw [hP]; rfl))
  have w2 : IntKind.i64.wrap (x.bytes - size) = x.bytes - size := wrapI (by omega) (by omega)
  have l0 : ((Q.L.length : Int) == 0) = false := by
    have := (List.getElem?_eq_some_iff.1 hy).1
    rw [beq_eq_false_iff_ne]; omega
  have ne := H.ne
  have hx := H.hx
  have hA := H.hx.lt
  have n1 : ¬ x.blk = b.q := fun e' => hxc (by simp [QB.core, e'])
  have n2 : ¬ x.blk = b.pm := fun e' => hxc (by simp [QB.core, e'])
  have n3 : ¬ b.q = b.pm := ne.q_pm
  have n4 : ¬ b.pm = b.q := ne.q_pm.symm
  have n5 : ¬ b.q = x.blk := fun e' => n1 e'.symm
  have n6 : ¬ b.pm = x.blk := fun e' => n2 e'.symm
  have n7 : ¬ b.pm = b.fm := ne.fm_pm.symm
  have n8 : ¬ x.blk = b.fm := fun e' => hxc (by simp [QB.core, e'])
  simp only [FlowV.cells] at gx
  have inh : ∀ c ∈ b.h :: b.m :: b.A, c ∈ b.core := fun c hc => by simp only [QB.core, List.mem_cons] at hc ⊢; rcases hc with h | h | h <;> simp [h]
  have nq : b.q ∉ b.h :: b.m :: b.A := fun hm => by
    simp only [List.mem_cons] at hm
    rcases hm with h | h | h
    · exact ne.q_h h
    · exact ne.q_m h
    · exact (ne.A _ h).1 rfl
  have nf : b.fm ∉ b.h :: b.m :: b.A := fun hm => by
    simp only [List.mem_cons] at hm
    rcases hm with h | h | h
    · exact ne.fm_h h
    · exact ne.fm_m h
    · exact (ne.A _ h).2.1 rfl
  have np : b.pm ∉ b.h :: b.m :: b.A := fun hm => by
    simp only [List.mem_cons] at hm
    rcases hm with h | h | h
    · exact ne.pm_h h
    · exact ne.pm_m h
    · exact (ne.A _ h).2.2.1 rfl
  refine enter (p := q8) Try.func26 rfl stat26 ?_
  simp only [go_sem, Nat.reducePow, Nat.reduceDiv, Nat.reduceMod, Nat.reduceAdd, Nat.reduceSub, Nat.reduceMul, Nat.reduceLeDiff, Nat.reduceLT, Nat.reduceEqDiff, reduceCtorEq, reduceIte, reduceDIte, if_pos rfl, Int.reduceLT, Int.reduceLE, Int.reduceEq, Int.reduceNeg, Int.reduceAdd, Int.reduceSub, Int.reduceMul, Int.reduceToNat, opLen, callW, q8, p8, p7, p6, p5, p4, p3, p2, p1, Try.f26]
  refine .of (qnone_call (q := b.q) (by simp only [go_sem, Nat.reducePow, Nat.reduceDiv, Nat.reduceMod, Nat.reduceAdd, Nat.reduceSub, Nat.reduceMul, Nat.reduceLeDiff, Nat.reduceLT, Nat.reduceEqDiff, reduceCtorEq, reduceIte, reduceDIte, if_pos rfl, Int.reduceLT, Int.reduceLE, Int.reduceEq, Int.reduceNeg, Int.reduceAdd, Int.reduceSub, Int.reduceMul, Int.reduceToNat, opLen, hq, gq]; rfl)) ?_
  simp only [go_sem, Nat.reducePow, Nat.reduceDiv, Nat.reduceMod, Nat.reduceAdd, Nat.reduceSub, Nat.reduceMul, Nat.reduceLeDiff, Nat.reduceLT, Nat.reduceEqDiff, reduceCtorEq, reduceIte, reduceDIte, if_pos rfl, Int.reduceLT, Int.reduceLE, Int.reduceEq, Int.reduceNeg, Int.reduceAdd, Int.reduceSub, Int.reduceMul, Int.reduceToNat, opLen, callW, q8, p8, p7, p6, p5, p4, p3, p2, p1]
  refine .of (qlen_call (H.keep ?_ ?_)) ?_
  · simp only [go_sem, Nat.reducePow, Nat.reduceDiv, Nat.reduceMod, Nat.reduceAdd, Nat.reduceSub, Nat.reduceMul, Nat.reduceLeDiff, Nat.reduceLT, Nat.reduceEqDiff, reduceCtorEq, reduceIte, reduceDIte, if_pos rfl, Int.reduceLT, Int.reduceLE, Int.reduceEq, Int.reduceNeg, Int.reduceAdd, Int.reduceSub, Int.reduceMul, Int.reduceToNat, opLen]
  · intro c hc
    have : c < σ.next := by
      rcases hc with hc | ⟨k, z, hz, rfl⟩
      · exact H.lt c hc
      · exact (H.fl k z hz).2.1
    simp only [go_sem, Nat.reducePow, Nat.reduceDiv, Nat.reduceMod, Nat.reduceAdd, Nat.reduceSub, Nat.reduceMul, Nat.reduceLeDiff, Nat.reduceLT, Nat.reduceEqDiff, reduceCtorEq, reduceIte, reduceDIte, if_pos rfl, Int.reduceLT, Int.reduceLE, Int.reduceEq, Int.reduceNeg, Int.reduceAdd, Int.reduceSub, Int.reduceMul, Int.reduceToNat, opLen, this]
  simp only [go_sem, Nat.reducePow, Nat.reduceDiv, Nat.reduceMod, Nat.reduceAdd, Nat.reduceSub, Nat.reduceMul, Nat.reduceLeDiff, Nat.reduceLT, Nat.reduceEqDiff, reduceCtorEq, reduceIte, reduceDIte, if_pos rfl, Int.reduceLT, Int.reduceLE, Int.reduceEq, Int.reduceNeg, Int.reduceAdd, Int.reduceSub, Int.reduceMul, Int.reduceToNat, opLen, callW, q8, p8, p7, p6, p5, p4, p3, p2, p1, l0, gq, hq]
  refine callX.ret (HX.take (hx.keep ?_ ?_) hy) ?_
  · simp only [go_sem, Nat.reducePow, Nat.reduceDiv, Nat.reduceMod, Nat.reduceAdd, Nat.reduceSub, Nat.reduceMul, Nat.reduceLeDiff, Nat.reduceLT, Nat.reduceEqDiff, reduceCtorEq, reduceIte, reduceDIte, if_pos rfl, Int.reduceLT, Int.reduceLE, Int.reduceEq, Int.reduceNeg, Int.reduceAdd, Int.reduceSub, Int.reduceMul, Int.reduceToNat, opLen]
  · intro c hc
    have := hA c hc
    simp only [go_sem, Nat.reducePow, Nat.reduceDiv, Nat.reduceMod, Nat.reduceAdd, Nat.reduceSub, Nat.reduceMul, Nat.reduceLeDiff, Nat.reduceLT, Nat.reduceEqDiff, reduceCtorEq, reduceIte, reduceDIte, if_pos rfl, Int.reduceLT, Int.reduceLE, Int.reduceEq, Int.reduceNeg, Int.reduceAdd, Int.reduceSub, Int.reduceMul, Int.reduceToNat, opLen, this]
  intro σ' l hl ⟨hlg, hx'⟩
  have nx := hl.1
  have kp := keep_log hl hlg
  have hl2 : ∀ c ∈ l, c ∈ b.h :: b.m :: b.A ∨ σ.next + 2 ≤ c := fun c hc => by
    rcases hlg c hc with h | h
    · exact .inl h
    · simp only [go_sem, Nat.reducePow, Nat.reduceDiv, Nat.reduceMod, Nat.reduceAdd, Nat.reduceSub, Nat.reduceMul, Nat.reduceLeDiff, Nat.reduceLT, Nat.reduceEqDiff, reduceCtorEq, reduceIte, reduceDIte, if_pos rfl, Int.reduceLT, Int.reduceLE, Int.reduceEq, Int.reduceNeg, Int.reduceAdd, Int.reduceSub, Int.reduceMul, Int.reduceToNat, opLen] at h
      exact .inr h
  have k0 := kp σ.next (by simp only [go_sem, Nat.reducePow, Nat.reduceDiv, Nat.reduceMod, Nat.reduceAdd, Nat.reduceSub, Nat.reduceMul, Nat.reduceLeDiff, Nat.reduceLT, Nat.reduceEqDiff, reduceCtorEq, reduceIte, reduceDIte, if_pos rfl, Int.reduceLT, Int.reduceLE, Int.reduceEq, Int.reduceNeg, Int.reduceAdd, Int.reduceSub, Int.reduceMul, Int.reduceToNat, opLen]) fun hm => by have := hA _ hm; omega
  have k1 := kp (σ.next + 1) (by simp only [go_sem, Nat.reducePow, Nat.reduceDiv, Nat.reduceMod, Nat.reduceAdd, Nat.reduceSub, Nat.reduceMul, Nat.reduceLeDiff, Nat.reduceLT, Nat.reduceEqDiff, reduceCtorEq, reduceIte, reduceDIte, if_pos rfl, Int.reduceLT, Int.reduceLE, Int.reduceEq, Int.reduceNeg, Int.reduceAdd, Int.reduceSub, Int.reduceMul, Int.reduceToNat, opLen]) fun hm => by have := hA _ hm; omega
  have kc : ∀ c, c < σ.next → c ∉ b.h :: b.m :: b.A → σ'.get c = σ.get c := fun c c1 c4 => by
    have := kp c (by simp only [go_sem, Nat.reducePow, Nat.reduceDiv, Nat.reduceMod, Nat.reduceAdd, Nat.reduceSub, Nat.reduceMul, Nat.reduceLeDiff, Nat.reduceLT, Nat.reduceEqDiff, reduceCtorEq, reduceIte, reduceDIte, if_pos rfl, Int.reduceLT, Int.reduceLE, Int.reduceEq, Int.reduceNeg, Int.reduceAdd, Int.reduceSub, Int.reduceMul, Int.reduceToNat, opLen, c1]) c4
    simp only [go_sem, Nat.reducePow, Nat.reduceDiv, Nat.reduceMod, Nat.reduceAdd, Nat.reduceSub, Nat.reduceMul, Nat.reduceLeDiff, Nat.reduceLT, Nat.reduceEqDiff, reduceCtorEq, reduceIte, reduceDIte, if_pos rfl, Int.reduceLT, Int.reduceLE, Int.reduceEq, Int.reduceNeg, Int.reduceAdd, Int.reduceSub, Int.reduceMul, Int.reduceToNat, opLen, c1] at this
    exact this
  have gq' := (kc b.q hq nq).trans gq
  have gf' := (kc b.fm hfm nf).trans gf
  have gp' := (kc b.pm hpm np).trans gp
  have gx' := (kc x.blk hxl fun hm => hxc (inh _ hm)).trans gx
  simp only [go_sem, Nat.reducePow, Nat.reduceDiv, Nat.reduceMod, Nat.reduceAdd, Nat.reduceSub, Nat.reduceMul, Nat.reduceLeDiff, Nat.reduceLT, Nat.reduceEqDiff, reduceCtorEq, reduceIte, reduceDIte, if_pos rfl, Int.reduceLT, Int.reduceLE, Int.reduceEq, Int.reduceNeg, Int.reduceAdd, Int.reduceSub, Int.reduceMul, Int.reduceToNat, opLen] at nx k0 k1
  clear kp hl hlg
  have hq' : b.q < σ'.next := by omega
  have hfm' : b.fm < σ'.next := by omega
  have hpm' : b.pm < σ'.next := by omega
  have hxl' : x.blk < σ'.next := by omega
  have h0' : σ.next < σ'.next := by omega
  have h1' : σ.next + 1 < σ'.next := by omega
  simp only [go_sem, Nat.reducePow, Nat.reduceDiv, Nat.reduceMod, Nat.reduceAdd, Nat.reduceSub, Nat.reduceMul, Nat.reduceLeDiff, Nat.reduceLT, Nat.reduceEqDiff, reduceCtorEq, reduceIte, reduceDIte, if_pos rfl, Int.reduceLT, Int.reduceLE, Int.reduceEq, Int.reduceNeg, Int.reduceAdd, Int.reduceSub, Int.reduceMul, Int.reduceToNat, opLen, callW, q8, p8, p7, p6, p5, p4, p3, p2, p1, packOf, ptrOf, k0, k1, gq', gf', gp', gx', hq', hfm', hpm', hxl', h0', h1', hfind, hev, hfindp, hevp, und2', w2, n1, n2, n3, n4, n5, n6, n7, n8, hq, hfm, hpm, hxl]
  obtain ⟨kd1, kd2⟩ := delV_KI hkp hjp hkeyp
  have kd3 := delV_length hjp
  have fx : Foot b Q x.blk := .inr ⟨flow, x, hF, rfl⟩
  refine ⟨fun c hc => ?_, H.change (x' := { x with bytes := x.bytes - size }) (A' := b.A) hF rfl ?_ (fun c hc => .inl hc) ?_ ?_ ?_ ?_⟩
  · simp only [List.mem_cons, List.mem_append, List.not_mem_nil, or_false] at hc
    rcases hc with (h | h) | h | h | h | h | h
    · rcases hl2 c h with h | h
      · exact .inl (.inl (inh c h))
      · exact .inr (by omega)
    · exact .inr (by omega)
    · exact .inr (by omega)
    · exact .inl (.inl (by simp [QB.core, h]))
    · exact .inl (h ▸ fx)
    · exact .inr (by omega)
    · exact .inr (by omega)
  · refine hx'.keep (by simp only [go_sem, Nat.reducePow, Nat.reduceDiv, Nat.reduceMod, Nat.reduceAdd, Nat.reduceSub, Nat.reduceMul, Nat.reduceLeDiff, Nat.reduceLT, Nat.reduceEqDiff, reduceCtorEq, reduceIte, reduceDIte, if_pos rfl, Int.reduceLT, Int.reduceLE, Int.reduceEq, Int.reduceNeg, Int.reduceAdd, Int.reduceSub, Int.reduceMul, Int.reduceToNat, opLen]) fun c hc => ?_
    have c1 := hA c hc
    have c2 : c < σ'.next := by omega
    have c3 : ¬ b.pm = c := fun e' => np (e' ▸ hc)
    have c4 : ¬ x.blk = c := fun e' => hxc (e' ▸ inh c hc)
    simp only [go_sem, Nat.reducePow, Nat.reduceDiv, Nat.reduceMod, Nat.reduceAdd, Nat.reduceSub, Nat.reduceMul, Nat.reduceLeDiff, Nat.reduceLT, Nat.reduceEqDiff, reduceCtorEq, reduceIte, reduceDIte, if_pos rfl, Int.reduceLT, Int.reduceLE, Int.reduceEq, Int.reduceNeg, Int.reduceAdd, Int.reduceSub, Int.reduceMul, Int.reduceToNat, opLen, c1, c2, c3, c4]
  · intro c c1 c2 c3 c4
    have c5 : c < σ'.next := by omega
    simp only [go_sem, Nat.reducePow, Nat.reduceDiv, Nat.reduceMod, Nat.reduceAdd, Nat.reduceSub, Nat.reduceMul, Nat.reduceLeDiff, Nat.reduceLT, Nat.reduceEqDiff, reduceCtorEq, reduceIte, reduceDIte, if_pos rfl, Int.reduceLT, Int.reduceLE, Int.reduceEq, Int.reduceNeg, Int.reduceAdd, Int.reduceSub, Int.reduceMul, Int.reduceToNat, opLen, c1, c2, c3, c5]
    exact kc c c1 c4
  · simp only [go_sem, Nat.reducePow, Nat.reduceDiv, Nat.reduceMod, Nat.reduceAdd, Nat.reduceSub, Nat.reduceMul, Nat.reduceLeDiff, Nat.reduceLT, Nat.reduceEqDiff, reduceCtorEq, reduceIte, reduceDIte, if_pos rfl, Int.reduceLT, Int.reduceLE, Int.reduceEq, Int.reduceNeg, Int.reduceAdd, Int.reduceSub, Int.reduceMul, Int.reduceToNat, opLen]; omega
  · simp only [go_sem, Nat.reducePow, Nat.reduceDiv, Nat.reduceMod, Nat.reduceAdd, Nat.reduceSub, Nat.reduceMul, Nat.reduceLeDiff, Nat.reduceLT, Nat.reduceEqDiff, reduceCtorEq, reduceIte, reduceDIte, if_pos rfl, Int.reduceLT, Int.reduceLE, Int.reduceEq, Int.reduceNeg, Int.reduceAdd, Int.reduceSub, Int.reduceMul, Int.reduceToNat, opLen, FlowV.cells, hxl, hxl', n1, n2]
  · refine ⟨delE ep jp, cp, by simp only [go_sem, Nat.reducePow, Nat.reduceDiv, Nat.reduceMod, Nat.reduceAdd, Nat.reduceSub, Nat.reduceMul, Nat.reduceLeDiff, Nat.reduceLT, Nat.reduceEqDiff, reduceCtorEq, reduceIte, reduceDIte, if_pos rfl, Int.reduceLT, Int.reduceLE, Int.reduceEq, Int.reduceNeg, Int.reduceAdd, Int.reduceSub, Int.reduceMul, Int.reduceToNat, opLen, hpm, hpm', n2], kd1, fun k => ?_, by omega⟩
    rw [kd2]
    show _ = (updF Q.P y.id none k).map (packOf k)
    by_cases e' : k = y.id
    · subst e'; rw [if_pos rfl, updF_same]; rfl
    · rw [if_neg e', updF_other _ _ e', hlp]
end Go.Ab

set_option linter.unusedSimpArgs false
set_option linter.unusedVariables false
namespace Go.Ab
open Go.Proofs

/-- A turn of a loop: it goes on with less, or leaves. -/
def stepW (I : Nat → Fr → St → Prop) (E : AX → Fr → St → Prop) (B : Nat → Prop) (n : Nat) (r : RR) : Prop :=
  (∀ c ∈ r.lg, B c) ∧ match r.x with
    | .norm => ∃ m, m < n ∧ I m r.fr r.σ
    | x => E x r.fr r.σ
def endL (E : AX → Fr → St → Prop) (B : Nat → Prop) (r : RR) : Prop := (∀ c ∈ r.lg, B c) ∧ E r.x r.fr r.σ

section eqs
variable {I : Nat → Fr → St → Prop} {E : AX → Fr → St → Prop} {B : Nat → Prop} {n : Nat} {fr : Fr} {σ : St} {lg : Log}
theorem stepW_norm : stepW I E B n ⟨.norm, fr, σ, lg⟩ = ((∀ c ∈ lg, B c) ∧ ∃ m, m < n ∧ I m fr σ) := (rfl)
theorem stepW_exit {i : Nat} : stepW I E B n ⟨.exit i, fr, σ, lg⟩ = ((∀ c ∈ lg, B c) ∧ E (.exit i) fr σ) := (rfl)
theorem stepW_ret : stepW I E B n ⟨.ret, fr, σ, lg⟩ = ((∀ c ∈ lg, B c) ∧ E .ret fr σ) := (rfl)
end eqs

theorem loop_ind (p : PureTab Try.prog) (f : FuncId) {rnd : Bool} {b : Code} (hs : statAll (btAll f) b = true) (I : Nat → Fr → St → Prop) (E : AX → Fr → St → Prop) (B : Nat → Prop)
    (step : ∀ n fr σ, I n fr σ → wp (cP Try.prog) p (btAll f) rnd b fr σ (stepW I E B n)) : ∀ n fr σ, I n fr σ → loopX Try.prog rnd b fr σ (endL E B) := by
  intro n
  induction n using Nat.strongRecOn with
  | _ n ih =>
    intro fr σ hI
    obtain ⟨r, h1, h2, h3⟩ := wp_sound cP_ok mixed b fr σ _ hs (step n fr σ hI)
    cases hx : r.x with
    | norm =>
      rw [hx] at h3
      obtain ⟨m, hm, hI'⟩ := h3
      obtain ⟨r', h4, h5, h6⟩ := ih m hm _ _ hI'
      refine ⟨_, DL.next h1 hx h4, fun c hc => ?_, h6⟩
      rcases List.mem_append.1 hc with h | h
      · exact h2 c h
      · exact h5 c h
    | exit i => rw [hx] at h3; exact ⟨_, DL.out h1 (by rw [hx]; rfl), h2, by rw [hx]; exact h3⟩
    | goto i => rw [hx] at h3; exact ⟨_, DL.out h1 (by rw [hx]; rfl), h2, by rw [hx]; exact h3⟩
    | ret => rw [hx] at h3; exact ⟨_, DL.out h1 (by rw [hx]; rfl), h2, by rw [hx]; exact h3⟩
    | panic ch => rw [hx] at h3; exact ⟨_, DL.out h1 (by rw [hx]; rfl), h2, by rw [hx]; exact h3⟩

/-- A loop, and what comes behind. -/
theorem loop_then {rnd : Bool} {b : Code} {fr : Fr} {σ : St} {E : AX → Fr → St → Prop} {B : Nat → Prop} {Q : RR → Prop} (h : loopX Try.prog rnd b fr σ (endL E B))
    (k : ∀ x fr' σ' lg, Logged σ σ' lg → (∀ c ∈ lg, B c) → E x fr' σ' → Q ⟨x, fr', σ', lg⟩) : loopX Try.prog rnd b fr σ Q :=
  h.mono fun r hl ⟨h1, h2⟩ => k r.x r.fr r.σ r.lg hl h1 h2

theorem wp_abs {C : Cx} {p : PureTab Try.prog} {bt : Nat → List Nat} {rnd : Bool} {c : Code} {ts : List Value} {ds : List Deferred} {σ : St} {Q : RR → Prop} (F : List Value → Prop) (h : F ts) (k : ∀ ts', F ts' → wp C p bt rnd c ⟨ts', ds⟩ σ Q) : wp C p bt rnd c ⟨ts, ds⟩ σ Q := k ts h

attribute [go_sem] stepW_norm stepW_exit stepW_ret

end Go.Ab

set_option linter.unusedSimpArgs false
set_option linter.unusedVariables false
namespace Go.Ab
open Go.Proofs

theorem known12_call (σ : St) : DCall Try.prog 12 [] σ (.ret (.bool true)) σ [] := whole_call (n := 300) (d := 30) (by kernel_rfl) rfl rfl σ
theorem known22_call (σ : St) : DCall Try.prog 22 [] σ (.ret (.bool true)) σ [] := whole_call (n := 300) (d := 30) (by kernel_rfl) rfl rfl σ
theorem known33_call (σ : St) : DCall Try.prog 33 [] σ (.ret (.bool true)) σ [] := whole_call (n := 300) (d := 30) (by kernel_rfl) rfl rfl σ

end Go.Ab

set_option linter.unusedSimpArgs false
set_option linter.unusedVariables false
namespace Go.Ab
open Go.Proofs

def Refused (σ : St) (no : Int) (e : AE) (_ : St) (l : Log) : Prop := e = .ret (.tuple ⟨[.agg ⟨[.int .i64 0, .int .i64 0]⟩, .int .i64 no]⟩) ∧ ∀ c ∈ l, σ.next ≤ c

set_option maxHeartbeats 1000000 in
set_option maxRecDepth 20000 in
theorem qput_flow1N {σ : St} {b : QB} {Q : QV} (H : QAt σ b Q) (id flow size now : Int) (hP : Q.P id = none) (hid : 0 ≤ id ∧ id ≤ 4611686018427387904) (hF : Q.F flow = none) (h1 : ¬ 0 ≤ flow) :
    callX Try.prog 25 [.pointer (some ⟨b.q, 0, none⟩), .agg ⟨[.int .i64 id, .int .i64 flow, .int .i64 size]⟩, .int .i64 now] σ (Refused σ 2) := by
  have gq := H.gq
  obtain ⟨es, ck, gf, hki, hlk, hlen⟩ := H.mf
  obtain ⟨ep, cp, gp, hkp, hlp, hlenp⟩ := H.mp
  have hq : b.q < σ.next := H.lt _ (by simp [QB.core])
  have hfm : b.fm < σ.next := H.lt _ (by simp [QB.core])
  have hpm : b.pm < σ.next := H.lt _ (by simp [QB.core])
  have hfindp := findV_none und2' (i := 0) hkp ((hlp id).trans (by show (Q.P id).map (packOf id) = none; rw [hP]; rfl))
  have hfind := findV_none und2' (i := 0) hki ((hlk flow).trans (by show (Q.F flow).map ptrOf = none; rw [hF]; rfl))
  refine enter (p := q8) Try.func25 rfl stat25 ?_
  simp only [go_sem, Nat.reducePow, Nat.reduceDiv, Nat.reduceMod, Nat.reduceAdd, Nat.reduceSub, Nat.reduceMul, Nat.reduceLeDiff, Nat.reduceLT, Nat.reduceEqDiff, reduceCtorEq, reduceIte, reduceDIte, if_pos rfl, Int.reduceLT, Int.reduceLE, Int.reduceEq, Int.reduceNeg, Int.reduceAdd, Int.reduceSub, Int.reduceMul, Int.reduceToNat, opLen, callW, q8, p8, p7, p6, p5, p4, p3, p2, p1, Try.f25]
  refine .of (qnone_call (q := b.q) (by simp only [go_sem, Nat.reducePow, Nat.reduceDiv, Nat.reduceMod, Nat.reduceAdd, Nat.reduceSub, Nat.reduceMul, Nat.reduceLeDiff, Nat.reduceLT, Nat.reduceEqDiff, reduceCtorEq, reduceIte, reduceDIte, if_pos rfl, Int.reduceLT, Int.reduceLE, Int.reduceEq, Int.reduceNeg, Int.reduceAdd, Int.reduceSub, Int.reduceMul, Int.reduceToNat, opLen, hq, gq]; rfl)) ?_
  simp only [go_sem, Nat.reducePow, Nat.reduceDiv, Nat.reduceMod, Nat.reduceAdd, Nat.reduceSub, Nat.reduceMul, Nat.reduceLeDiff, Nat.reduceLT, Nat.reduceEqDiff, reduceCtorEq, reduceIte, reduceDIte, if_pos rfl, Int.reduceLT, Int.reduceLE, Int.reduceEq, Int.reduceNeg, Int.reduceAdd, Int.reduceSub, Int.reduceMul, Int.reduceToNat, opLen, callW, q8, p8, p7, p6, p5, p4, p3, p2, p1, undef, gq, gf, gp, hq, hfm, hpm, hfind, hfindp, und2']
  refine .of (within_call _ _ _ _) ?_
  simp only [go_sem, Nat.reducePow, Nat.reduceDiv, Nat.reduceMod, Nat.reduceAdd, Nat.reduceSub, Nat.reduceMul, Nat.reduceLeDiff, Nat.reduceLT, Nat.reduceEqDiff, reduceCtorEq, reduceIte, reduceDIte, if_pos rfl, Int.reduceLT, Int.reduceLE, Int.reduceEq, Int.reduceNeg, Int.reduceAdd, Int.reduceSub, Int.reduceMul, Int.reduceToNat, opLen, callW, q8, p8, p7, p6, p5, p4, p3, p2, p1, undef, zerosN, Refused, hid.1, hid.2]
  refine .of (within_call _ _ _ _) ?_
  simp only [go_sem, Nat.reducePow, Nat.reduceDiv, Nat.reduceMod, Nat.reduceAdd, Nat.reduceSub, Nat.reduceMul, Nat.reduceLeDiff, Nat.reduceLT, Nat.reduceEqDiff, reduceCtorEq, reduceIte, reduceDIte, if_pos rfl, Int.reduceLT, Int.reduceLE, Int.reduceEq, Int.reduceNeg, Int.reduceAdd, Int.reduceSub, Int.reduceMul, Int.reduceToNat, opLen, callW, q8, p8, p7, p6, p5, p4, p3, p2, p1, undef, zerosN, Refused, hid.1, hid.2, h1]

set_option maxHeartbeats 1000000 in
set_option maxRecDepth 20000 in
theorem qput_flow2N {σ : St} {b : QB} {Q : QV} (H : QAt σ b Q) (id flow size now : Int) (hP : Q.P id = none) (hid : 0 ≤ id ∧ id ≤ 4611686018427387904) (hF : Q.F flow = none) (h1 : 0 ≤ flow) (h2 : ¬ flow ≤ 2147483647) :
    callX Try.prog 25 [.pointer (some ⟨b.q, 0, none⟩), .agg ⟨[.int .i64 id, .int .i64 flow, .int .i64 size]⟩, .int .i64 now] σ (Refused σ 2) := by
  have gq := H.gq
  obtain ⟨es, ck, gf, hki, hlk, hlen⟩ := H.mf
  obtain ⟨ep, cp, gp, hkp, hlp, hlenp⟩ := H.mp
  have hq : b.q < σ.next := H.lt _ (by simp [QB.core])
  have hfm : b.fm < σ.next := H.lt _ (by simp [QB.core])
  have hpm : b.pm < σ.next := H.lt _ (by simp [QB.core])
  have hfindp := findV_none und2' (i := 0) hkp ((hlp id).trans (by show (Q.P id).map (packOf id) = none; rw [hP]; rfl))
  have hfind := findV_none und2' (i := 0) hki ((hlk flow).trans (by show (Q.F flow).map ptrOf = none; rw [hF]; rfl))
  refine enter (p := q8) Try.func25 rfl stat25 ?_
  simp only [go_sem, Nat.reducePow, Nat.reduceDiv, Nat.reduceMod, Nat.reduceAdd, Nat.reduceSub, Nat.reduceMul, Nat.reduceLeDiff, Nat.reduceLT, Nat.reduceEqDiff, reduceCtorEq, reduceIte, reduceDIte, if_pos rfl, Int.reduceLT, Int.reduceLE, Int.reduceEq, Int.reduceNeg, Int.reduceAdd, Int.reduceSub, Int.reduceMul, Int.reduceToNat, opLen, callW, q8, p8, p7, p6, p5, p4, p3, p2, p1, Try.f25]
  refine .of (qnone_call (q := b.q) (by simp only [go_sem, Nat.reducePow, Nat.reduceDiv, Nat.reduceMod, Nat.reduceAdd, Nat.reduceSub, Nat.reduceMul, Nat.reduceLeDiff, Nat.reduceLT, Nat.reduceEqDiff, reduceCtorEq, reduceIte, reduceDIte, if_pos rfl, Int.reduceLT, Int.reduceLE, Int.reduceEq, Int.reduceNeg, Int.reduceAdd, Int.reduceSub, Int.reduceMul, Int.reduceToNat, opLen, hq, gq]; rfl)) ?_
  simp only [go_sem, Nat.reducePow, Nat.reduceDiv, Nat.reduceMod, Nat.reduceAdd, Nat.reduceSub, Nat.reduceMul, Nat.reduceLeDiff, Nat.reduceLT, Nat.reduceEqDiff, reduceCtorEq, reduceIte, reduceDIte, if_pos rfl, Int.reduceLT, Int.reduceLE, Int.reduceEq, Int.reduceNeg, Int.reduceAdd, Int.reduceSub, Int.reduceMul, Int.reduceToNat, opLen, callW, q8, p8, p7, p6, p5, p4, p3, p2, p1, undef, gq, gf, gp, hq, hfm, hpm, hfind, hfindp, und2']
  refine .of (within_call _ _ _ _) ?_
  simp only [go_sem, Nat.reducePow, Nat.reduceDiv, Nat.reduceMod, Nat.reduceAdd, Nat.reduceSub, Nat.reduceMul, Nat.reduceLeDiff, Nat.reduceLT, Nat.reduceEqDiff, reduceCtorEq, reduceIte, reduceDIte, if_pos rfl, Int.reduceLT, Int.reduceLE, Int.reduceEq, Int.reduceNeg, Int.reduceAdd, Int.reduceSub, Int.reduceMul, Int.reduceToNat, opLen, callW, q8, p8, p7, p6, p5, p4, p3, p2, p1, undef, zerosN, Refused, hid.1, hid.2]
  refine .of (within_call _ _ _ _) ?_
  simp only [go_sem, Nat.reducePow, Nat.reduceDiv, Nat.reduceMod, Nat.reduceAdd, Nat.reduceSub, Nat.reduceMul, Nat.reduceLeDiff, Nat.reduceLT, Nat.reduceEqDiff, reduceCtorEq, reduceIte, reduceDIte, if_pos rfl, Int.reduceLT, Int.reduceLE, Int.reduceEq, Int.reduceNeg, Int.reduceAdd, Int.reduceSub, Int.reduceMul, Int.reduceToNat, opLen, callW, q8, p8, p7, p6, p5, p4, p3, p2, p1, undef, zerosN, Refused, hid.1, hid.2, h1, h2]

set_option maxHeartbeats 1000000 in
set_option maxRecDepth 20000 in
theorem qput_size1N {σ : St} {b : QB} {Q : QV} (H : QAt σ b Q) (id flow size now : Int) (hP : Q.P id = none) (hid : 0 ≤ id ∧ id ≤ 4611686018427387904) (hF : Q.F flow = none) (hfl : 0 ≤ flow ∧ flow ≤ 2147483647) (h1 : ¬ 1 ≤ size) :
    callX Try.prog 25 [.pointer (some ⟨b.q, 0, none⟩), .agg ⟨[.int .i64 id, .int .i64 flow, .int .i64 size]⟩, .int .i64 now] σ (Refused σ 2) := by
  have gq := H.gq
  obtain ⟨es, ck, gf, hki, hlk, hlen⟩ := H.mf
  obtain ⟨ep, cp, gp, hkp, hlp, hlenp⟩ := H.mp
  have hq : b.q < σ.next := H.lt _ (by simp [QB.core])
  have hfm : b.fm < σ.next := H.lt _ (by simp [QB.core])
  have hpm : b.pm < σ.next := H.lt _ (by simp [QB.core])
  have hfindp := findV_none und2' (i := 0) hkp ((hlp id).trans (by show (Q.P id).map (packOf id) = none; rw [hP]; rfl))
  have hfind := findV_none und2' (i := 0) hki ((hlk flow).trans (by show (Q.F flow).map ptrOf = none; rw [hF]; rfl))
  refine enter (p := q8) Try.func25 rfl stat25 ?_
  simp only [go_sem, Nat.reducePow, Nat.reduceDiv, Nat.reduceMod, Nat.reduceAdd, Nat.reduceSub, Nat.reduceMul, Nat.reduceLeDiff, Nat.reduceLT, Nat.reduceEqDiff, reduceCtorEq, reduceIte, reduceDIte, if_pos rfl, Int.reduceLT, Int.reduceLE, Int.reduceEq, Int.reduceNeg, Int.reduceAdd, Int.reduceSub, Int.reduceMul, Int.reduceToNat, opLen, callW, q8, p8, p7, p6, p5, p4, p3, p2, p1, Try.f25]
  refine .of (qnone_call (q := b.q) (by simp only [go_sem, Nat.reducePow, Nat.reduceDiv, Nat.reduceMod, Nat.reduceAdd, Nat.reduceSub, Nat.reduceMul, Nat.reduceLeDiff, Nat.reduceLT, Nat.reduceEqDiff, reduceCtorEq, reduceIte, reduceDIte, if_pos rfl, Int.reduceLT, Int.reduceLE, Int.reduceEq, Int.reduceNeg, Int.reduceAdd, Int.reduceSub, Int.reduceMul, Int.reduceToNat, opLen, hq, gq]; rfl)) ?_
  simp only [go_sem, Nat.reducePow, Nat.reduceDiv, Nat.reduceMod, Nat.reduceAdd, Nat.reduceSub, Nat.reduceMul, Nat.reduceLeDiff, Nat.reduceLT, Nat.reduceEqDiff, reduceCtorEq, reduceIte, reduceDIte, if_pos rfl, Int.reduceLT, Int.reduceLE, Int.reduceEq, Int.reduceNeg, Int.reduceAdd, Int.reduceSub, Int.reduceMul, Int.reduceToNat, opLen, callW, q8, p8, p7, p6, p5, p4, p3, p2, p1, undef, gq, gf, gp, hq, hfm, hpm, hfind, hfindp, und2']
  refine .of (within_call _ _ _ _) ?_
  simp only [go_sem, Nat.reducePow, Nat.reduceDiv, Nat.reduceMod, Nat.reduceAdd, Nat.reduceSub, Nat.reduceMul, Nat.reduceLeDiff, Nat.reduceLT, Nat.reduceEqDiff, reduceCtorEq, reduceIte, reduceDIte, if_pos rfl, Int.reduceLT, Int.reduceLE, Int.reduceEq, Int.reduceNeg, Int.reduceAdd, Int.reduceSub, Int.reduceMul, Int.reduceToNat, opLen, callW, q8, p8, p7, p6, p5, p4, p3, p2, p1, undef, zerosN, Refused, hid.1, hid.2]
  refine .of (within_call _ _ _ _) ?_
  simp only [go_sem, Nat.reducePow, Nat.reduceDiv, Nat.reduceMod, Nat.reduceAdd, Nat.reduceSub, Nat.reduceMul, Nat.reduceLeDiff, Nat.reduceLT, Nat.reduceEqDiff, reduceCtorEq, reduceIte, reduceDIte, if_pos rfl, Int.reduceLT, Int.reduceLE, Int.reduceEq, Int.reduceNeg, Int.reduceAdd, Int.reduceSub, Int.reduceMul, Int.reduceToNat, opLen, callW, q8, p8, p7, p6, p5, p4, p3, p2, p1, undef, zerosN, Refused, hid.1, hid.2, hfl.1, hfl.2]
  refine .of (within_call _ _ _ _) ?_
  simp only [go_sem, Nat.reducePow, Nat.reduceDiv, Nat.reduceMod, Nat.reduceAdd, Nat.reduceSub, Nat.reduceMul, Nat.reduceLeDiff, Nat.reduceLT, Nat.reduceEqDiff, reduceCtorEq, reduceIte, reduceDIte, if_pos rfl, Int.reduceLT, Int.reduceLE, Int.reduceEq, Int.reduceNeg, Int.reduceAdd, Int.reduceSub, Int.reduceMul, Int.reduceToNat, opLen, callW, q8, p8, p7, p6, p5, p4, p3, p2, p1, undef, zerosN, Refused, hid.1, hid.2, hfl.1, hfl.2, h1]

set_option maxHeartbeats 1000000 in
set_option maxRecDepth 20000 in
theorem qput_size2N {σ : St} {b : QB} {Q : QV} (H : QAt σ b Q) (id flow size now : Int) (hP : Q.P id = none) (hid : 0 ≤ id ∧ id ≤ 4611686018427387904) (hF : Q.F flow = none) (hfl : 0 ≤ flow ∧ flow ≤ 2147483647) (h1 : 1 ≤ size) (h2 : ¬ size ≤ 2000) :
    callX Try.prog 25 [.pointer (some ⟨b.q, 0, none⟩), .agg ⟨[.int .i64 id, .int .i64 flow, .int .i64 size]⟩, .int .i64 now] σ (Refused σ 2) := by
  have gq := H.gq
  obtain ⟨es, ck, gf, hki, hlk, hlen⟩ := H.mf
  obtain ⟨ep, cp, gp, hkp, hlp, hlenp⟩ := H.mp
  have hq : b.q < σ.next := H.lt _ (by simp [QB.core])
  have hfm : b.fm < σ.next := H.lt _ (by simp [QB.core])
  have hpm : b.pm < σ.next := H.lt _ (by simp [QB.core])
  have hfindp := findV_none und2' (i := 0) hkp ((hlp id).trans (by show (Q.P id).map (packOf id) = none; rw [hP]; rfl))
  have hfind := findV_none und2' (i := 0) hki ((hlk flow).trans (by show (Q.F flow).map ptrOf = none; rw [hF]; rfl))
  refine enter (p := q8) Try.func25 rfl stat25 ?_
  simp only [go_sem, Nat.reducePow, Nat.reduceDiv, Nat.reduceMod, Nat.reduceAdd, Nat.reduceSub, Nat.reduceMul, Nat.reduceLeDiff, Nat.reduceLT, Nat.reduceEqDiff, reduceCtorEq, reduceIte, reduceDIte, if_pos rfl, Int.reduceLT, Int.reduceLE, Int.reduceEq, Int.reduceNeg, Int.reduceAdd, Int.reduceSub, Int.reduceMul, Int.reduceToNat, opLen, callW, q8, p8, p7, p6, p5, p4, p3, p2, p1, Try.f25]
  refine .of (qnone_call (q := b.q) (by simp only [go_sem, Nat.reducePow, Nat.reduceDiv, Nat.reduceMod, Nat.reduceAdd, Nat.reduceSub, Nat.reduceMul, Nat.reduceLeDiff, Nat.reduceLT, Nat.reduceEqDiff, reduceCtorEq, reduceIte, reduceDIte, if_pos rfl, Int.reduceLT, Int.reduceLE, Int.reduceEq, Int.reduceNeg, Int.reduceAdd, Int.reduceSub, Int.reduceMul, Int.reduceToNat, opLen, hq, gq]; rfl)) ?_
  simp only [go_sem, Nat.reducePow, Nat.reduceDiv, Nat.reduceMod, Nat.reduceAdd, Nat.reduceSub, Nat.reduceMul, Nat.reduceLeDiff, Nat.reduceLT, Nat.reduceEqDiff, reduceCtorEq, reduceIte, reduceDIte, if_pos rfl, Int.reduceLT, Int.reduceLE, Int.reduceEq, Int.reduceNeg, Int.reduceAdd, Int.reduceSub, Int.reduceMul, Int.reduceToNat, opLen, callW, q8, p8, p7, p6, p5, p4, p3, p2, p1, undef, gq, gf, gp, hq, hfm, hpm, hfind, hfindp, und2']
  refine .of (within_call _ _ _ _) ?_
  simp only [go_sem, Nat.reducePow, Nat.reduceDiv, Nat.reduceMod, Nat.reduceAdd, Nat.reduceSub, Nat.reduceMul, Nat.reduceLeDiff, Nat.reduceLT, Nat.reduceEqDiff, reduceCtorEq, reduceIte, reduceDIte, if_pos rfl, Int.reduceLT, Int.reduceLE, Int.reduceEq, Int.reduceNeg, Int.reduceAdd, Int.reduceSub, Int.reduceMul, Int.reduceToNat, opLen, callW, q8, p8, p7, p6, p5, p4, p3, p2, p1, undef, zerosN, Refused, hid.1, hid.2]
  refine .of (within_call _ _ _ _) ?_
  simp only [go_sem, Nat.reducePow, Nat.reduceDiv, Nat.reduceMod, Nat.reduceAdd, Nat.reduceSub, Nat.reduceMul, Nat.reduceLeDiff, Nat.reduceLT, Nat.reduceEqDiff, reduceCtorEq, reduceIte, reduceDIte, if_pos rfl, Int.reduceLT, Int.reduceLE, Int.reduceEq, Int.reduceNeg, Int.reduceAdd, Int.reduceSub, Int.reduceMul, Int.reduceToNat, opLen, callW, q8, p8, p7, p6, p5, p4, p3, p2, p1, undef, zerosN, Refused, hid.1, hid.2, hfl.1, hfl.2]
  refine .of (within_call _ _ _ _) ?_
  simp only [go_sem, Nat.reducePow, Nat.reduceDiv, Nat.reduceMod, Nat.reduceAdd, Nat.reduceSub, Nat.reduceMul, Nat.reduceLeDiff, Nat.reduceLT, Nat.reduceEqDiff, reduceCtorEq, reduceIte, reduceDIte, if_pos rfl, Int.reduceLT, Int.reduceLE, Int.reduceEq, Int.reduceNeg, Int.reduceAdd, Int.reduceSub, Int.reduceMul, Int.reduceToNat, opLen, callW, q8, p8, p7, p6, p5, p4, p3, p2, p1, undef, zerosN, Refused, hid.1, hid.2, hfl.1, hfl.2, h1, h2]

set_option maxHeartbeats 1000000 in
set_option maxRecDepth 20000 in
theorem qput_now1N {σ : St} {b : QB} {Q : QV} (H : QAt σ b Q) (id flow size now : Int) (hP : Q.P id = none) (hid : 0 ≤ id ∧ id ≤ 4611686018427387904) (hF : Q.F flow = none) (hfl : 0 ≤ flow ∧ flow ≤ 2147483647) (hsz : 1 ≤ size ∧ size ≤ 2000) (h1 : ¬ 0 ≤ now) :
    callX Try.prog 25 [.pointer (some ⟨b.q, 0, none⟩), .agg ⟨[.int .i64 id, .int .i64 flow, .int .i64 size]⟩, .int .i64 now] σ (Refused σ 2) := by
  have gq := H.gq
  obtain ⟨es, ck, gf, hki, hlk, hlen⟩ := H.mf
  obtain ⟨ep, cp, gp, hkp, hlp, hlenp⟩ := H.mp
  have hq : b.q < σ.next := H.lt _ (by simp [QB.core])
  have hfm : b.fm < σ.next := H.lt _ (by simp [QB.core])
  have hpm : b.pm < σ.next := H.lt _ (by simp [QB.core])
  have hfindp := findV_none und2' (i := 0) hkp ((hlp id).trans (by show (Q.P id).map (packOf id) = none; rw [hP]; rfl))
  have hfind := findV_none und2' (i := 0) hki ((hlk flow).trans (by show (Q.F flow).map ptrOf = none; rw [hF]; rfl))
  refine enter (p := q8) Try.func25 rfl stat25 ?_
  simp only [go_sem, Nat.reducePow, Nat.reduceDiv, Nat.reduceMod, Nat.reduceAdd, Nat.reduceSub, Nat.reduceMul, Nat.reduceLeDiff, Nat.reduceLT, Nat.reduceEqDiff, reduceCtorEq, reduceIte, reduceDIte, if_pos rfl, Int.reduceLT, Int.reduceLE, Int.reduceEq, Int.reduceNeg, Int.reduceAdd, Int.reduceSub, Int.reduceMul, Int.reduceToNat, opLen, callW, q8, p8, p7, p6, p5, p4, p3, p2, p1, Try.f25]
  refine .of (qnone_call (q := b.q) (by simp only [go_sem, Nat.reducePow, Nat.reduceDiv, Nat.reduceMod, Nat.reduceAdd, Nat.reduceSub, Nat.reduceMul, Nat.reduceLeDiff, Nat.reduceLT, Nat.reduceEqDiff, reduceCtorEq, reduceIte, reduceDIte, if_pos rfl, Int.reduceLT, Int.reduceLE, Int.reduceEq, Int.reduceNeg, Int.reduceAdd, Int.reduceSub, Int.reduceMul, Int.reduceToNat, opLen, hq, gq]; rfl)) ?_
  simp only [go_sem, Nat.reducePow, Nat.reduceDiv, Nat.reduceMod, Nat.reduceAdd, Nat.reduceSub, Nat.reduceMul, Nat.reduceLeDiff, Nat.reduceLT, Nat.reduceEqDiff, reduceCtorEq, reduceIte, reduceDIte, if_pos rfl, Int.reduceLT, Int.reduceLE, Int.reduceEq, Int.reduceNeg, Int.reduceAdd, Int.reduceSub, Int.reduceMul, Int.reduceToNat, opLen, callW, q8, p8, p7, p6, p5, p4, p3, p2, p1, undef, gq, gf, gp, hq, hfm, hpm, hfind, hfindp, und2']
  refine .of (within_call _ _ _ _) ?_
  simp only [go_sem, Nat.reducePow, Nat.reduceDiv, Nat.reduceMod, Nat.reduceAdd, Nat.reduceSub, Nat.reduceMul, Nat.reduceLeDiff, Nat.reduceLT, Nat.reduceEqDiff, reduceCtorEq, reduceIte, reduceDIte, if_pos rfl, Int.reduceLT, Int.reduceLE, Int.reduceEq, Int.reduceNeg, Int.reduceAdd, Int.reduceSub, Int.reduceMul, Int.reduceToNat, opLen, callW, q8, p8, p7, p6, p5, p4, p3, p2, p1, undef, zerosN, Refused, hid.1, hid.2]
  refine .of (within_call _ _ _ _) ?_
  simp only [go_sem, Nat.reducePow, Nat.reduceDiv, Nat.reduceMod, Nat.reduceAdd, Nat.reduceSub, Nat.reduceMul, Nat.reduceLeDiff, Nat.reduceLT, Nat.reduceEqDiff, reduceCtorEq, reduceIte, reduceDIte, if_pos rfl, Int.reduceLT, Int.reduceLE, Int.reduceEq, Int.reduceNeg, Int.reduceAdd, Int.reduceSub, Int.reduceMul, Int.reduceToNat, opLen, callW, q8, p8, p7, p6, p5, p4, p3, p2, p1, undef, zerosN, Refused, hid.1, hid.2, hfl.1, hfl.2]
  refine .of (within_call _ _ _ _) ?_
  simp only [go_sem, Nat.reducePow, Nat.reduceDiv, Nat.reduceMod, Nat.reduceAdd, Nat.reduceSub, Nat.reduceMul, Nat.reduceLeDiff, Nat.reduceLT, Nat.reduceEqDiff, reduceCtorEq, reduceIte, reduceDIte, if_pos rfl, Int.reduceLT, Int.reduceLE, Int.reduceEq, Int.reduceNeg, Int.reduceAdd, Int.reduceSub, Int.reduceMul, Int.reduceToNat, opLen, callW, q8, p8, p7, p6, p5, p4, p3, p2, p1, undef, zerosN, Refused, hid.1, hid.2, hfl.1, hfl.2, hsz.1, hsz.2]
  refine .of (within_call _ _ _ _) ?_
  simp only [go_sem, Nat.reducePow, Nat.reduceDiv, Nat.reduceMod, Nat.reduceAdd, Nat.reduceSub, Nat.reduceMul, Nat.reduceLeDiff, Nat.reduceLT, Nat.reduceEqDiff, reduceCtorEq, reduceIte, reduceDIte, if_pos rfl, Int.reduceLT, Int.reduceLE, Int.reduceEq, Int.reduceNeg, Int.reduceAdd, Int.reduceSub, Int.reduceMul, Int.reduceToNat, opLen, callW, q8, p8, p7, p6, p5, p4, p3, p2, p1, undef, zerosN, Refused, hid.1, hid.2, hfl.1, hfl.2, hsz.1, hsz.2, h1]

set_option maxHeartbeats 1000000 in
set_option maxRecDepth 20000 in
theorem qput_now2N {σ : St} {b : QB} {Q : QV} (H : QAt σ b Q) (id flow size now : Int) (hP : Q.P id = none) (hid : 0 ≤ id ∧ id ≤ 4611686018427387904) (hF : Q.F flow = none) (hfl : 0 ≤ flow ∧ flow ≤ 2147483647) (hsz : 1 ≤ size ∧ size ≤ 2000) (h1 : 0 ≤ now) (h2 : ¬ now ≤ 2147483647) :
    callX Try.prog 25 [.pointer (some ⟨b.q, 0, none⟩), .agg ⟨[.int .i64 id, .int .i64 flow, .int .i64 size]⟩, .int .i64 now] σ (Refused σ 2) := by
  have gq := H.gq
  obtain ⟨es, ck, gf, hki, hlk, hlen⟩ := H.mf
  obtain ⟨ep, cp, gp, hkp, hlp, hlenp⟩ := H.mp
  have hq : b.q < σ.next := H.lt _ (by simp [QB.core])
  have hfm : b.fm < σ.next := H.lt _ (by simp [QB.core])
  have hpm : b.pm < σ.next := H.lt _ (by simp [QB.core])
  have hfindp := findV_none und2' (i := 0) hkp ((hlp id).trans (by show (Q.P id).map (packOf id) = none; rw [hP]; rfl))
  have hfind := findV_none und2' (i := 0) hki ((hlk flow).trans (by show (Q.F flow).map ptrOf = none; rw [hF]; rfl))
  refine enter (p := q8) Try.func25 rfl stat25 ?_
  simp only [go_sem, Nat.reducePow, Nat.reduceDiv, Nat.reduceMod, Nat.reduceAdd, Nat.reduceSub, Nat.reduceMul, Nat.reduceLeDiff, Nat.reduceLT, Nat.reduceEqDiff, reduceCtorEq, reduceIte, reduceDIte, if_pos rfl, Int.reduceLT, Int.reduceLE, Int.reduceEq, Int.reduceNeg, Int.reduceAdd, Int.reduceSub, Int.reduceMul, Int.reduceToNat, opLen, callW, q8, p8, p7, p6, p5, p4, p3, p2, p1, Try.f25]
  refine .of (qnone_call (q := b.q) (by simp only [go_sem, Nat.reducePow, Nat.reduceDiv, Nat.reduceMod, Nat.reduceAdd, Nat.reduceSub, Nat.reduceMul, Nat.reduceLeDiff, Nat.reduceLT, Nat.reduceEqDiff, reduceCtorEq, reduceIte, reduceDIte, if_pos rfl, Int.reduceLT, Int.reduceLE, Int.reduceEq, Int.reduceNeg, Int.reduceAdd, Int.reduceSub, Int.reduceMul, Int.reduceToNat, opLen, hq, gq]; rfl)) ?_
  simp only [go_sem, Nat.reducePow, Nat.reduceDiv, Nat.reduceMod, Nat.reduceAdd, Nat.reduceSub, Nat.reduceMul, Nat.reduceLeDiff, Nat.reduceLT, Nat.reduceEqDiff, reduceCtorEq, reduceIte, reduceDIte, if_pos rfl, Int.reduceLT, Int.reduceLE, Int.reduceEq, Int.reduceNeg, Int.reduceAdd, Int.reduceSub, Int.reduceMul, Int.reduceToNat, opLen, callW, q8, p8, p7, p6, p5, p4, p3, p2, p1, undef, gq, gf, gp, hq, hfm, hpm, hfind, hfindp, und2']
  refine .of (within_call _ _ _ _) ?_
  simp only [go_sem, Nat.reducePow, Nat.reduceDiv, Nat.reduceMod, Nat.reduceAdd, Nat.reduceSub, Nat.reduceMul, Nat.reduceLeDiff, Nat.reduceLT, Nat.reduceEqDiff, reduceCtorEq, reduceIte, reduceDIte, if_pos rfl, Int.reduceLT, Int.reduceLE, Int.reduceEq, Int.reduceNeg, Int.reduceAdd, Int.reduceSub, Int.reduceMul, Int.reduceToNat, opLen, callW, q8, p8, p7, p6, p5, p4, p3, p2, p1, undef, zerosN, Refused, hid.1, hid.2]
  refine .of (within_call _ _ _ _) ?_
  simp only [go_sem, Nat.reducePow, Nat.reduceDiv, Nat.reduceMod, Nat.reduceAdd, Nat.reduceSub, Nat.reduceMul, Nat.reduceLeDiff, Nat.reduceLT, Nat.reduceEqDiff, reduceCtorEq, reduceIte, reduceDIte, if_pos rfl, Int.reduceLT, Int.reduceLE, Int.reduceEq, Int.reduceNeg, Int.reduceAdd, Int.reduceSub, Int.reduceMul, Int.reduceToNat, opLen, callW, q8, p8, p7, p6, p5, p4, p3, p2, p1, undef, zerosN, Refused, hid.1, hid.2, hfl.1, hfl.2]
  refine .of (within_call _ _ _ _) ?_
  simp only [go_sem, Nat.reducePow, Nat.reduceDiv, Nat.reduceMod, Nat.reduceAdd, Nat.reduceSub, Nat.reduceMul, Nat.reduceLeDiff, Nat.reduceLT, Nat.reduceEqDiff, reduceCtorEq, reduceIte, reduceDIte, if_pos rfl, Int.reduceLT, Int.reduceLE, Int.reduceEq, Int.reduceNeg, Int.reduceAdd, Int.reduceSub, Int.reduceMul, Int.reduceToNat, opLen, callW, q8, p8, p7, p6, p5, p4, p3, p2, p1, undef, zerosN, Refused, hid.1, hid.2, hfl.1, hfl.2, hsz.1, hsz.2]
  refine .of (within_call _ _ _ _) ?_
  simp only [go_sem, Nat.reducePow, Nat.reduceDiv, Nat.reduceMod, Nat.reduceAdd, Nat.reduceSub, Nat.reduceMul, Nat.reduceLeDiff, Nat.reduceLT, Nat.reduceEqDiff, reduceCtorEq, reduceIte, reduceDIte, if_pos rfl, Int.reduceLT, Int.reduceLE, Int.reduceEq, Int.reduceNeg, Int.reduceAdd, Int.reduceSub, Int.reduceMul, Int.reduceToNat, opLen, callW, q8, p8, p7, p6, p5, p4, p3, p2, p1, undef, zerosN, Refused, hid.1, hid.2, hfl.1, hfl.2, hsz.1, hsz.2, h1, h2]

set_option maxHeartbeats 1000000 in
set_option maxRecDepth 20000 in
theorem qput_flow1S {σ : St} {b : QB} {Q : QV} (H : QAt σ b Q) (id flow size now : Int) (hP : Q.P id = none) (hid : 0 ≤ id ∧ id ≤ 4611686018427387904) {x : FlowV} (hF : Q.F flow = some x) (h1 : ¬ 0 ≤ flow) :
    callX Try.prog 25 [.pointer (some ⟨b.q, 0, none⟩), .agg ⟨[.int .i64 id, .int .i64 flow, .int .i64 size]⟩, .int .i64 now] σ (Refused σ 2) := by
  have gq := H.gq
  obtain ⟨es, ck, gf, hki, hlk, hlen⟩ := H.mf
  obtain ⟨ep, cp, gp, hkp, hlp, hlenp⟩ := H.mp
  have hq : b.q < σ.next := H.lt _ (by simp [QB.core])
  have hfm : b.fm < σ.next := H.lt _ (by simp [QB.core])
  have hpm : b.pm < σ.next := H.lt _ (by simp [QB.core])
  have hfindp := findV_none und2' (i := 0) hkp ((hlp id).trans (by show (Q.P id).map (packOf id) = none; rw [hP]; rfl))
  obtain ⟨gx, hxl, hxc⟩ := H.fl flow x hF
  obtain ⟨j, e, hfind, hev, _, _⟩ := findV_some und2' (i := 0) (v := ptrOf x) hki ((hlk flow).trans (by show (Q.F flow).map ptrOf = _; rw [hF]; rfl))
  refine enter (p := q8) Try.func25 rfl stat25 ?_
  simp only [go_sem, Nat.reducePow, Nat.reduceDiv, Nat.reduceMod, Nat.reduceAdd, Nat.reduceSub, Nat.reduceMul, Nat.reduceLeDiff, Nat.reduceLT, Nat.reduceEqDiff, reduceCtorEq, reduceIte, reduceDIte, if_pos rfl, Int.reduceLT, Int.reduceLE, Int.reduceEq, Int.reduceNeg, Int.reduceAdd, Int.reduceSub, Int.reduceMul, Int.reduceToNat, opLen, callW, q8, p8, p7, p6, p5, p4, p3, p2, p1, Try.f25]
  refine .of (qnone_call (q := b.q) (by simp only [go_sem, Nat.reducePow, Nat.reduceDiv, Nat.reduceMod, Nat.reduceAdd, Nat.reduceSub, Nat.reduceMul, Nat.reduceLeDiff, Nat.reduceLT, Nat.reduceEqDiff, reduceCtorEq, reduceIte, reduceDIte, if_pos rfl, Int.reduceLT, Int.reduceLE, Int.reduceEq, Int.reduceNeg, Int.reduceAdd, Int.reduceSub, Int.reduceMul, Int.reduceToNat, opLen, hq, gq]; rfl)) ?_
  simp only [go_sem, Nat.reducePow, Nat.reduceDiv, Nat.reduceMod, Nat.reduceAdd, Nat.reduceSub, Nat.reduceMul, Nat.reduceLeDiff, Nat.reduceLT, Nat.reduceEqDiff, reduceCtorEq, reduceIte, reduceDIte, if_pos rfl, Int.reduceLT, Int.reduceLE, Int.reduceEq, Int.reduceNeg, Int.reduceAdd, Int.reduceSub, Int.reduceMul, Int.reduceToNat, opLen, callW, q8, p8, p7, p6, p5, p4, p3, p2, p1, undef, gq, gf, gp, hq, hfm, hpm, hfind, hev, ptrOf, hfindp, und2']
  refine .of (within_call _ _ _ _) ?_
  simp only [go_sem, Nat.reducePow, Nat.reduceDiv, Nat.reduceMod, Nat.reduceAdd, Nat.reduceSub, Nat.reduceMul, Nat.reduceLeDiff, Nat.reduceLT, Nat.reduceEqDiff, reduceCtorEq, reduceIte, reduceDIte, if_pos rfl, Int.reduceLT, Int.reduceLE, Int.reduceEq, Int.reduceNeg, Int.reduceAdd, Int.reduceSub, Int.reduceMul, Int.reduceToNat, opLen, callW, q8, p8, p7, p6, p5, p4, p3, p2, p1, undef, zerosN, Refused, hid.1, hid.2]
  refine .of (within_call _ _ _ _) ?_
  simp only [go_sem, Nat.reducePow, Nat.reduceDiv, Nat.reduceMod, Nat.reduceAdd, Nat.reduceSub, Nat.reduceMul, Nat.reduceLeDiff, Nat.reduceLT, Nat.reduceEqDiff, reduceCtorEq, reduceIte, reduceDIte, if_pos rfl, Int.reduceLT, Int.reduceLE, Int.reduceEq, Int.reduceNeg, Int.reduceAdd, Int.reduceSub, Int.reduceMul, Int.reduceToNat, opLen, callW, q8, p8, p7, p6, p5, p4, p3, p2, p1, undef, zerosN, Refused, hid.1, hid.2, h1]

set_option maxHeartbeats 1000000 in
set_option maxRecDepth 20000 in
theorem qput_flow2S {σ : St} {b : QB} {Q : QV} (H : QAt σ b Q) (id flow size now : Int) (hP : Q.P id = none) (hid : 0 ≤ id ∧ id ≤ 4611686018427387904) {x : FlowV} (hF : Q.F flow = some x) (h1 : 0 ≤ flow) (h2 : ¬ flow ≤ 2147483647) :
    callX Try.prog 25 [.pointer (some ⟨b.q, 0, none⟩), .agg ⟨[.int .i64 id, .int .i64 flow, .int .i64 size]⟩, .int .i64 now] σ (Refused σ 2) := by
  have gq := H.gq
  obtain ⟨es, ck, gf, hki, hlk, hlen⟩ := H.mf
  obtain ⟨ep, cp, gp, hkp, hlp, hlenp⟩ := H.mp
  have hq : b.q < σ.next := H.lt _ (by simp [QB.core])
  have hfm : b.fm < σ.next := H.lt _ (by simp [QB.core])
  have hpm : b.pm < σ.next := H.lt _ (by simp [QB.core])
  have hfindp := findV_none und2' (i := 0) hkp ((hlp id).trans (by show (Q.P id).map (packOf id) = none; rw [hP]; rfl))
  obtain ⟨gx, hxl, hxc⟩ := H.fl flow x hF
  obtain ⟨j, e, hfind, hev, _, _⟩ := findV_some und2' (i := 0) (v := ptrOf x) hki ((hlk flow).trans (by show (Q.F flow).map ptrOf = _; rw [hF]; rfl))
  refine enter (p := q8) Try.func25 rfl stat25 ?_
  simp only [go_sem, Nat.reducePow, Nat.reduceDiv, Nat.reduceMod, Nat.reduceAdd, Nat.reduceSub, Nat.reduceMul, Nat.reduceLeDiff, Nat.reduceLT, Nat.reduceEqDiff, reduceCtorEq, reduceIte, reduceDIte, if_pos rfl, Int.reduceLT, Int.reduceLE, Int.reduceEq, Int.reduceNeg, Int.reduceAdd, Int.reduceSub, Int.reduceMul, Int.reduceToNat, opLen, callW, q8, p8, p7, p6, p5, p4, p3, p2, p1, Try.f25]
  refine .of (qnone_call (q := b.q) (by simp only [go_sem, Nat.reducePow, Nat.reduceDiv, Nat.reduceMod, Nat.reduceAdd, Nat.reduceSub, Nat.reduceMul, Nat.reduceLeDiff, Nat.reduceLT, Nat.reduceEqDiff, reduceCtorEq, reduceIte, reduceDIte, if_pos rfl, Int.reduceLT, Int.reduceLE, Int.reduceEq, Int.reduceNeg, Int.reduceAdd, Int.reduceSub, Int.reduceMul, Int.reduceToNat, opLen, hq, gq]; rfl)) ?_
  simp only [go_sem, Nat.reducePow, Nat.reduceDiv, Nat.reduceMod, Nat.reduceAdd, Nat.reduceSub, Nat.reduceMul, Nat.reduceLeDiff, Nat.reduceLT, Nat.reduceEqDiff, reduceCtorEq, reduceIte, reduceDIte, if_pos rfl, Int.reduceLT, Int.reduceLE, Int.reduceEq, Int.reduceNeg, Int.reduceAdd, Int.reduceSub, Int.reduceMul, Int.reduceToNat, opLen, callW, q8, p8, p7, p6, p5, p4, p3, p2, p1, undef, gq, gf, gp, hq, hfm, hpm, hfind, hev, ptrOf, hfindp, und2']
  refine .of (within_call _ _ _ _) ?_
  simp only [go_sem, Nat.reducePow, Nat.reduceDiv, Nat.reduceMod, Nat.reduceAdd, Nat.reduceSub, Nat.reduceMul, Nat.reduceLeDiff, Nat.reduceLT, Nat.reduceEqDiff, reduceCtorEq, reduceIte, reduceDIte, if_pos rfl, Int.reduceLT, Int.reduceLE, Int.reduceEq, Int.reduceNeg, Int.reduceAdd, Int.reduceSub, Int.reduceMul, Int.reduceToNat, opLen, callW, q8, p8, p7, p6, p5, p4, p3, p2, p1, undef, zerosN, Refused, hid.1, hid.2]
  refine .of (within_call _ _ _ _) ?_
  simp only [go_sem, Nat.reducePow, Nat.reduceDiv, Nat.reduceMod, Nat.reduceAdd, Nat.reduceSub, Nat.reduceMul, Nat.reduceLeDiff, Nat.reduceLT, Nat.reduceEqDiff, reduceCtorEq, reduceIte, reduceDIte, if_pos rfl, Int.reduceLT, Int.reduceLE, Int.reduceEq, Int.reduceNeg, Int.reduceAdd, Int.reduceSub, Int.reduceMul, Int.reduceToNat, opLen, callW, q8, p8, p7, p6, p5, p4, p3, p2, p1, undef, zerosN, Refused, hid.1, hid.2, h1, h2]

set_option maxHeartbeats 1000000 in
set_option maxRecDepth 20000 in
theorem qput_size1S {σ : St} {b : QB} {Q : QV} (H : QAt σ b Q) (id flow size now : Int) (hP : Q.P id = none) (hid : 0 ≤ id ∧ id ≤ 4611686018427387904) {x : FlowV} (hF : Q.F flow = some x) (hfl : 0 ≤ flow ∧ flow ≤ 2147483647) (h1 : ¬ 1 ≤ size) :
    callX Try.prog 25 [.pointer (some ⟨b.q, 0, none⟩), .agg ⟨[.int .i64 id, .int .i64 flow, .int .i64 size]⟩, .int .i64 now] σ (Refused σ 2) := by
  have gq := H.gq
  obtain ⟨es, ck, gf, hki, hlk, hlen⟩ := H.mf
  obtain ⟨ep, cp, gp, hkp, hlp, hlenp⟩ := H.mp
  have hq : b.q < σ.next := H.lt _ (by simp [QB.core])
  have hfm : b.fm < σ.next := H.lt _ (by simp [QB.core])
  have hpm : b.pm < σ.next := H.lt _ (by simp [QB.core])
  have hfindp := findV_none und2' (i := 0) hkp ((hlp id).trans (by show (Q.P id).map (packOf id) = none; rw [hP]; rfl))
  obtain ⟨gx, hxl, hxc⟩ := H.fl flow x hF
  obtain ⟨j, e, hfind, hev, _, _⟩ := findV_some und2' (i := 0) (v := ptrOf x) hki ((hlk flow).trans (by show (Q.F flow).map ptrOf = _; rw [hF]; rfl))
  refine enter (p := q8) Try.func25 rfl stat25 ?_
  simp only [go_sem, Nat.reducePow, Nat.reduceDiv, Nat.reduceMod, Nat.reduceAdd, Nat.reduceSub, Nat.reduceMul, Nat.reduceLeDiff, Nat.reduceLT, Nat.reduceEqDiff, reduceCtorEq, reduceIte, reduceDIte, if_pos rfl, Int.reduceLT, Int.reduceLE, Int.reduceEq, Int.reduceNeg, Int.reduceAdd, Int.reduceSub, Int.reduceMul, Int.reduceToNat, opLen, callW, q8, p8, p7, p6, p5, p4, p3, p2, p1, Try.f25]
  refine .of (qnone_call (q := b.q) (by simp only [go_sem, Nat.reducePow, Nat.reduceDiv, Nat.reduceMod, Nat.reduceAdd, Nat.reduceSub, Nat.reduceMul, Nat.reduceLeDiff, Nat.reduceLT, Nat.reduceEqDiff, reduceCtorEq, reduceIte, reduceDIte, if_pos rfl, Int.reduceLT, Int.reduceLE, Int.reduceEq, Int.reduceNeg, Int.reduceAdd, Int.reduceSub, Int.reduceMul, Int.reduceToNat, opLen, hq, gq]; rfl)) ?_
  simp only [go_sem, Nat.reducePow, Nat.reduceDiv, Nat.reduceMod, Nat.reduceAdd, Nat.reduceSub, Nat.reduceMul, Nat.reduceLeDiff, Nat.reduceLT, Nat.reduceEqDiff, reduceCtorEq, reduceIte, reduceDIte, if_pos rfl, Int.reduceLT, Int.reduceLE, Int.reduceEq, Int.reduceNeg, Int.reduceAdd, Int.reduceSub, Int.reduceMul, Int.reduceToNat, opLen, callW, q8, p8, p7, p6, p5, p4, p3, p2, p1, undef, gq, gf, gp, hq, hfm, hpm, hfind, hev, ptrOf, hfindp, und2']
  refine .of (within_call _ _ _ _) ?_
  simp only [go_sem, Nat.reducePow, Nat.reduceDiv, Nat.reduceMod, Nat.reduceAdd, Nat.reduceSub, Nat.reduceMul, Nat.reduceLeDiff, Nat.reduceLT, Nat.reduceEqDiff, reduceCtorEq, reduceIte, reduceDIte, if_pos rfl, Int.reduceLT, Int.reduceLE, Int.reduceEq, Int.reduceNeg, Int.reduceAdd, Int.reduceSub, Int.reduceMul, Int.reduceToNat, opLen, callW, q8, p8, p7, p6, p5, p4, p3, p2, p1, undef, zerosN, Refused, hid.1, hid.2]
  refine .of (within_call _ _ _ _) ?_
  simp only [go_sem, Nat.reducePow, Nat.reduceDiv, Nat.reduceMod, Nat.reduceAdd, Nat.reduceSub, Nat.reduceMul, Nat.reduceLeDiff, Nat.reduceLT, Nat.reduceEqDiff, reduceCtorEq, reduceIte, reduceDIte, if_pos rfl, Int.reduceLT, Int.reduceLE, Int.reduceEq, Int.reduceNeg, Int.reduceAdd, Int.reduceSub, Int.reduceMul, Int.reduceToNat, opLen, callW, q8, p8, p7, p6, p5, p4, p3, p2, p1, undef, zerosN, Refused, hid.1, hid.2, hfl.1, hfl.2]
  refine .of (within_call _ _ _ _) ?_
  simp only [go_sem, Nat.reducePow, Nat.reduceDiv, Nat.reduceMod, Nat.reduceAdd, Nat.reduceSub, Nat.reduceMul, Nat.reduceLeDiff, Nat.reduceLT, Nat.reduceEqDiff, reduceCtorEq, reduceIte, reduceDIte, if_pos rfl, Int.reduceLT, Int.reduceLE, Int.reduceEq, Int.reduceNeg, Int.reduceAdd, Int.reduceSub, Int.reduceMul, Int.reduceToNat, opLen, callW, q8, p8, p7, p6, p5, p4, p3, p2, p1, undef, zerosN, Refused, hid.1, hid.2, hfl.1, hfl.2, h1]

set_option maxHeartbeats 1000000 in
set_option maxRecDepth 20000 in
theorem qput_size2S {σ : St} {b : QB} {Q : QV} (H : QAt σ b Q) (id flow size now : Int) (hP : Q.P id = none) (hid : 0 ≤ id ∧ id ≤ 4611686018427387904) {x : FlowV} (hF : Q.F flow = some x) (hfl : 0 ≤ flow ∧ flow ≤ 2147483647) (h1 : 1 ≤ size) (h2 : ¬ size ≤ 2000) :
    callX Try.prog 25 [.pointer (some ⟨b.q, 0, none⟩), .agg ⟨[.int .i64 id, .int .i64 flow, .int .i64 size]⟩, .int .i64 now] σ (Refused σ 2) := by
  have gq := H.gq
  obtain ⟨es, ck, gf, hki, hlk, hlen⟩ := H.mf
  obtain ⟨ep, cp, gp, hkp, hlp, hlenp⟩ := H.mp
  have hq : b.q < σ.next := H.lt _ (by simp [QB.core])
  have hfm : b.fm < σ.next := H.lt _ (by simp [QB.core])
  have hpm : b.pm < σ.next := H.lt _ (by simp [QB.core])
  have hfindp := findV_none und2' (i := 0) hkp ((hlp id).trans (by show (Q.P id).map (packOf id) = none; rw [hP]; rfl))
  obtain ⟨gx, hxl, hxc⟩ := H.fl flow x hF
  obtain ⟨j, e, hfind, hev, _, _⟩ := findV_some und2' (i := 0) (v := ptrOf x) hki ((hlk flow).trans (by show (Q.F flow).map ptrOf = _; rw [hF]; rfl))
  refine enter (p := q8) Try.func25 rfl stat25 ?_
  simp only [go_sem, Nat.reducePow, Nat.reduceDiv, Nat.reduceMod, Nat.reduceAdd, Nat.reduceSub, Nat.reduceMul, Nat.reduceLeDiff, Nat.reduceLT, Nat.reduceEqDiff, reduceCtorEq, reduceIte, reduceDIte, if_pos rfl, Int.reduceLT, Int.reduceLE, Int.reduceEq, Int.reduceNeg, Int.reduceAdd, Int.reduceSub, Int.reduceMul, Int.reduceToNat, opLen, callW, q8, p8, p7, p6, p5, p4, p3, p2, p1, Try.f25]
  refine .of (qnone_call (q := b.q) (by simp only [go_sem, Nat.reducePow, Nat.reduceDiv, Nat.reduceMod, Nat.reduceAdd, Nat.reduceSub, Nat.reduceMul, Nat.reduceLeDiff, Nat.reduceLT, Nat.reduceEqDiff, reduceCtorEq, reduceIte, reduceDIte, if_pos rfl, Int.reduceLT, Int.reduceLE, Int.reduceEq, Int.reduceNeg, Int.reduceAdd, Int.reduceSub, Int.reduceMul, Int.reduceToNat, opLen, hq, gq]; rfl)) ?_
  simp only [go_sem, Nat.reducePow, Nat.reduceDiv, Nat.reduceMod, Nat.reduceAdd, Nat.reduceSub, Nat.reduceMul, Nat.reduceLeDiff, Nat.reduceLT, Nat.reduceEqDiff, reduceCtorEq, reduceIte, reduceDIte, if_pos rfl, Int.reduceLT, Int.reduceLE, Int.reduceEq, Int.reduceNeg, Int.reduceAdd, Int.reduceSub, Int.reduceMul, Int.reduceToNat, opLen, callW, q8, p8, p7, p6, p5, p4, p3, p2, p1, undef, gq, gf, gp, hq, hfm, hpm, hfind, hev, ptrOf, hfindp, und2']
  refine .of (within_call _ _ _ _) ?_
  simp only [go_sem, Nat.reducePow, Nat.reduceDiv, Nat.reduceMod, Nat.reduceAdd, Nat.reduceSub, Nat.reduceMul, Nat.reduceLeDiff, Nat.reduceLT, Nat.reduceEqDiff, reduceCtorEq, reduceIte, reduceDIte, if_pos rfl, Int.reduceLT, Int.reduceLE, Int.reduceEq, Int.reduceNeg, Int.reduceAdd, Int.reduceSub, Int.reduceMul, Int.reduceToNat, opLen, callW, q8, p8, p7, p6, p5, p4, p3, p2, p1, undef, zerosN, Refused, hid.1, hid.2]
  refine .of (within_call _ _ _ _) ?_
  simp only [go_sem, Nat.reducePow, Nat.reduceDiv, Nat.reduceMod, Nat.reduceAdd, Nat.reduceSub, Nat.reduceMul, Nat.reduceLeDiff, Nat.reduceLT, Nat.reduceEqDiff, reduceCtorEq, reduceIte, reduceDIte, if_pos rfl, Int.reduceLT, Int.reduceLE, Int.reduceEq, Int.reduceNeg, Int.reduceAdd, Int.reduceSub, Int.reduceMul, Int.reduceToNat, opLen, callW, q8, p8, p7, p6, p5, p4, p3, p2, p1, undef, zerosN, Refused, hid.1, hid.2, hfl.1, hfl.2]
  refine .of (within_call _ _ _ _) ?_
  simp only [go_sem, Nat.reducePow, Nat.reduceDiv, Nat.reduceMod, Nat.reduceAdd, Nat.reduceSub, Nat.reduceMul, Nat.reduceLeDiff, Nat.reduceLT, Nat.reduceEqDiff, reduceCtorEq, reduceIte, reduceDIte, if_pos rfl, Int.reduceLT, Int.reduceLE, Int.reduceEq, Int.reduceNeg, Int.reduceAdd, Int.reduceSub, Int.reduceMul, Int.reduceToNat, opLen, callW, q8, p8, p7, p6, p5, p4, p3, p2, p1, undef, zerosN, Refused, hid.1, hid.2, hfl.1, hfl.2, h1, h2]

set_option maxHeartbeats 1000000 in
set_option maxRecDepth 20000 in
theorem qput_now1S {σ : St} {b : QB} {Q : QV} (H : QAt σ b Q) (id flow size now : Int) (hP : Q.P id = none) (hid : 0 ≤ id ∧ id ≤ 4611686018427387904) {x : FlowV} (hF : Q.F flow = some x) (hfl : 0 ≤ flow ∧ flow ≤ 2147483647) (hsz : 1 ≤ size ∧ size ≤ 2000) (h1 : ¬ 0 ≤ now) :
    callX Try.prog 25 [.pointer (some ⟨b.q, 0, none⟩), .agg ⟨[.int .i64 id, .int .i64 flow, .int .i64 size]⟩, .int .i64 now] σ (Refused σ 2) := by
  have gq := H.gq
  obtain ⟨es, ck, gf, hki, hlk, hlen⟩ := H.mf
  obtain ⟨ep, cp, gp, hkp, hlp, hlenp⟩ := H.mp
  have hq : b.q < σ.next := H.lt _ (by simp [QB.core])
  have hfm : b.fm < σ.next := H.lt _ (by simp [QB.core])
  have hpm : b.pm < σ.next := H.lt _ (by simp [QB.core])
  have hfindp := findV_none und2' (i := 0) hkp ((hlp id).trans (by show (Q.P id).map (packOf id) = none; rw [hP]; rfl))
  obtain ⟨gx, hxl, hxc⟩ := H.fl flow x hF
  obtain ⟨j, e, hfind, hev, _, _⟩ := findV_some und2' (i := 0) (v := ptrOf x) hki ((hlk flow).trans (by show (Q.F flow).map ptrOf = _; rw [hF]; rfl))
  refine enter (p := q8) Try.func25 rfl stat25 ?_
  simp only [go_sem, Nat.reducePow, Nat.reduceDiv, Nat.reduceMod, Nat.reduceAdd, Nat.reduceSub, Nat.reduceMul, Nat.reduceLeDiff, Nat.reduceLT, Nat.reduceEqDiff, reduceCtorEq, reduceIte, reduceDIte, if_pos rfl, Int.reduceLT, Int.reduceLE, Int.reduceEq, Int.reduceNeg, Int.reduceAdd, Int.reduceSub, Int.reduceMul, Int.reduceToNat, opLen, callW, q8, p8, p7, p6, p5, p4, p3, p2, p1, Try.f25]
  refine .of (qnone_call (q := b.q) (by simp only [go_sem, Nat.reducePow, Nat.reduceDiv, Nat.reduceMod, Nat.reduceAdd, Nat.reduceSub, Nat.reduceMul, Nat.reduceLeDiff, Nat.reduceLT, Nat.reduceEqDiff, reduceCtorEq, reduceIte, reduceDIte, if_pos rfl, Int.reduceLT, Int.reduceLE, Int.reduceEq, Int.reduceNeg, Int.reduceAdd, Int.reduceSub, Int.reduceMul, Int.reduceToNat, opLen, hq, gq]; rfl)) ?_
  simp only [go_sem, Nat.reducePow, Nat.reduceDiv, Nat.reduceMod, Nat.reduceAdd, Nat.reduceSub, Nat.reduceMul, Nat.reduceLeDiff, Nat.reduceLT, Nat.reduceEqDiff, reduceCtorEq, reduceIte, reduceDIte, if_pos rfl, Int.reduceLT, Int.reduceLE, Int.reduceEq, Int.reduceNeg, Int.reduceAdd, Int.reduceSub, Int.reduceMul, Int.reduceToNat, opLen, callW, q8, p8, p7, p6, p5, p4, p3, p2, p1, undef, gq, gf, gp, hq, hfm, hpm, hfind, hev, ptrOf, hfindp, und2']
  refine .of (within_call _ _ _ _) ?_
  simp only [go_sem, Nat.reducePow, Nat.reduceDiv, Nat.reduceMod, Nat.reduceAdd, Nat.reduceSub, Nat.reduceMul, Nat.reduceLeDiff, Nat.reduceLT, Nat.reduceEqDiff, reduceCtorEq, reduceIte, reduceDIte, if_pos rfl, Int.reduceLT, Int.reduceLE, Int.reduceEq, Int.reduceNeg, Int.reduceAdd, Int.reduceSub, Int.reduceMul, Int.reduceToNat, opLen, callW, q8, p8, p7, p6, p5, p4, p3, p2, p1, undef, zerosN, Refused, hid.1, hid.2]
  refine .of (within_call _ _ _ _) ?_
  simp only [go_sem, Nat.reducePow, Nat.reduceDiv, Nat.reduceMod, Nat.reduceAdd, Nat.reduceSub, Nat.reduceMul, Nat.reduceLeDiff, Nat.reduceLT, Nat.reduceEqDiff, reduceCtorEq, reduceIte, reduceDIte, if_pos rfl, Int.reduceLT, Int.reduceLE, Int.reduceEq, Int.reduceNeg, Int.reduceAdd, Int.reduceSub, Int.reduceMul, Int.reduceToNat, opLen, callW, q8, p8, p7, p6, p5, p4, p3, p2, p1, undef, zerosN, Refused, hid.1, hid.2, hfl.1, hfl.2]
  refine .of (within_call _ _ _ _) ?_
  simp only [go_sem, Nat.reducePow, Nat.reduceDiv, Nat.reduceMod, Nat.reduceAdd, Nat.reduceSub, Nat.reduceMul, Nat.reduceLeDiff, Nat.reduceLT, Nat.reduceEqDiff, reduceCtorEq, reduceIte, reduceDIte, if_pos rfl, Int.reduceLT, Int.reduceLE, Int.reduceEq, Int.reduceNeg, Int.reduceAdd, Int.reduceSub, Int.reduceMul, Int.reduceToNat, opLen, callW, q8, p8, p7, p6, p5, p4, p3, p2, p1, undef, zerosN, Refused, hid.1, hid.2, hfl.1, hfl.2, hsz.1, hsz.2]
  refine .of (within_call _ _ _ _) ?_
  simp only [go_sem, Nat.reducePow, Nat.reduceDiv, Nat.reduceMod, Nat.reduceAdd, Nat.reduceSub, Nat.reduceMul, Nat.reduceLeDiff, Nat.reduceLT, Nat.reduceEqDiff, reduceCtorEq, reduceIte, reduceDIte, if_pos rfl, Int.reduceLT, Int.reduceLE, Int.reduceEq, Int.reduceNeg, Int.reduceAdd, Int.reduceSub, Int.reduceMul, Int.reduceToNat, opLen, callW, q8, p8, p7, p6, p5, p4, p3, p2, p1, undef, zerosN, Refused, hid.1, hid.2, hfl.1, hfl.2, hsz.1, hsz.2, h1]

set_option maxHeartbeats 1000000 in
set_option maxRecDepth 20000 in
theorem qput_now2S {σ : St} {b : QB} {Q : QV} (H : QAt σ b Q) (id flow size now : Int) (hP : Q.P id = none) (hid : 0 ≤ id ∧ id ≤ 4611686018427387904) {x : FlowV} (hF : Q.F flow = some x) (hfl : 0 ≤ flow ∧ flow ≤ 2147483647) (hsz : 1 ≤ size ∧ size ≤ 2000) (h1 : 0 ≤ now) (h2 : ¬ now ≤ 2147483647) :
    callX Try.prog 25 [.pointer (some ⟨b.q, 0, none⟩), .agg ⟨[.int .i64 id, .int .i64 flow, .int .i64 size]⟩, .int .i64 now] σ (Refused σ 2) := by
  have gq := H.gq
  obtain ⟨es, ck, gf, hki, hlk, hlen⟩ := H.mf
  obtain ⟨ep, cp, gp, hkp, hlp, hlenp⟩ := H.mp
  have hq : b.q < σ.next := H.lt _ (by simp [QB.core])
  have hfm : b.fm < σ.next := H.lt _ (by simp [QB.core])
  have hpm : b.pm < σ.next := H.lt _ (by simp [QB.core])
  have hfindp := findV_none und2' (i := 0) hkp ((hlp id).trans (by show (Q.P id).map (packOf id) = none; rw [hP]; rfl))
  obtain ⟨gx, hxl, hxc⟩ := H.fl flow x hF
  obtain ⟨j, e, hfind, hev, _, _⟩ := findV_some und2' (i := 0) (v := ptrOf x) hki ((hlk flow).trans (by show (Q.F flow).map ptrOf = _; rw [hF]; rfl))
  refine enter (p := q8) Try.func25 rfl stat25 ?_
  simp only [go_sem, Nat.reducePow, Nat.reduceDiv, Nat.reduceMod, Nat.reduceAdd, Nat.reduceSub, Nat.reduceMul, Nat.reduceLeDiff, Nat.reduceLT, Nat.reduceEqDiff, reduceCtorEq, reduceIte, reduceDIte, if_pos rfl, Int.reduceLT, Int.reduceLE, Int.reduceEq, Int.reduceNeg, Int.reduceAdd, Int.reduceSub, Int.reduceMul, Int.reduceToNat, opLen, callW, q8, p8, p7, p6, p5, p4, p3, p2, p1, Try.f25]
  refine .of (qnone_call (q := b.q) (by simp only [go_sem, Nat.reducePow, Nat.reduceDiv, Nat.reduceMod, Nat.reduceAdd, Nat.reduceSub, Nat.reduceMul, Nat.reduceLeDiff, Nat.reduceLT, Nat.reduceEqDiff, reduceCtorEq, reduceIte, reduceDIte, if_pos rfl, Int.reduceLT, Int.reduceLE, Int.reduceEq, Int.reduceNeg, Int.reduceAdd, Int.reduceSub, Int.reduceMul, Int.reduceToNat, opLen, hq, gq]; rfl)) ?_
  simp only [go_sem, Nat.reducePow, Nat.reduceDiv, Nat.reduceMod, Nat.reduceAdd, Nat.reduceSub, Nat.reduceMul, Nat.reduceLeDiff, Nat.reduceLT, Nat.reduceEqDiff, reduceCtorEq, reduceIte, reduceDIte, if_pos rfl, Int.reduceLT, Int.reduceLE, Int.reduceEq, Int.reduceNeg, Int.reduceAdd, Int.reduceSub, Int.reduceMul, Int.reduceToNat, opLen, callW, q8, p8, p7, p6, p5, p4, p3, p2, p1, undef, gq, gf, gp, hq, hfm, hpm, hfind, hev, ptrOf, hfindp, und2']
  refine .of (within_call _ _ _ _) ?_
  simp only [go_sem, Nat.reducePow, Nat.reduceDiv, Nat.reduceMod, Nat.reduceAdd, Nat.reduceSub, Nat.reduceMul, Nat.reduceLeDiff, Nat.reduceLT, Nat.reduceEqDiff, reduceCtorEq, reduceIte, reduceDIte, if_pos rfl, Int.reduceLT, Int.reduceLE, Int.reduceEq, Int.reduceNeg, Int.reduceAdd, Int.reduceSub, Int.reduceMul, Int.reduceToNat, opLen, callW, q8, p8, p7, p6, p5, p4, p3, p2, p1, undef, zerosN, Refused, hid.1, hid.2]
  refine .of (within_call _ _ _ _) ?_
  simp only [go_sem, Nat.reducePow, Nat.reduceDiv, Nat.reduceMod, Nat.reduceAdd, Nat.reduceSub, Nat.reduceMul, Nat.reduceLeDiff, Nat.reduceLT, Nat.reduceEqDiff, reduceCtorEq, reduceIte, reduceDIte, if_pos rfl, Int.reduceLT, Int.reduceLE, Int.reduceEq, Int.reduceNeg, Int.reduceAdd, Int.reduceSub, Int.reduceMul, Int.reduceToNat, opLen, callW, q8, p8, p7, p6, p5, p4, p3, p2, p1, undef, zerosN, Refused, hid.1, hid.2, hfl.1, hfl.2]
  refine .of (within_call _ _ _ _) ?_
  simp only [go_sem, Nat.reducePow, Nat.reduceDiv, Nat.reduceMod, Nat.reduceAdd, Nat.reduceSub, Nat.reduceMul, Nat.reduceLeDiff, Nat.reduceLT, Nat.reduceEqDiff, reduceCtorEq, reduceIte, reduceDIte, if_pos rfl, Int.reduceLT, Int.reduceLE, Int.reduceEq, Int.reduceNeg, Int.reduceAdd, Int.reduceSub, Int.reduceMul, Int.reduceToNat, opLen, callW, q8, p8, p7, p6, p5, p4, p3, p2, p1, undef, zerosN, Refused, hid.1, hid.2, hfl.1, hfl.2, hsz.1, hsz.2]
  refine .of (within_call _ _ _ _) ?_
  simp only [go_sem, Nat.reducePow, Nat.reduceDiv, Nat.reduceMod, Nat.reduceAdd, Nat.reduceSub, Nat.reduceMul, Nat.reduceLeDiff, Nat.reduceLT, Nat.reduceEqDiff, reduceCtorEq, reduceIte, reduceDIte, if_pos rfl, Int.reduceLT, Int.reduceLE, Int.reduceEq, Int.reduceNeg, Int.reduceAdd, Int.reduceSub, Int.reduceMul, Int.reduceToNat, opLen, callW, q8, p8, p7, p6, p5, p4, p3, p2, p1, undef, zerosN, Refused, hid.1, hid.2, hfl.1, hfl.2, hsz.1, hsz.2, h1, h2]

set_option maxHeartbeats 1000000 in
set_option maxRecDepth 20000 in
theorem qput_none {σ : St} {b : QB} {Q : QV} (H : QAt σ b Q) (id flow size now : Int) (hP : Q.P id = none) (hid : 0 ≤ id ∧ id ≤ 4611686018427387904) (hF : Q.F flow = none) (hfl : 0 ≤ flow ∧ flow ≤ 2147483647) (hsz : 1 ≤ size ∧ size ≤ 2000) (hnow : 0 ≤ now ∧ now ≤ 2147483647) :
    callX Try.prog 25 [.pointer (some ⟨b.q, 0, none⟩), .agg ⟨[.int .i64 id, .int .i64 flow, .int .i64 size]⟩, .int .i64 now] σ (Refused σ 5) := by
  have gq := H.gq
  obtain ⟨es, ck, gf, hki, hlk, hlen⟩ := H.mf
  obtain ⟨ep, cp, gp, hkp, hlp, hlenp⟩ := H.mp
  have hq : b.q < σ.next := H.lt _ (by simp [QB.core])
  have hfm : b.fm < σ.next := H.lt _ (by simp [QB.core])
  have hpm : b.pm < σ.next := H.lt _ (by simp [QB.core])
  have hfindp := findV_none und2' (i := 0) hkp ((hlp id).trans (by show (Q.P id).map (packOf id) = none; rw [hP]; rfl))
  have hfind := findV_none und2' (i := 0) hki ((hlk flow).trans (by show (Q.F flow).map ptrOf = none; rw [hF]; rfl))
  refine enter (p := q8) Try.func25 rfl stat25 ?_
  simp only [go_sem, Nat.reducePow, Nat.reduceDiv, Nat.reduceMod, Nat.reduceAdd, Nat.reduceSub, Nat.reduceMul, Nat.reduceLeDiff, Nat.reduceLT, Nat.reduceEqDiff, reduceCtorEq, reduceIte, reduceDIte, if_pos rfl, Int.reduceLT, Int.reduceLE, Int.reduceEq, Int.reduceNeg, Int.reduceAdd, Int.reduceSub, Int.reduceMul, Int.reduceToNat, opLen, callW, q8, p8, p7, p6, p5, p4, p3, p2, p1, Try.f25]
  refine .of (qnone_call (q := b.q) (by simp only [go_sem, Nat.reducePow, Nat.reduceDiv, Nat.reduceMod, Nat.reduceAdd, Nat.reduceSub, Nat.reduceMul, Nat.reduceLeDiff, Nat.reduceLT, Nat.reduceEqDiff, reduceCtorEq, reduceIte, reduceDIte, if_pos rfl, Int.reduceLT, Int.reduceLE, Int.reduceEq, Int.reduceNeg, Int.reduceAdd, Int.reduceSub, Int.reduceMul, Int.reduceToNat, opLen, hq, gq]; rfl)) ?_
  simp only [go_sem, Nat.reducePow, Nat.reduceDiv, Nat.reduceMod, Nat.reduceAdd, Nat.reduceSub, Nat.reduceMul, Nat.reduceLeDiff, Nat.reduceLT, Nat.reduceEqDiff, reduceCtorEq, reduceIte, reduceDIte, if_pos rfl, Int.reduceLT, Int.reduceLE, Int.reduceEq, Int.reduceNeg, Int.reduceAdd, Int.reduceSub, Int.reduceMul, Int.reduceToNat, opLen, callW, q8, p8, p7, p6, p5, p4, p3, p2, p1, undef, gq, gf, gp, hq, hfm, hpm, hfind, hfindp, und2']
  refine .of (within_call _ _ _ _) ?_
  simp only [go_sem, Nat.reducePow, Nat.reduceDiv, Nat.reduceMod, Nat.reduceAdd, Nat.reduceSub, Nat.reduceMul, Nat.reduceLeDiff, Nat.reduceLT, Nat.reduceEqDiff, reduceCtorEq, reduceIte, reduceDIte, if_pos rfl, Int.reduceLT, Int.reduceLE, Int.reduceEq, Int.reduceNeg, Int.reduceAdd, Int.reduceSub, Int.reduceMul, Int.reduceToNat, opLen, callW, q8, p8, p7, p6, p5, p4, p3, p2, p1, undef, zerosN, Refused, hid.1, hid.2]
  refine .of (within_call _ _ _ _) ?_
  simp only [go_sem, Nat.reducePow, Nat.reduceDiv, Nat.reduceMod, Nat.reduceAdd, Nat.reduceSub, Nat.reduceMul, Nat.reduceLeDiff, Nat.reduceLT, Nat.reduceEqDiff, reduceCtorEq, reduceIte, reduceDIte, if_pos rfl, Int.reduceLT, Int.reduceLE, Int.reduceEq, Int.reduceNeg, Int.reduceAdd, Int.reduceSub, Int.reduceMul, Int.reduceToNat, opLen, callW, q8, p8, p7, p6, p5, p4, p3, p2, p1, undef, zerosN, Refused, hid.1, hid.2, hfl.1, hfl.2]
  refine .of (within_call _ _ _ _) ?_
  simp only [go_sem, Nat.reducePow, Nat.reduceDiv, Nat.reduceMod, Nat.reduceAdd, Nat.reduceSub, Nat.reduceMul, Nat.reduceLeDiff, Nat.reduceLT, Nat.reduceEqDiff, reduceCtorEq, reduceIte, reduceDIte, if_pos rfl, Int.reduceLT, Int.reduceLE, Int.reduceEq, Int.reduceNeg, Int.reduceAdd, Int.reduceSub, Int.reduceMul, Int.reduceToNat, opLen, callW, q8, p8, p7, p6, p5, p4, p3, p2, p1, undef, zerosN, Refused, hid.1, hid.2, hfl.1, hfl.2, hsz.1, hsz.2]
  refine .of (within_call _ _ _ _) ?_
  simp only [go_sem, Nat.reducePow, Nat.reduceDiv, Nat.reduceMod, Nat.reduceAdd, Nat.reduceSub, Nat.reduceMul, Nat.reduceLeDiff, Nat.reduceLT, Nat.reduceEqDiff, reduceCtorEq, reduceIte, reduceDIte, if_pos rfl, Int.reduceLT, Int.reduceLE, Int.reduceEq, Int.reduceNeg, Int.reduceAdd, Int.reduceSub, Int.reduceMul, Int.reduceToNat, opLen, callW, q8, p8, p7, p6, p5, p4, p3, p2, p1, undef, zerosN, Refused, hid.1, hid.2, hfl.1, hfl.2, hsz.1, hsz.2, hnow.1, hnow.2]

theorem qput_arg {σ : St} {b : QB} {Q : QV} (H : QAt σ b Q) (id flow size now : Int) (hP : Q.P id = none) (hid : 0 ≤ id ∧ id ≤ 4611686018427387904) (h : ¬ ((0 ≤ flow ∧ flow ≤ 2147483647) ∧ (1 ≤ size ∧ size ≤ 2000) ∧ (0 ≤ now ∧ now ≤ 2147483647))) :
    callX Try.prog 25 [.pointer (some ⟨b.q, 0, none⟩), .agg ⟨[.int .i64 id, .int .i64 flow, .int .i64 size]⟩, .int .i64 now] σ (Refused σ 2) := by
  cases hF : Q.F flow with
  | none =>
    by_cases h1 : 0 ≤ flow
    · by_cases h2 : flow ≤ 2147483647
      · by_cases h3 : 1 ≤ size
        · by_cases h4 : size ≤ 2000
          · by_cases h5 : 0 ≤ now
            · by_cases h6 : now ≤ 2147483647
              · exact absurd ⟨⟨h1, h2⟩, ⟨h3, h4⟩, h5, h6⟩ h
              · exact qput_now2N H id flow size now hP hid hF ⟨h1, h2⟩ ⟨h3, h4⟩ h5 h6
            · exact qput_now1N H id flow size now hP hid hF ⟨h1, h2⟩ ⟨h3, h4⟩ h5
          · exact qput_size2N H id flow size now hP hid hF ⟨h1, h2⟩ h3 h4
        · exact qput_size1N H id flow size now hP hid hF ⟨h1, h2⟩ h3
      · exact qput_flow2N H id flow size now hP hid hF h1 h2
    · exact qput_flow1N H id flow size now hP hid hF h1
  | some x =>
    by_cases h1 : 0 ≤ flow
    · by_cases h2 : flow ≤ 2147483647
      · by_cases h3 : 1 ≤ size
        · by_cases h4 : size ≤ 2000
          · by_cases h5 : 0 ≤ now
            · by_cases h6 : now ≤ 2147483647
              · exact absurd ⟨⟨h1, h2⟩, ⟨h3, h4⟩, h5, h6⟩ h
              · exact qput_now2S H id flow size now hP hid hF ⟨h1, h2⟩ ⟨h3, h4⟩ h5 h6
            · exact qput_now1S H id flow size now hP hid hF ⟨h1, h2⟩ ⟨h3, h4⟩ h5
          · exact qput_size2S H id flow size now hP hid hF ⟨h1, h2⟩ h3 h4
        · exact qput_size1S H id flow size now hP hid hF ⟨h1, h2⟩ h3
      · exact qput_flow2S H id flow size now hP hid hF h1 h2
    · exact qput_flow1S H id flow size now hP hid hF h1

set_option maxHeartbeats 1000000 in
set_option maxRecDepth 20000 in
theorem qtake_empty {σ : St} {b : QB} {Q : QV} (H : QAt σ b Q) (hL : Q.L = []) :
    callX Try.prog 26 [.pointer (some ⟨b.q, 0, none⟩)] σ fun e σ' l => e = .ret (.tuple ⟨[.agg ⟨[.int .i64 0, .int .i64 0, .int .i64 0]⟩, .agg ⟨[.int .i64 0, .int .i64 0]⟩, .bool false]⟩) ∧ ∀ c ∈ l, σ.next ≤ c := by
  have gq := H.gq
  have hq : b.q < σ.next := H.lt _ (by simp [QB.core])
  refine enter (p := q8) Try.func26 rfl stat26 ?_
  simp only [go_sem, Nat.reducePow, Nat.reduceDiv, Nat.reduceMod, Nat.reduceAdd, Nat.reduceSub, Nat.reduceMul, Nat.reduceLeDiff, Nat.reduceLT, Nat.reduceEqDiff, reduceCtorEq, reduceIte, reduceDIte, if_pos rfl, Int.reduceLT, Int.reduceLE, Int.reduceEq, Int.reduceNeg, Int.reduceAdd, Int.reduceSub, Int.reduceMul, Int.reduceToNat, opLen, callW, q8, p8, p7, p6, p5, p4, p3, p2, p1, Try.f26]
  refine .of (qnone_call (q := b.q) (by simp only [go_sem, Nat.reducePow, Nat.reduceDiv, Nat.reduceMod, Nat.reduceAdd, Nat.reduceSub, Nat.reduceMul, Nat.reduceLeDiff, Nat.reduceLT, Nat.reduceEqDiff, reduceCtorEq, reduceIte, reduceDIte, if_pos rfl, Int.reduceLT, Int.reduceLE, Int.reduceEq, Int.reduceNeg, Int.reduceAdd, Int.reduceSub, Int.reduceMul, Int.reduceToNat, opLen, hq, gq]; rfl)) ?_
  simp only [go_sem, Nat.reducePow, Nat.reduceDiv, Nat.reduceMod, Nat.reduceAdd, Nat.reduceSub, Nat.reduceMul, Nat.reduceLeDiff, Nat.reduceLT, Nat.reduceEqDiff, reduceCtorEq, reduceIte, reduceDIte, if_pos rfl, Int.reduceLT, Int.reduceLE, Int.reduceEq, Int.reduceNeg, Int.reduceAdd, Int.reduceSub, Int.reduceMul, Int.reduceToNat, opLen, callW, q8, p8, p7, p6, p5, p4, p3, p2, p1]
  refine .of (qlen_call (H.keep ?_ ?_)) ?_
  · simp only [go_sem, Nat.reducePow, Nat.reduceDiv, Nat.reduceMod, Nat.reduceAdd, Nat.reduceSub, Nat.reduceMul, Nat.reduceLeDiff, Nat.reduceLT, Nat.reduceEqDiff, reduceCtorEq, reduceIte, reduceDIte, if_pos rfl, Int.reduceLT, Int.reduceLE, Int.reduceEq, Int.reduceNeg, Int.reduceAdd, Int.reduceSub, Int.reduceMul, Int.reduceToNat, opLen]
  · intro c hc
    have : c < σ.next := by
      rcases hc with hc | ⟨k, z, hz, rfl⟩
      · exact H.lt c hc
      · exact (H.fl k z hz).2.1
    simp only [go_sem, Nat.reducePow, Nat.reduceDiv, Nat.reduceMod, Nat.reduceAdd, Nat.reduceSub, Nat.reduceMul, Nat.reduceLeDiff, Nat.reduceLT, Nat.reduceEqDiff, reduceCtorEq, reduceIte, reduceDIte, if_pos rfl, Int.reduceLT, Int.reduceLE, Int.reduceEq, Int.reduceNeg, Int.reduceAdd, Int.reduceSub, Int.reduceMul, Int.reduceToNat, opLen, this]
  have l0 : ((([] : List Item).length : Int) == 0) = true := rfl
  rw [hL]
  simp only [go_sem, Nat.reducePow, Nat.reduceDiv, Nat.reduceMod, Nat.reduceAdd, Nat.reduceSub, Nat.reduceMul, Nat.reduceLeDiff, Nat.reduceLT, Nat.reduceEqDiff, reduceCtorEq, reduceIte, reduceDIte, if_pos rfl, Int.reduceLT, Int.reduceLE, Int.reduceEq, Int.reduceNeg, Int.reduceAdd, Int.reduceSub, Int.reduceMul, Int.reduceToNat, opLen, callW, q8, p8, p7, p6, p5, p4, p3, p2, p1, zerosN, l0, undef]

end Go.Ab

set_option linter.unusedSimpArgs false
set_option linter.unusedVariables false
namespace Go.Ab
open Go.Proofs

def putQ (Q : QV) (id flow size : Int) (x : FlowV) (n d : Int) : QV :=
  { Q with F := updF Q.F flow (some { x with bytes := x.bytes + size, n := n, d := d }), P := updF Q.P id (some (flow, size)), np := Q.np + 1, L := riseL (Q.L.length + 1) (Q.L ++ [⟨id, n, d, Q.t + 1⟩]) Q.L.length, t := Q.t + 1 }

def takeQ (Q : QV) (id flow size : Int) (x : FlowV) : QV :=
  { Q with F := updF Q.F flow (some { x with bytes := x.bytes - size }), P := updF Q.P id none, np := Q.np - 1, L := outL Q.L 0 }

theorem QAt.in_foot {σ : St} {b : QB} {Q : QV} (H : QAt σ b Q) {c : Nat} (h : Foot b Q c) : c < σ.next := by
  rcases h with h | ⟨k, x, hx, rfl⟩
  · exact H.lt c h
  · exact (H.fl k x hx).2.1

/-- Behind i packets. -/
structure BQ (σ : St) (b : QB) (Q : QV) (i lo : Nat) : Prop where
  at' : QAt σ b Q
  foot : ∀ c, Foot b Q c → lo ≤ c
  free : ∀ k : Int, (i : Int) < k → Q.P k = none
  np : Q.np ≤ i
  len : Q.L.length ≤ i
  t : 0 ≤ Q.t ∧ Q.t ≤ i
  ids : ∀ y ∈ Q.L, 1 ≤ y.id ∧ y.id ≤ i

theorem BQ.keep {σ σ' : St} {b : QB} {Q : QV} {i lo : Nat} (H : BQ σ b Q i lo) (hn : σ.next ≤ σ'.next) (hg : ∀ c, Foot b Q c → c < σ.next → σ'.get c = σ.get c) : BQ σ' b Q i lo :=
  { H with at' := H.at'.keep hn fun c hc => hg c hc (H.at'.in_foot hc) }

theorem BQ.next {σ : St} {b : QB} {Q : QV} {i lo : Nat} (H : BQ σ b Q i lo) : BQ σ b Q (i + 1) lo :=
  ⟨H.at', H.foot, fun k hk => H.free k (by omega), Nat.le_succ_of_le H.np, Nat.le_succ_of_le H.len, by have := H.t; omega, fun y hy => by have := H.ids y hy; omega⟩

theorem BQ.put {σ σ' : St} {b : QB} {Q : QV} {i lo : Nat} {flow size n d : Int} {x : FlowV} {l : Log} (H : BQ σ b Q i lo) (hx : Q.F flow = some x) (hlo : lo ≤ σ.next) (h : PutR σ b Q ((i + 1 : Nat) : Int) flow size x n d σ' l) :
    (∀ c ∈ l, Foot b Q c ∨ σ.next ≤ c) ∧ ∃ A', BQ σ' { b with A := A' } (putQ Q ((i + 1 : Nat) : Int) flow size x n d) (i + 1) lo ∧ ∀ c, Foot { b with A := A' } (putQ Q ((i + 1 : Nat) : Int) flow size x n d) c → Foot b Q c ∨ σ.next ≤ c := by
  obtain ⟨h1, A', h2, h3⟩ := h
  have hfoot : ∀ c, Foot { b with A := A' } (putQ Q ((i + 1 : Nat) : Int) flow size x n d) c → Foot b Q c ∨ σ.next ≤ c := by
    intro c hc
    rcases hc with hc | ⟨k, y, hy, rfl⟩
    · simp only [QB.core, List.mem_cons] at hc
      rcases hc with h | h | h | h | h | h
      · exact .inl (.inl (by simp [QB.core, h]))
      · exact .inl (.inl (by simp [QB.core, h]))
      · exact .inl (.inl (by simp [QB.core, h]))
      · exact .inl (.inl (by simp [QB.core, h]))
      · exact .inl (.inl (by simp [QB.core, h]))
      · rcases h2 c h with h | h
        · exact .inl (.inl (by simp [QB.core, h]))
        · exact .inr h
    · by_cases hk : k = flow
      · subst hk
        have e : updF Q.F k (some { x with bytes := x.bytes + size, n := n, d := d }) k = some y := hy
        simp only [updF, if_true, Option.some.injEq] at e
        subst e
        exact .inl (.inr ⟨k, x, hx, rfl⟩)
      · have e : updF Q.F flow (some { x with bytes := x.bytes + size, n := n, d := d }) k = some y := hy
        simp only [updF, hk, if_false] at e
        exact .inl (.inr ⟨k, y, e, rfl⟩)
  refine ⟨h1, A', ⟨h3, fun c hc => ?_, fun k hk => ?_, ?_, ?_, ?_, ?_⟩, hfoot⟩
  · rcases hfoot c hc with h | h
    · exact H.foot c h
    · omega
  · have e' : ¬ k = ((i + 1 : Nat) : Int) := by omega
    show updF Q.P ((i + 1 : Nat) : Int) _ k = none
    simp only [updF, e', if_false]
    exact H.free k (by omega)
  · show Q.np + 1 ≤ i + 1
    have := H.np; omega
  · show (riseL _ _ _).length ≤ i + 1
    have := H.len
    rw [riseL_length, List.length_append]
    show Q.L.length + 1 ≤ i + 1
    omega
  · show 0 ≤ Q.t + 1 ∧ Q.t + 1 ≤ ((i + 1 : Nat) : Int)
    have := H.t; omega
  · intro y hy
    have hy := (riseL_mem_iff _ _ _).1 hy
    rw [List.mem_append, List.mem_singleton] at hy
    rcases hy with hy | rfl
    · have := H.ids y hy; omega
    · show 1 ≤ ((i + 1 : Nat) : Int) ∧ ((i + 1 : Nat) : Int) ≤ ((i + 1 : Nat) : Int); omega

theorem BQ.take {σ σ' : St} {b : QB} {Q : QV} {i lo : Nat} {id flow size : Int} {x : FlowV} {l : Log} {y : Item} (H : BQ σ b Q i lo) (hy : Q.L[0]? = some y) (hid : y.id = id) (hx : Q.F flow = some x) (h : TakeR σ b Q id flow size x σ' l) :
    (∀ c ∈ l, Foot b Q c ∨ σ.next ≤ c) ∧ BQ σ' b (takeQ Q id flow size x) i lo ∧ ∀ c, Foot b (takeQ Q id flow size x) c → Foot b Q c := by
  obtain ⟨h1, h3⟩ := h
  have hfoot : ∀ c, Foot b (takeQ Q id flow size x) c → Foot b Q c := by
    intro c hc
    rcases hc with hc | ⟨k, z, hz, rfl⟩
    · exact .inl hc
    · by_cases hk : k = flow
      · subst hk
        have e : updF Q.F k (some { x with bytes := x.bytes - size }) k = some z := hz
        simp only [updF, if_true, Option.some.injEq] at e
        subst e
        exact .inr ⟨k, x, hx, rfl⟩
      · have e : updF Q.F flow (some { x with bytes := x.bytes - size }) k = some z := hz
        simp only [updF, hk, if_false] at e
        exact .inr ⟨k, z, e, rfl⟩
  have hd := H.at'.hx.toV.dist
  refine ⟨h1, ⟨h3, fun c hc => H.foot c (hfoot c hc), fun k hk => ?_, ?_, ?_, H.t, fun z hz => H.ids z ((outL_mem hd hy).1 hz).1⟩, hfoot⟩
  · show updF Q.P id none k = none
    simp only [updF]
    split
    · rfl
    · exact H.free k hk
  · show Q.np - 1 ≤ i
    have := H.np; omega
  · show (outL Q.L 0).length ≤ i
    rw [outL_length hy]
    have := H.len; omega

/-- A flow of a queue, ahead of the i-th packet. -/
def FL (Q : QV) (R : Int → Nat) (F Z A : Nat → Int) (i k : Nat) (f : Int) : Prop :=
  ∃ x, Q.F f = some x ∧ x.rate = R f ∧ x.room = 1000000000 ∧ -(2000 * (k : Int)) ≤ x.bytes ∧ x.bytes ≤ 2000 * (k : Int) ∧ x.n = (fN (ck R F Z A f i) (R f) : Nat) ∧ x.d = (fD (ck R F Z A f i) (R f) : Nat)

variable {R : Int → Nat} {F Z A : Nat → Int} {Q : QV} {i k : Nat} {f : Int}

theorem FL.not (h : FL Q R F Z A i k f) (hn : ¬ (F i = f ∧ vd F Z A i)) : FL Q R F Z A (i + 1) (k + 1) f := by
  obtain ⟨x, h1, h2, h3, h4, h5, h6, h7⟩ := h
  rw [← ck_not (R := R) hn] at h6 h7
  exact ⟨x, h1, h2, h3, by omega, by omega, h6, h7⟩

theorem FL.put (h : FL Q R F Z A i k f) {id size n d : Int} {x : FlowV} (hx : Q.F (F i) = some x) (hv : vd F Z A i) (hn : n = (fN (ck R F Z A (F i) (i + 1)) (R (F i)) : Nat)) (hd : d = (fD (ck R F Z A (F i) (i + 1)) (R (F i)) : Nat)) (hs : size = Z i) : FL (putQ Q id (F i) size x n d) R F Z A (i + 1) (k + 1) f := by
  by_cases e : f = F i
  · subst e
    obtain ⟨y, h1, h2, h3, h4, h5, h6, h7⟩ := h
    rw [hx] at h1
    cases h1
    have hz := hv.2.1
    refine ⟨{ x with bytes := x.bytes + size, n := n, d := d }, by show updF Q.F (F i) _ (F i) = _; exact if_pos rfl, h2, h3, ?_, ?_, hn, hd⟩
    · show _ ≤ x.bytes + size; omega
    · show x.bytes + size ≤ _; omega
  · obtain ⟨y, h1, h2⟩ := h.not (fun h => e h.1.symm)
    refine ⟨y, ?_, h2⟩
    show updF Q.F (F i) _ f = some y
    simp only [updF, e, if_false, h1]

theorem FL.take (h : FL Q R F Z A i k f) {id g size : Int} {x : FlowV} (hx : Q.F g = some x) (hs : 0 ≤ size ∧ size ≤ 2000) : FL (takeQ Q id g size x) R F Z A i (k + 1) f := by
  by_cases e : f = g
  · subst e
    obtain ⟨y, h1, h2, h3, h4, h5, h6⟩ := h
    rw [hx] at h1
    cases h1
    refine ⟨{ x with bytes := x.bytes - size }, by show updF Q.F f _ f = _; exact if_pos rfl, h2, h3, ?_, ?_, h6⟩
    · show _ ≤ x.bytes - size; omega
    · show x.bytes - size ≤ _; omega
  · obtain ⟨y, h1, h2, h3, h4, h5, h6⟩ := h
    refine ⟨y, ?_, h2, h3, by omega, by omega, h6⟩
    show updF Q.F g _ f = some y
    simp only [updF, e, if_false, h1]

theorem FL.more (h : FL Q R F Z A i k f) : FL Q R F Z A i (k + 1) f := by
  obtain ⟨y, h1, h2, h3, h4, h5, h6⟩ := h
  exact ⟨y, h1, h2, h3, by omega, by omega, h6⟩

/-- The items of a queue, ahead of the i-th packet: their keys are their flow's clocks; those of the flow f come behind the last one taken. -/
structure IL (Q : QV) (R : Int → Nat) (F Z A : Nat → Int) (i : Nat) (f last : Int) : Prop where
  hp : Hp Q.L
  mem : ∀ y ∈ Q.L, ∃ j : Nat, j < i ∧ y.id = ((j + 1 : Nat) : Int) ∧ vd F Z A j ∧ y.n = (fN (ck R F Z A (F j) (j + 1)) (R (F j)) : Nat) ∧ y.d = (fD (ck R F Z A (F j) (j + 1)) (R (F j)) : Nat) ∧ Q.P ((j + 1 : Nat) : Int) = some (F j, Z j) ∧ (F j = f → last < y.id)
  last : 0 ≤ last ∧ last ≤ i

theorem IL.next {last : Int} (h : IL Q R F Z A i f last) : IL Q R F Z A (i + 1) f last :=
  ⟨h.hp, fun y hy => by
    obtain ⟨j, h1, h2⟩ := h.mem y hy
    exact ⟨j, by omega, h2⟩, by have := h.last; omega⟩

theorem IL.put {last : Int} (h : IL Q R F Z A i f last) (hp : AllPos Q.L) {size n d : Int} {x : FlowV} (hv : vd F Z A i) (hn : n = (fN (ck R F Z A (F i) (i + 1)) (R (F i)) : Nat)) (hd : d = (fD (ck R F Z A (F i) (i + 1)) (R (F i)) : Nat)) (hs : size = Z i) (h0 : 0 < d) : IL (putQ Q ((i + 1 : Nat) : Int) (F i) size x n d) R F Z A (i + 1) f last where
  hp := put_heap h.hp hp h0
  mem y hy := by
    have hy := (riseL_mem_iff _ _ _).1 hy
    rw [List.mem_append, List.mem_singleton] at hy
    rcases hy with hy | rfl
    · obtain ⟨j, h1, h2, h3, h4, h5, h6, h7⟩ := h.mem y hy
      refine ⟨j, by omega, h2, h3, h4, h5, ?_, h7⟩
      have e : ¬ ((j + 1 : Nat) : Int) = ((i + 1 : Nat) : Int) := by omega
      show updF Q.P ((i + 1 : Nat) : Int) _ ((j + 1 : Nat) : Int) = _
      simp only [updF, e, if_false, h6]
    · refine ⟨i, by omega, rfl, hv, hn, hd, ?_, fun _ => ?_⟩
      · show updF Q.P ((i + 1 : Nat) : Int) _ ((i + 1 : Nat) : Int) = _
        simp only [updF, if_true, hs]
      · have := h.last
        show last < ((i + 1 : Nat) : Int)
        omega
  last := by have := h.last; omega

/-- The one that is taken: it is behind the last of its flow, and those left of its flow are behind it. -/
theorem IL.take {last : Int} (h : IL Q R F Z A i f last) (hp : AllPos Q.L) (hd : Dist Q.L) (hR : ∀ f : Int, 1 ≤ f → f ≤ 3 → 0 < R f) {y : Item} (hy : Q.L[0]? = some y) :
    ∃ j : Nat, j < i ∧ y.id = ((j + 1 : Nat) : Int) ∧ vd F Z A j ∧ Q.P y.id = some (F j, Z j) ∧ (F j = f → last < y.id) ∧
      ∀ (size : Int) (x : FlowV), IL (takeQ Q y.id (F j) size x) R F Z A i f (if F j = f then y.id else last) := by
  obtain ⟨j, h1, h2, h3, h4, h5, h6, h7⟩ := h.mem y (List.mem_of_getElem? hy)
  refine ⟨j, h1, h2, h3, h2 ▸ h6, h7, fun size x => ⟨out_heap h.hp hp hy, fun z hz => ?_, ?_⟩⟩
  · obtain ⟨hz, hne⟩ := (outL_mem hd hy).1 hz
    obtain ⟨k, k1, k2, k3, k4, k5, k6, k7⟩ := h.mem z hz
    have e : ¬ ((k + 1 : Nat) : Int) = y.id := fun e => hne (k2.trans e)
    refine ⟨k, k1, k2, k3, k4, k5, ?_, fun hk => ?_⟩
    · show updF Q.P y.id _ ((k + 1 : Nat) : Int) = _
      simp only [updF, e, if_false, k6]
    · split
      · rename_i hj
        obtain ⟨q, hq⟩ := List.getElem?_of_mem hz
        have hle := h.hp.root hp q y z hy hq
        by_cases hjk : j < k
        · omega
        · have hkj : k < j := by omega
          exfalso
          have hlt := ck_lt (R := R) hkj rfl h3
          rw [hj] at hlt
          rw [hj] at h4 h5
          rw [hk] at k4 k5
          have r0 := hR (F j) h3.1.1 h3.1.2
          rw [hj] at r0
          rw [cmpItem_le, h4, h5, k4, k5] at hle
          obtain ⟨c1, c2⟩ := f_cross2 (a := ck R F Z A f (j + 1)) (b := ck R F Z A f (k + 1)) r0 r0
          rw [← Int.natCast_mul, ← Int.natCast_mul, Int.ofNat_lt, Int.ofNat_inj, c1, c2, Nat.mul_lt_mul_right r0, Nat.mul_left_inj (Nat.pos_iff_ne_zero.1 r0)] at hle
          omega
      · exact k7 hk
  · have := h.last
    split <;> omega

end Go.Ab

set_option linter.unusedSimpArgs false
set_option linter.unusedVariables false
namespace Go.Ab
open Go.Proofs

noncomputable def aloneA : Code := loopOf (Try.f5.body.getD .skip)

/-- A goal that is not looked into. -/
structure Hide (p : Prop) : Prop where
  out : p

theorem callX.hid {f : FuncId} {args : List Value} {σ : St} {v : Value} {R : St → Log → Prop} {K : AE → St → Log → Prop} (h : callX Try.prog f args σ fun e σ' l => e = .ret v ∧ R σ' l) (k : ∀ σ' l, Logged σ σ' l → R σ' l → Hide (K (.ret v) σ' l)) : callX Try.prog f args σ K :=
  callX.ret h fun σ' l h1 h2 => (k σ' l h1 h2).out

/-- Behind the adds of i flows. -/
structure AD (σ : St) (b : QB) (Q : QV) (Rs : Nat → Int) (i lo : Nat) : Prop where
  at' : QAt σ b Q
  fl : ∀ f : Nat, f < i → ∃ x, Q.F ((f + 1 : Nat) : Int) = some x ∧ x.rate = Rs f ∧ x.room = 1000000000 ∧ x.bytes = 0 ∧ x.n = 0 ∧ x.d = 1
  no : ∀ k : Int, ¬ (1 ≤ k ∧ k ≤ i) → Q.F k = none
  nf : Q.nf = i
  P : ∀ k, Q.P k = none
  np : Q.np = 0
  L : Q.L = []
  t : Q.t = 0
  foot : ∀ c, Foot b Q c → lo ≤ c

theorem AD.keep {σ σ' : St} {b : QB} {Q : QV} {Rs : Nat → Int} {i lo : Nat} (H : AD σ b Q Rs i lo) (hn : σ.next ≤ σ'.next) (hg : ∀ c, Foot b Q c → c < σ.next → σ'.get c = σ.get c) : AD σ' b Q Rs i lo :=
  { H with at' := H.at'.keep hn fun c hc => hg c hc (H.at'.in_foot hc) }

theorem AD.add {σ σ' : St} {b : QB} {Q : QV} {Rs : Nat → Int} {i lo : Nat} {l : Log} (H : AD σ b Q Rs i lo) (hlo : lo ≤ σ.next) (h : AddR σ b Q ((i + 1 : Nat) : Int) (Rs i) 1000000000 0 σ' l) :
    (∀ c ∈ l, Foot b Q c ∨ σ.next ≤ c) ∧ ∃ Q', AD σ' b Q' Rs (i + 1) lo ∧ ∀ c, Foot b Q' c → Foot b Q c ∨ σ.next ≤ c := by
  obtain ⟨h1, blk, hblk, h3⟩ := h
  have hfoot : ∀ c, Foot b { Q with F := updF Q.F ((i + 1 : Nat) : Int) (some ⟨blk, Rs i, 1000000000, 0, 0, 1⟩), nf := Q.nf + 1 } c → Foot b Q c ∨ σ.next ≤ c := by
    intro c hc
    rcases hc with hc | ⟨k, z, hz, rfl⟩
    · exact .inl (.inl hc)
    · by_cases hk : k = ((i + 1 : Nat) : Int)
      · subst hk
        have e : updF Q.F ((i + 1 : Nat) : Int) (some ⟨blk, Rs i, 1000000000, 0, 0, 1⟩) ((i + 1 : Nat) : Int) = some z := hz
        simp only [updF, if_true, Option.some.injEq] at e
        subst e
        exact .inr hblk
      · have e : updF Q.F ((i + 1 : Nat) : Int) (some ⟨blk, Rs i, 1000000000, 0, 0, 1⟩) k = some z := hz
        simp only [updF, hk, if_false] at e
        exact .inl (.inr ⟨k, z, e, rfl⟩)
  refine ⟨fun c hc => (h1 c hc).imp .inl id, _, ⟨h3, fun f hf => ?_, fun k hk => ?_, by show Q.nf + 1 = i + 1; rw [H.nf], H.P, H.np, H.L, H.t, fun c hc => ?_⟩, hfoot⟩
  · by_cases e : f = i
    · subst e
      exact ⟨⟨blk, Rs f, 1000000000, 0, 0, 1⟩, by show updF Q.F ((f + 1 : Nat) : Int) (some ⟨blk, Rs f, 1000000000, 0, 0, 1⟩) ((f + 1 : Nat) : Int) = _; exact if_pos rfl, rfl, rfl, rfl, rfl, rfl⟩
    · obtain ⟨x, hx, hx'⟩ := H.fl f (by omega)
      have e' : ¬ ((f + 1 : Nat) : Int) = ((i + 1 : Nat) : Int) := by omega
      refine ⟨x, ?_, hx'⟩
      show updF Q.F ((i + 1 : Nat) : Int) _ ((f + 1 : Nat) : Int) = _
      simp only [updF, e', if_false, hx]
  · have e' : ¬ k = ((i + 1 : Nat) : Int) := by omega
    show updF Q.F ((i + 1 : Nat) : Int) _ k = none
    simp only [updF, e', if_false]
    exact H.no k (by omega)
  · rcases hfoot c hc with h | h
    · exact H.foot c h
    · omega

def Disj (b : QB) (Q : QV) (b' : QB) (Q' : QV) : Prop := ∀ c, Foot b Q c → ¬ Foot b' Q' c

theorem Disj.symm {b b' : QB} {Q Q' : QV} (h : Disj b Q b' Q') : Disj b' Q' b Q := fun c h1 h2 => h c h2 h1

theorem Disj.left {b b' b1 : QB} {Q Q' Q1 : QV} {n : Nat} (D : Disj b Q b' Q') (h : ∀ c, Foot b1 Q1 c → Foot b Q c ∨ n ≤ c) (h' : ∀ c, Foot b' Q' c → c < n) : Disj b1 Q1 b' Q' := fun c h1 h2 => by
  rcases h c h1 with h | h
  · exact D c h h2
  · have := h' c h2; omega

/-- What the calls of one queue leave of the other one. -/
theorem Disj.log {σ σ' : St} {l : Log} {b b' : QB} {Q Q' : QV} (D : Disj b Q b' Q') (hl : Logged σ σ' l) (h : ∀ c ∈ l, Foot b Q c ∨ σ.next ≤ c) : ∀ c, Foot b' Q' c → c < σ.next → σ'.get c = σ.get c := fun c h1 h2 =>
  hl.2 c h2 fun hm => by
    rcases h c hm with h | h
    · exact D c h h1
    · omega

structure F5 (ts : List Value) (sa : Option Addr) (len cap ra xa q o : Nat) : Prop where
  size : ts.length = 149
  t0 : lget ts 0 = .slice sa len cap
  t4 : lget ts 4 = .pointer (some ⟨ra, 0, none⟩)
  t5 : lget ts 5 = .pointer (some ⟨xa, 0, none⟩)
  t7 : lget ts 7 = .pointer (some ⟨q, 0, none⟩)
  t8 : lget ts 8 = .pointer (some ⟨o, 0, none⟩)

/-- What stays as it is below lo. -/
structure Low5 (σ : St) (g0 : Option AObj) (ra xa : Nat) (Rs : Nat → Int) (x0 x1 : Int) (lo : Nat) : Prop where
  pos : 0 < lo
  lra : ra < lo
  lxa : xa < lo
  next : lo ≤ σ.next
  g0 : σ.get 0 = g0
  gr : σ.get ra = some (.cells [.int .i64 (Rs 0), .int .i64 (Rs 1), .int .i64 (Rs 2)] false)
  gx : σ.get xa = some (.cells [.int .i64 x0, .int .i64 x1] false)

theorem Low5.keep {σ σ' : St} {g0 : Option AObj} {ra xa : Nat} {Rs : Nat → Int} {x0 x1 : Int} {lo : Nat} {l : Log} (h : Low5 σ g0 ra xa Rs x0 x1 lo) (hl : Logged σ σ' l) (hlo : ∀ c ∈ l, lo ≤ c) : Low5 σ' g0 ra xa Rs x0 x1 lo := by
  have hn := h.next
  have key : ∀ c, c < lo → σ'.get c = σ.get c := fun c hc => hl.2 c (by omega) fun hm => by have := hlo c hm; omega
  exact ⟨h.pos, h.lra, h.lxa, by have := hl.1; omega, (key 0 h.pos).trans h.g0, (key _ h.lra).trans h.gr, (key _ h.lxa).trans h.gx⟩

def E5A (sa : Option Addr) (len cap ra xa : Nat) (g0 : Option AObj) (Rs : Nat → Int) (x0 x1 : Int) (lo : Nat) (x : AX) (fr : Fr) (σ : St) : Prop :=
  ∃ ts, fr = ⟨ts, []⟩ ∧ ts.length = 149 ∧ ((x = .ret ∧ lget ts 6 = .bool true) ∨ (x = .exit 0 ∧ ∃ b Q b' Q', F5 ts sa len cap ra xa b.q b'.q ∧ Low5 σ g0 ra xa Rs x0 x1 lo ∧ AD σ b Q Rs 3 lo ∧ AD σ b' Q' Rs 3 lo ∧ Disj b Q b' Q' ∧ ∀ f : Nat, f < 3 → 1 ≤ Rs f ∧ Rs f ≤ 1000000))

def I5A (sa : Option Addr) (len cap ra xa : Nat) (g0 : Option AObj) (Rs : Nat → Int) (x0 x1 : Int) (lo : Nat) (m : Nat) (fr : Fr) (σ : St) : Prop :=
  ∃ ts b Q b' Q', ∃ i : Nat, fr = ⟨ts, []⟩ ∧ F5 ts sa len cap ra xa b.q b'.q ∧ lget ts 9 = .int .i64 i ∧ m + i = 3 ∧ Low5 σ g0 ra xa Rs x0 x1 lo ∧ AD σ b Q Rs i lo ∧ AD σ b' Q' Rs i lo ∧ Disj b Q b' Q' ∧ ∀ f : Nat, f < i → 1 ≤ Rs f ∧ Rs f ≤ 1000000

set_option maxHeartbeats 600000 in
set_option maxRecDepth 20000 in
theorem alone_adds {sa : Option Addr} {len cap ra xa : Nat} {g0 : Option AObj} {Rs : Nat → Int} {x0 x1 : Int} {lo : Nat} :
    ∀ m fr σ, I5A sa len cap ra xa g0 Rs x0 x1 lo m fr σ → loopX Try.prog false aloneA fr σ (endL (E5A sa len cap ra xa g0 Rs x0 x1 lo) fun c => lo ≤ c) := by
  refine loop_ind q8 5 (by kernel_rfl) _ _ _ ?_
  rintro m fr σ ⟨ts, b, Q, b', Q', i, rfl, F, h9, hmi, hl, H, H', D, hv⟩
  have e0 := F.t0
  have e4 := F.t4
  have e5 := F.t5
  have e7 := F.t7
  have e8 := F.t8
  have el := F.size
  by_cases hi : i < 3
  · have c1 : (i : Int) < 3 := by omega
    have c2 : (0 : Int) ≤ (i : Int) := by omega
    have l4 := hl.next
    have l6 := hl.gr
    have hr : ra < σ.next := by have := hl.lra; omega
    have hget : lget? [.int .i64 (Rs 0), .int .i64 (Rs 1), .int .i64 (Rs 2)] i = some (.int .i64 (Rs i)) := by
      have : i = 0 ∨ i = 1 ∨ i = 2 := by omega
      rcases this with rfl | rfl | rfl <;> rfl
    by_cases v1 : Rs i < 1
    · simp only [go_sem, Nat.reducePow, Nat.reduceDiv, Nat.reduceMod, Nat.reduceAdd, Nat.reduceSub, Nat.reduceMul, Nat.reduceLeDiff, Nat.reduceLT, Nat.reduceEqDiff, reduceCtorEq, reduceIte, reduceDIte, if_pos rfl, Int.reduceLT, Int.reduceLE, Int.reduceEq, Int.reduceNeg, Int.reduceAdd, Int.reduceSub, Int.reduceMul, Int.reduceToNat, opLen, callW, q8, p8, p7, p6, p5, p4, p3, p2, p1, undef, aloneA, nthC, loopOf, Try.f5, Option.getD, lget_put, lgetq_put, List.length_set, Int.toNat_natCast, e4, h9, el, c1, c2, hr, l6, hget, v1]
      refine .of (known22_call _) ?_
      simp only [go_sem, Nat.reducePow, Nat.reduceDiv, Nat.reduceMod, Nat.reduceAdd, Nat.reduceSub, Nat.reduceMul, Nat.reduceLeDiff, Nat.reduceLT, Nat.reduceEqDiff, reduceCtorEq, reduceIte, reduceDIte, if_pos rfl, Int.reduceLT, Int.reduceLE, Int.reduceEq, Int.reduceNeg, Int.reduceAdd, Int.reduceSub, Int.reduceMul, Int.reduceToNat, opLen, lget_put, lgetq_put, List.length_set, el]
      exact ⟨_, rfl, by simp only [List.length_set, el], .inl ⟨rfl, by simp only [go_sem, Nat.reducePow, Nat.reduceDiv, Nat.reduceMod, Nat.reduceAdd, Nat.reduceSub, Nat.reduceMul, Nat.reduceLeDiff, Nat.reduceLT, Nat.reduceEqDiff, reduceCtorEq, reduceIte, reduceDIte, if_pos rfl, Int.reduceLT, Int.reduceLE, Int.reduceEq, Int.reduceNeg, Int.reduceAdd, Int.reduceSub, Int.reduceMul, Int.reduceToNat, opLen, lget_put, List.length_set, el]⟩⟩
    by_cases v2 : 1000000 < Rs i
    · simp only [go_sem, Nat.reducePow, Nat.reduceDiv, Nat.reduceMod, Nat.reduceAdd, Nat.reduceSub, Nat.reduceMul, Nat.reduceLeDiff, Nat.reduceLT, Nat.reduceEqDiff, reduceCtorEq, reduceIte, reduceDIte, if_pos rfl, Int.reduceLT, Int.reduceLE, Int.reduceEq, Int.reduceNeg, Int.reduceAdd, Int.reduceSub, Int.reduceMul, Int.reduceToNat, opLen, callW, q8, p8, p7, p6, p5, p4, p3, p2, p1, undef, aloneA, nthC, loopOf, Try.f5, Option.getD, lget_put, lgetq_put, List.length_set, Int.toNat_natCast, e4, h9, el, c1, c2, hr, l6, hget, v1, v2]
      refine .of (known22_call _) ?_
      simp only [go_sem, Nat.reducePow, Nat.reduceDiv, Nat.reduceMod, Nat.reduceAdd, Nat.reduceSub, Nat.reduceMul, Nat.reduceLeDiff, Nat.reduceLT, Nat.reduceEqDiff, reduceCtorEq, reduceIte, reduceDIte, if_pos rfl, Int.reduceLT, Int.reduceLE, Int.reduceEq, Int.reduceNeg, Int.reduceAdd, Int.reduceSub, Int.reduceMul, Int.reduceToNat, opLen, lget_put, lgetq_put, List.length_set, el]
      exact ⟨_, rfl, by simp only [List.length_set, el], .inl ⟨rfl, by simp only [go_sem, Nat.reducePow, Nat.reduceDiv, Nat.reduceMod, Nat.reduceAdd, Nat.reduceSub, Nat.reduceMul, Nat.reduceLeDiff, Nat.reduceLT, Nat.reduceEqDiff, reduceCtorEq, reduceIte, reduceDIte, if_pos rfl, Int.reduceLT, Int.reduceLE, Int.reduceEq, Int.reduceNeg, Int.reduceAdd, Int.reduceSub, Int.reduceMul, Int.reduceToNat, opLen, lget_put, List.length_set, el]⟩⟩
    have w1 : IntKind.i64.wrap ((i : Int) + 1) = ((i + 1 : Nat) : Int) := by
      have : (i : Int) + 1 = ((i + 1 : Nat) : Int) := by omega
      rw [this]; exact wrapIN (by omega)
    simp only [go_sem, Nat.reducePow, Nat.reduceDiv, Nat.reduceMod, Nat.reduceAdd, Nat.reduceSub, Nat.reduceMul, Nat.reduceLeDiff, Nat.reduceLT, Nat.reduceEqDiff, reduceCtorEq, reduceIte, reduceDIte, if_pos rfl, Int.reduceLT, Int.reduceLE, Int.reduceEq, Int.reduceNeg, Int.reduceAdd, Int.reduceSub, Int.reduceMul, Int.reduceToNat, opLen, callW, q8, p8, p7, p6, p5, p4, p3, p2, p1, undef, aloneA, nthC, loopOf, Try.f5, Option.getD, lget_put, lgetq_put, List.length_set, Int.toNat_natCast, e4, e7, e8, h9, el, c1, c2, hr, l6, hget, v1, v2, w1]
    refine callX.hid (qadd_call H.at' ((i + 1 : Nat) : Int) (Rs i) 1000000000 0 (by omega) (by omega) (H.no _ (by omega)) (by rw [H.nf]; omega)) ?_
    intro σ1 lg1 hlg1 hA1
    obtain ⟨k1, Q1, H1, ft1⟩ := H.add l4 hA1
    have lo1 : ∀ c ∈ lg1, lo ≤ c := fun c hc => by
      rcases k1 c hc with h | h
      · exact H.foot c h
      · omega
    have hl1 : Low5 σ1 g0 ra xa Rs x0 x1 lo := hl.keep hlg1 lo1
    have H1' := H'.keep hlg1.1 (D.log hlg1 k1)
    have D1 : Disj b Q1 b' Q' := D.left ft1 fun c hc => H'.at'.in_foot hc
    have m4 := hl1.next
    have m6 := hl1.gr
    have hr1 : ra < σ1.next := by have := hl.lra; omega
    refine ⟨?_⟩
    simp only [go_sem, Nat.reducePow, Nat.reduceDiv, Nat.reduceMod, Nat.reduceAdd, Nat.reduceSub, Nat.reduceMul, Nat.reduceLeDiff, Nat.reduceLT, Nat.reduceEqDiff, reduceCtorEq, reduceIte, reduceDIte, if_pos rfl, Int.reduceLT, Int.reduceLE, Int.reduceEq, Int.reduceNeg, Int.reduceAdd, Int.reduceSub, Int.reduceMul, Int.reduceToNat, opLen, callW, q8, p8, p7, p6, p5, p4, p3, p2, p1, undef, lget_put, lgetq_put, List.length_set, Int.toNat_natCast, e4, e7, e8, h9, el, c1, c2, hr1, m6, hget, w1]
    refine callX.hid (qadd_call H1'.at' ((i + 1 : Nat) : Int) (Rs i) 1000000000 0 (by omega) (by omega) (H1'.no _ (by omega)) (by rw [H1'.nf]; omega)) ?_
    intro σ2 lg2 hlg2 hA2
    obtain ⟨k2, Q2, H2', ft2⟩ := H1'.add m4 hA2
    have lo2 : ∀ c ∈ lg2, lo ≤ c := fun c hc => by
      rcases k2 c hc with h | h
      · exact H1'.foot c h
      · omega
    have hl2 := hl1.keep hlg2 lo2
    have H2 := H1.keep hlg2.1 (D1.symm.log hlg2 k2)
    have D2 : Disj b Q1 b' Q2 := (D1.symm.left ft2 fun c hc => H1.at'.in_foot hc).symm
    refine ⟨?_⟩
    simp only [go_sem, Nat.reducePow, Nat.reduceDiv, Nat.reduceMod, Nat.reduceAdd, Nat.reduceSub, Nat.reduceMul, Nat.reduceLeDiff, Nat.reduceLT, Nat.reduceEqDiff, reduceCtorEq, reduceIte, reduceDIte, if_pos rfl, Int.reduceLT, Int.reduceLE, Int.reduceEq, Int.reduceNeg, Int.reduceAdd, Int.reduceSub, Int.reduceMul, Int.reduceToNat, opLen, callW, q8, p8, p7, p6, p5, p4, p3, p2, p1, undef, lget_put, lgetq_put, List.length_set, Int.toNat_natCast, e4, e7, e8, h9, el, w1]
    refine ⟨fun c hc => ?_, m - 1, by omega, _, b, Q1, b', Q2, i + 1, rfl, ⟨by simp only [List.length_set, el], by simp only [go_sem, Nat.reducePow, Nat.reduceDiv, Nat.reduceMod, Nat.reduceAdd, Nat.reduceSub, Nat.reduceMul, Nat.reduceLeDiff, Nat.reduceLT, Nat.reduceEqDiff, reduceCtorEq, reduceIte, reduceDIte, if_pos rfl, Int.reduceLT, Int.reduceLE, Int.reduceEq, Int.reduceNeg, Int.reduceAdd, Int.reduceSub, Int.reduceMul, Int.reduceToNat, opLen, lget_put, List.length_set, el, e0], by simp only [go_sem, Nat.reducePow, Nat.reduceDiv, Nat.reduceMod, Nat.reduceAdd, Nat.reduceSub, Nat.reduceMul, Nat.reduceLeDiff, Nat.reduceLT, Nat.reduceEqDiff, reduceCtorEq, reduceIte, reduceDIte, if_pos rfl, Int.reduceLT, Int.reduceLE, Int.reduceEq, Int.reduceNeg, Int.reduceAdd, Int.reduceSub, Int.reduceMul, Int.reduceToNat, opLen, lget_put, List.length_set, el, e4], by simp only [go_sem, Nat.reducePow, Nat.reduceDiv, Nat.reduceMod, Nat.reduceAdd, Nat.reduceSub, Nat.reduceMul, Nat.reduceLeDiff, Nat.reduceLT, Nat.reduceEqDiff, reduceCtorEq, reduceIte, reduceDIte, if_pos rfl, Int.reduceLT, Int.reduceLE, Int.reduceEq, Int.reduceNeg, Int.reduceAdd, Int.reduceSub, Int.reduceMul, Int.reduceToNat, opLen, lget_put, List.length_set, el, e5], by simp only [go_sem, Nat.reducePow, Nat.reduceDiv, Nat.reduceMod, Nat.reduceAdd, Nat.reduceSub, Nat.reduceMul, Nat.reduceLeDiff, Nat.reduceLT, Nat.reduceEqDiff, reduceCtorEq, reduceIte, reduceDIte, if_pos rfl, Int.reduceLT, Int.reduceLE, Int.reduceEq, Int.reduceNeg, Int.reduceAdd, Int.reduceSub, Int.reduceMul, Int.reduceToNat, opLen, lget_put, List.length_set, el, e7], by simp only [go_sem, Nat.reducePow, Nat.reduceDiv, Nat.reduceMod, Nat.reduceAdd, Nat.reduceSub, Nat.reduceMul, Nat.reduceLeDiff, Nat.reduceLT, Nat.reduceEqDiff, reduceCtorEq, reduceIte, reduceDIte, if_pos rfl, Int.reduceLT, Int.reduceLE, Int.reduceEq, Int.reduceNeg, Int.reduceAdd, Int.reduceSub, Int.reduceMul, Int.reduceToNat, opLen, lget_put, List.length_set, el, e8]⟩, by simp only [go_sem, Nat.reducePow, Nat.reduceDiv, Nat.reduceMod, Nat.reduceAdd, Nat.reduceSub, Nat.reduceMul, Nat.reduceLeDiff, Nat.reduceLT, Nat.reduceEqDiff, reduceCtorEq, reduceIte, reduceDIte, if_pos rfl, Int.reduceLT, Int.reduceLE, Int.reduceEq, Int.reduceNeg, Int.reduceAdd, Int.reduceSub, Int.reduceMul, Int.reduceToNat, opLen, lget_put, List.length_set, el], by omega, hl2, H2, H2', D2, fun f hf => ?_⟩
    · rcases hc with hc | hc
      · exact lo1 c hc
      · exact lo2 c hc
    · by_cases e : f = i
      · subst e; omega
      · exact hv f (by omega)
  · have c1 : ¬ (i : Int) < 3 := by omega
    simp only [go_sem, Nat.reducePow, Nat.reduceDiv, Nat.reduceMod, Nat.reduceAdd, Nat.reduceSub, Nat.reduceMul, Nat.reduceLeDiff, Nat.reduceLT, Nat.reduceEqDiff, reduceCtorEq, reduceIte, reduceDIte, if_pos rfl, Int.reduceLT, Int.reduceLE, Int.reduceEq, Int.reduceNeg, Int.reduceAdd, Int.reduceSub, Int.reduceMul, Int.reduceToNat, opLen, callW, q8, p8, p7, p6, p5, p4, p3, p2, p1, undef, aloneA, nthC, loopOf, Try.f5, Option.getD, lget_put, lgetq_put, List.length_set, h9, el, c1]
    obtain rfl : i = 3 := by omega
    exact ⟨_, rfl, by simp only [List.length_set, el], .inr ⟨rfl, b, Q, b', Q', ⟨by simp only [List.length_set, el], by simp only [go_sem, Nat.reducePow, Nat.reduceDiv, Nat.reduceMod, Nat.reduceAdd, Nat.reduceSub, Nat.reduceMul, Nat.reduceLeDiff, Nat.reduceLT, Nat.reduceEqDiff, reduceCtorEq, reduceIte, reduceDIte, if_pos rfl, Int.reduceLT, Int.reduceLE, Int.reduceEq, Int.reduceNeg, Int.reduceAdd, Int.reduceSub, Int.reduceMul, Int.reduceToNat, opLen, lget_put, List.length_set, el, e0], by simp only [go_sem, Nat.reducePow, Nat.reduceDiv, Nat.reduceMod, Nat.reduceAdd, Nat.reduceSub, Nat.reduceMul, Nat.reduceLeDiff, Nat.reduceLT, Nat.reduceEqDiff, reduceCtorEq, reduceIte, reduceDIte, if_pos rfl, Int.reduceLT, Int.reduceLE, Int.reduceEq, Int.reduceNeg, Int.reduceAdd, Int.reduceSub, Int.reduceMul, Int.reduceToNat, opLen, lget_put, List.length_set, el, e4], by simp only [go_sem, Nat.reducePow, Nat.reduceDiv, Nat.reduceMod, Nat.reduceAdd, Nat.reduceSub, Nat.reduceMul, Nat.reduceLeDiff, Nat.reduceLT, Nat.reduceEqDiff, reduceCtorEq, reduceIte, reduceDIte, if_pos rfl, Int.reduceLT, Int.reduceLE, Int.reduceEq, Int.reduceNeg, Int.reduceAdd, Int.reduceSub, Int.reduceMul, Int.reduceToNat, opLen, lget_put, List.length_set, el, e5], by simp only [go_sem, Nat.reducePow, Nat.reduceDiv, Nat.reduceMod, Nat.reduceAdd, Nat.reduceSub, Nat.reduceMul, Nat.reduceLeDiff, Nat.reduceLT, Nat.reduceEqDiff, reduceCtorEq, reduceIte, reduceDIte, if_pos rfl, Int.reduceLT, Int.reduceLE, Int.reduceEq, Int.reduceNeg, Int.reduceAdd, Int.reduceSub, Int.reduceMul, Int.reduceToNat, opLen, lget_put, List.length_set, el, e7], by simp only [go_sem, Nat.reducePow, Nat.reduceDiv, Nat.reduceMod, Nat.reduceAdd, Nat.reduceSub, Nat.reduceMul, Nat.reduceLeDiff, Nat.reduceLT, Nat.reduceEqDiff, reduceCtorEq, reduceIte, reduceDIte, if_pos rfl, Int.reduceLT, Int.reduceLE, Int.reduceEq, Int.reduceNeg, Int.reduceAdd, Int.reduceSub, Int.reduceMul, Int.reduceToNat, opLen, lget_put, List.length_set, el, e8]⟩, hl, H, H', D, hv⟩⟩

end Go.Ab

set_option linter.unusedSimpArgs false
set_option linter.unusedVariables false
namespace Go.Ab
open Go.Proofs

def blockOf : Code → Code
  | .block _ b => b
  | c => c

def dropC : Nat → Code → Code
  | n + 1, .seq _ b => dropC n b
  | _, c => c

noncomputable def aloneB : Code := loopOf (nthC 5 (Try.f5.body.getD .skip))
noncomputable def aloneX : Code := blockOf (nthC 1 aloneB)
noncomputable def aloneT : Code := dropC 4 aloneX

theorem aloneB_is : aloneB = (nthC 0 aloneB).seq ((Code.block 3 ((nthC 0 aloneX).seq ((nthC 1 aloneX).seq ((nthC 2 aloneX).seq ((nthC 3 aloneX).seq aloneT))))).seq (nthC 2 aloneB)) := by rfl

structure S5 (σ : St) (b : QB) (Q : QV) (b' : QB) (Q' : QV) (R : Int → Nat) (F Z A : Nat → Int) (x0 : Int) (i k : Nat) (last : Int) (lo : Nat) : Prop where
  q : BQ σ b Q i lo
  fl : ∀ f : Int, 1 ≤ f → f ≤ 3 → FL Q R F Z A i k f
  no : ∀ f : Int, ¬ (1 ≤ f ∧ f ≤ 3) → Q.F f = none
  il : IL Q R F Z A i x0 last
  o : BQ σ b' Q' i lo
  fo : FL Q' R F Z A i k x0
  dj : Disj b Q b' Q'

structure F5B (ts : List Value) (sa : Option Addr) (len cap ra xa q o : Nat) (i : Nat) (last : Int) : Prop where
  fr : F5 ts sa len cap ra xa q o
  t10 : lget ts 10 = .int .i64 last
  t11 : lget ts 11 = .int .i64 i

theorem Low5.grow {σ σ' : St} {g0 : Option AObj} {ra xa : Nat} {Rs : Nat → Int} {x0 x1 : Int} {lo : Nat} (h : Low5 σ g0 ra xa Rs x0 x1 lo) (hn : σ.next ≤ σ'.next) (hg : ∀ c, c < σ.next → σ'.get c = σ.get c) : Low5 σ' g0 ra xa Rs x0 x1 lo := by
  have h1 := h.next
  have h2 := h.pos
  have h3 := h.lra
  have h4 := h.lxa
  exact ⟨h.pos, h.lra, h.lxa, by omega, (hg 0 (by omega)).trans h.g0, (hg _ (by omega)).trans h.gr, (hg _ (by omega)).trans h.gx⟩

theorem S5.grow {σ σ' : St} {b b' : QB} {Q Q' : QV} {R : Int → Nat} {F Z A : Nat → Int} {x0 : Int} {i k : Nat} {last : Int} {lo : Nat} (h : S5 σ b Q b' Q' R F Z A x0 i k last lo) (hn : σ.next ≤ σ'.next) (hg : ∀ c, c < σ.next → σ'.get c = σ.get c) : S5 σ' b Q b' Q' R F Z A x0 i k last lo :=
  { h with q := h.q.keep hn fun c _ hc => hg c hc, o := h.o.keep hn fun c _ hc => hg c hc }

theorem S5.more {σ : St} {b b' : QB} {Q Q' : QV} {R : Int → Nat} {F Z A : Nat → Int} {x0 : Int} {i k : Nat} {last : Int} {lo : Nat} (h : S5 σ b Q b' Q' R F Z A x0 i k last lo) : S5 σ b Q b' Q' R F Z A x0 i (k + 1) last lo :=
  { h with fl := fun f h1 h2 => (h.fl f h1 h2).more, fo := h.fo.more }

set_option maxHeartbeats 1000000 in
set_option maxRecDepth 20000 in
theorem alone_take {sa : Option Addr} {len cap ra xa : Nat} {g0 : Option AObj} {Rs : Nat → Int} {x0 x1 : Int} {lo : Nat} {ts : List Value} {σ : St} {b b' : QB} {Q Q' : QV} {R : Int → Nat} {F Z A : Nat → Int} {i k : Nat} {last : Int}
    (hR : ∀ f : Int, 1 ≤ f → f ≤ 3 → 0 < R f) (hx1 : 1 ≤ x1) (hi : i < 40) (hk : k ≤ 80)
    (G : F5B ts sa len cap ra xa b.q b'.q i last) (hl : Low5 σ g0 ra xa Rs x0 x1 lo) (S : S5 σ b Q b' Q' R F Z A x0 (i + 1) k last lo) (K : RR → Prop)
    (hK : ∀ ts' σ' lg Q1 last', F5B ts' sa len cap ra xa b.q b'.q i last' → Low5 σ' g0 ra xa Rs x0 x1 lo → S5 σ' b Q1 b' Q' R F Z A x0 (i + 1) (k + 1) last' lo → (∀ c ∈ lg, lo ≤ c) → σ.next ≤ σ'.next → K ⟨.norm, ⟨ts', []⟩, σ', lg⟩) :
    wp (cP Try.prog) q8 (btAll 5) false aloneT ⟨ts, []⟩ σ K := by
  obtain ⟨F5, e10, e11⟩ := G
  have e0 := F5.t0
  have e4 := F5.t4
  have e5 := F5.t5
  have e7 := F5.t7
  have e8 := F5.t8
  have el := F5.size
  have gx := hl.gx
  have hxl : xa < σ.next := by have := hl.lxa; have := hl.next; omega
  have z1 : ¬ x1 = 0 := by omega
  by_cases hm : (i : Int).tmod x1 = 0
  · have hm' : ((i : Int).tmod x1 == 0) = true := by simpa using hm
    cases hL : Q.L with
    | nil =>
      simp only [go_sem, Nat.reducePow, Nat.reduceDiv, Nat.reduceMod, Nat.reduceAdd, Nat.reduceSub, Nat.reduceMul, Nat.reduceLeDiff, Nat.reduceLT, Nat.reduceEqDiff, reduceCtorEq, reduceIte, reduceDIte, if_pos rfl, Int.reduceLT, Int.reduceLE, Int.reduceEq, Int.reduceNeg, Int.reduceAdd, Int.reduceSub, Int.reduceMul, Int.reduceToNat, opLen, callW, q8, p8, p7, p6, p5, p4, p3, p2, p1, undef, aloneT, aloneX, aloneB, blockOf, dropC, nthC, loopOf, Try.f5, Option.getD, lget_put, lgetq_put, List.length_set, Int.toNat_natCast, e5, e7, e10, e11, el, hxl, gx, z1, hm']
      refine callX.hid (qtake_empty S.q.at' hL) ?_
      intro σ1 lg1 hlg1 hlog1
      have n1 := hlg1.1
      have hk1 : ∀ c, c < σ.next → σ1.get c = σ.get c := fun c hc => hlg1.2 c hc fun hm => by have := hlog1 c hm; omega
      have hl1 := hl.grow n1 hk1
      have S1 := S.grow n1 hk1
      have gx1 := hl1.gx
      have hxl1 : xa < σ1.next := by omega
      have hlo := hl.next
      refine ⟨?_⟩
      simp only [go_sem, Nat.reducePow, Nat.reduceDiv, Nat.reduceMod, Nat.reduceAdd, Nat.reduceSub, Nat.reduceMul, Nat.reduceLeDiff, Nat.reduceLT, Nat.reduceEqDiff, reduceCtorEq, reduceIte, reduceDIte, if_pos rfl, Int.reduceLT, Int.reduceLE, Int.reduceEq, Int.reduceNeg, Int.reduceAdd, Int.reduceSub, Int.reduceMul, Int.reduceToNat, opLen, callW, q8, p8, p7, p6, p5, p4, p3, p2, p1, undef, lget_put, lgetq_put, List.length_set, Int.toNat_natCast, e5, e7, e10, e11, el, hxl1, gx1]
      refine hK _ _ _ Q last ⟨⟨by simp only [List.length_set, el], by simp only [go_sem, Nat.reducePow, Nat.reduceDiv, Nat.reduceMod, Nat.reduceAdd, Nat.reduceSub, Nat.reduceMul, Nat.reduceLeDiff, Nat.reduceLT, Nat.reduceEqDiff, reduceCtorEq, reduceIte, reduceDIte, if_pos rfl, Int.reduceLT, Int.reduceLE, Int.reduceEq, Int.reduceNeg, Int.reduceAdd, Int.reduceSub, Int.reduceMul, Int.reduceToNat, opLen, lget_put, List.length_set, el, e0], by simp only [go_sem, Nat.reducePow, Nat.reduceDiv, Nat.reduceMod, Nat.reduceAdd, Nat.reduceSub, Nat.reduceMul, Nat.reduceLeDiff, Nat.reduceLT, Nat.reduceEqDiff, reduceCtorEq, reduceIte, reduceDIte, if_pos rfl, Int.reduceLT, Int.reduceLE, Int.reduceEq, Int.reduceNeg, Int.reduceAdd, Int.reduceSub, Int.reduceMul, Int.reduceToNat, opLen, lget_put, List.length_set, el, e4], by simp only [go_sem, Nat.reducePow, Nat.reduceDiv, Nat.reduceMod, Nat.reduceAdd, Nat.reduceSub, Nat.reduceMul, Nat.reduceLeDiff, Nat.reduceLT, Nat.reduceEqDiff, reduceCtorEq, reduceIte, reduceDIte, if_pos rfl, Int.reduceLT, Int.reduceLE, Int.reduceEq, Int.reduceNeg, Int.reduceAdd, Int.reduceSub, Int.reduceMul, Int.reduceToNat, opLen, lget_put, List.length_set, el, e5], by simp only [go_sem, Nat.reducePow, Nat.reduceDiv, Nat.reduceMod, Nat.reduceAdd, Nat.reduceSub, Nat.reduceMul, Nat.reduceLeDiff, Nat.reduceLT, Nat.reduceEqDiff, reduceCtorEq, reduceIte, reduceDIte, if_pos rfl, Int.reduceLT, Int.reduceLE, Int.reduceEq, Int.reduceNeg, Int.reduceAdd, Int.reduceSub, Int.reduceMul, Int.reduceToNat, opLen, lget_put, List.length_set, el, e7], by simp only [go_sem, Nat.reducePow, Nat.reduceDiv, Nat.reduceMod, Nat.reduceAdd, Nat.reduceSub, Nat.reduceMul, Nat.reduceLeDiff, Nat.reduceLT, Nat.reduceEqDiff, reduceCtorEq, reduceIte, reduceDIte, if_pos rfl, Int.reduceLT, Int.reduceLE, Int.reduceEq, Int.reduceNeg, Int.reduceAdd, Int.reduceSub, Int.reduceMul, Int.reduceToNat, opLen, lget_put, List.length_set, el, e8]⟩, by simp only [go_sem, Nat.reducePow, Nat.reduceDiv, Nat.reduceMod, Nat.reduceAdd, Nat.reduceSub, Nat.reduceMul, Nat.reduceLeDiff, Nat.reduceLT, Nat.reduceEqDiff, reduceCtorEq, reduceIte, reduceDIte, if_pos rfl, Int.reduceLT, Int.reduceLE, Int.reduceEq, Int.reduceNeg, Int.reduceAdd, Int.reduceSub, Int.reduceMul, Int.reduceToNat, opLen, lget_put, List.length_set, el, e10], by simp only [go_sem, Nat.reducePow, Nat.reduceDiv, Nat.reduceMod, Nat.reduceAdd, Nat.reduceSub, Nat.reduceMul, Nat.reduceLeDiff, Nat.reduceLT, Nat.reduceEqDiff, reduceCtorEq, reduceIte, reduceDIte, if_pos rfl, Int.reduceLT, Int.reduceLE, Int.reduceEq, Int.reduceNeg, Int.reduceAdd, Int.reduceSub, Int.reduceMul, Int.reduceToNat, opLen, lget_put, List.length_set, el, e11]⟩ (hl1.grow (by simp only [go_sem, Nat.reducePow, Nat.reduceDiv, Nat.reduceMod, Nat.reduceAdd, Nat.reduceSub, Nat.reduceMul, Nat.reduceLeDiff, Nat.reduceLT, Nat.reduceEqDiff, reduceCtorEq, reduceIte, reduceDIte, if_pos rfl, Int.reduceLT, Int.reduceLE, Int.reduceEq, Int.reduceNeg, Int.reduceAdd, Int.reduceSub, Int.reduceMul, Int.reduceToNat, opLen] <;> omega) (fun c hc => by
        have q1 : ¬ σ1.next = c := by omega
        have q2 : ¬ σ1.next + 1 = c := by omega
        have q3 : c < σ1.next + 1 := by omega
        simp only [go_sem, Nat.reducePow, Nat.reduceDiv, Nat.reduceMod, Nat.reduceAdd, Nat.reduceSub, Nat.reduceMul, Nat.reduceLeDiff, Nat.reduceLT, Nat.reduceEqDiff, reduceCtorEq, reduceIte, reduceDIte, if_pos rfl, Int.reduceLT, Int.reduceLE, Int.reduceEq, Int.reduceNeg, Int.reduceAdd, Int.reduceSub, Int.reduceMul, Int.reduceToNat, opLen, hc, q1, q2, q3])) (S1.more.grow (by simp only [go_sem, Nat.reducePow, Nat.reduceDiv, Nat.reduceMod, Nat.reduceAdd, Nat.reduceSub, Nat.reduceMul, Nat.reduceLeDiff, Nat.reduceLT, Nat.reduceEqDiff, reduceCtorEq, reduceIte, reduceDIte, if_pos rfl, Int.reduceLT, Int.reduceLE, Int.reduceEq, Int.reduceNeg, Int.reduceAdd, Int.reduceSub, Int.reduceMul, Int.reduceToNat, opLen] <;> omega) (fun c hc => by
        have q1 : ¬ σ1.next = c := by omega
        have q2 : ¬ σ1.next + 1 = c := by omega
        have q3 : c < σ1.next + 1 := by omega
        simp only [go_sem, Nat.reducePow, Nat.reduceDiv, Nat.reduceMod, Nat.reduceAdd, Nat.reduceSub, Nat.reduceMul, Nat.reduceLeDiff, Nat.reduceLT, Nat.reduceEqDiff, reduceCtorEq, reduceIte, reduceDIte, if_pos rfl, Int.reduceLT, Int.reduceLE, Int.reduceEq, Int.reduceNeg, Int.reduceAdd, Int.reduceSub, Int.reduceMul, Int.reduceToNat, opLen, hc, q1, q2, q3])) (fun c hc => ?_) (by simp only [go_sem, Nat.reducePow, Nat.reduceDiv, Nat.reduceMod, Nat.reduceAdd, Nat.reduceSub, Nat.reduceMul, Nat.reduceLeDiff, Nat.reduceLT, Nat.reduceEqDiff, reduceCtorEq, reduceIte, reduceDIte, if_pos rfl, Int.reduceLT, Int.reduceLE, Int.reduceEq, Int.reduceNeg, Int.reduceAdd, Int.reduceSub, Int.reduceMul, Int.reduceToNat, opLen] <;> omega)
      simp only [List.mem_append, List.mem_cons, List.not_mem_nil, or_false] at hc
      rcases hc with (hc | hc) | hc
      · have := hlog1 c hc; omega
      · omega
      · omega
    | cons y L' =>
      have hy : Q.L[0]? = some y := by rw [hL]; rfl
      obtain ⟨j, hj, hid, hvj, hP, hlast, hil⟩ := S.il.take S.q.at'.hx.toV.pos S.q.at'.hx.toV.dist hR hy
      obtain ⟨x, hx, hxr, hxm, hb1, hb2, hxn, hxd⟩ := S.fl (F j) hvj.1.1 hvj.1.2
      have hz := hvj.2.1
      have htake := qtake_call S.q.at' hy hP hx (by omega) (by omega)
      by_cases hfx : F j = x0
      · have hfx' : (F j == x0) = true := by simpa using hfx
        have hgt : ¬ y.id ≤ last := by have := hlast hfx; omega
        simp only [go_sem, Nat.reducePow, Nat.reduceDiv, Nat.reduceMod, Nat.reduceAdd, Nat.reduceSub, Nat.reduceMul, Nat.reduceLeDiff, Nat.reduceLT, Nat.reduceEqDiff, reduceCtorEq, reduceIte, reduceDIte, if_pos rfl, Int.reduceLT, Int.reduceLE, Int.reduceEq, Int.reduceNeg, Int.reduceAdd, Int.reduceSub, Int.reduceMul, Int.reduceToNat, opLen, callW, q8, p8, p7, p6, p5, p4, p3, p2, p1, undef, aloneT, aloneX, aloneB, blockOf, dropC, nthC, loopOf, Try.f5, Option.getD, lget_put, lgetq_put, List.length_set, Int.toNat_natCast, e5, e7, e10, e11, el, hxl, gx, z1, hm']
        refine callX.hid htake ?_
        intro σ1 lg1 hlg1 hT
        have n1 := hlg1.1
        obtain ⟨hlog1, HB, hft⟩ := S.q.take hy rfl hx hT
        have lo1 : ∀ c ∈ lg1, lo ≤ c := fun c hc => by
          rcases hlog1 c hc with h | h
          · exact S.q.foot c h
          · have := hl.next; omega
        have hl1 : Low5 σ1 g0 ra xa Rs x0 x1 lo := hl.keep hlg1 lo1
        have S1 : S5 σ1 b (takeQ Q y.id (F j) (Z j) x) b' Q' R F Z A x0 (i + 1) (k + 1) (if F j = x0 then y.id else last) lo :=
          ⟨HB, fun f h1 h2 => (S.fl f h1 h2).take hx (by omega), fun f hf => by
            have e : ¬ f = F j := fun e => hf (e ▸ hvj.1)
            show updF Q.F (F j) _ f = none
            simp only [updF, e, if_false]
            exact S.no f hf, hil _ _, S.o.keep n1 (S.dj.log hlg1 hlog1), S.fo.more, S.dj.left (n := σ.next) (fun c hc => .inl (hft c hc)) fun c hc => S.o.at'.in_foot hc⟩
        have gx1 := hl1.gx
        have hxl1 : xa < σ1.next := by omega
        have hlo := hl.next
        refine ⟨?_⟩
        simp only [go_sem, Nat.reducePow, Nat.reduceDiv, Nat.reduceMod, Nat.reduceAdd, Nat.reduceSub, Nat.reduceMul, Nat.reduceLeDiff, Nat.reduceLT, Nat.reduceEqDiff, reduceCtorEq, reduceIte, reduceDIte, if_pos rfl, Int.reduceLT, Int.reduceLE, Int.reduceEq, Int.reduceNeg, Int.reduceAdd, Int.reduceSub, Int.reduceMul, Int.reduceToNat, opLen, callW, q8, p8, p7, p6, p5, p4, p3, p2, p1, undef, lget_put, lgetq_put, List.length_set, Int.toNat_natCast, e5, e7, e10, e11, el, hxl1, gx1, hfx', hgt]
        refine hK _ _ _ _ y.id ⟨⟨by simp only [List.length_set, el], by simp only [go_sem, Nat.reducePow, Nat.reduceDiv, Nat.reduceMod, Nat.reduceAdd, Nat.reduceSub, Nat.reduceMul, Nat.reduceLeDiff, Nat.reduceLT, Nat.reduceEqDiff, reduceCtorEq, reduceIte, reduceDIte, if_pos rfl, Int.reduceLT, Int.reduceLE, Int.reduceEq, Int.reduceNeg, Int.reduceAdd, Int.reduceSub, Int.reduceMul, Int.reduceToNat, opLen, lget_put, List.length_set, el, e0], by simp only [go_sem, Nat.reducePow, Nat.reduceDiv, Nat.reduceMod, Nat.reduceAdd, Nat.reduceSub, Nat.reduceMul, Nat.reduceLeDiff, Nat.reduceLT, Nat.reduceEqDiff, reduceCtorEq, reduceIte, reduceDIte, if_pos rfl, Int.reduceLT, Int.reduceLE, Int.reduceEq, Int.reduceNeg, Int.reduceAdd, Int.reduceSub, Int.reduceMul, Int.reduceToNat, opLen, lget_put, List.length_set, el, e4], by simp only [go_sem, Nat.reducePow, Nat.reduceDiv, Nat.reduceMod, Nat.reduceAdd, Nat.reduceSub, Nat.reduceMul, Nat.reduceLeDiff, Nat.reduceLT, Nat.reduceEqDiff, reduceCtorEq, reduceIte, reduceDIte, if_pos rfl, Int.reduceLT, Int.reduceLE, Int.reduceEq, Int.reduceNeg, Int.reduceAdd, Int.reduceSub, Int.reduceMul, Int.reduceToNat, opLen, lget_put, List.length_set, el, e5], by simp only [go_sem, Nat.reducePow, Nat.reduceDiv, Nat.reduceMod, Nat.reduceAdd, Nat.reduceSub, Nat.reduceMul, Nat.reduceLeDiff, Nat.reduceLT, Nat.reduceEqDiff, reduceCtorEq, reduceIte, reduceDIte, if_pos rfl, Int.reduceLT, Int.reduceLE, Int.reduceEq, Int.reduceNeg, Int.reduceAdd, Int.reduceSub, Int.reduceMul, Int.reduceToNat, opLen, lget_put, List.length_set, el, e7], by simp only [go_sem, Nat.reducePow, Nat.reduceDiv, Nat.reduceMod, Nat.reduceAdd, Nat.reduceSub, Nat.reduceMul, Nat.reduceLeDiff, Nat.reduceLT, Nat.reduceEqDiff, reduceCtorEq, reduceIte, reduceDIte, if_pos rfl, Int.reduceLT, Int.reduceLE, Int.reduceEq, Int.reduceNeg, Int.reduceAdd, Int.reduceSub, Int.reduceMul, Int.reduceToNat, opLen, lget_put, List.length_set, el, e8]⟩, by simp only [go_sem, Nat.reducePow, Nat.reduceDiv, Nat.reduceMod, Nat.reduceAdd, Nat.reduceSub, Nat.reduceMul, Nat.reduceLeDiff, Nat.reduceLT, Nat.reduceEqDiff, reduceCtorEq, reduceIte, reduceDIte, if_pos rfl, Int.reduceLT, Int.reduceLE, Int.reduceEq, Int.reduceNeg, Int.reduceAdd, Int.reduceSub, Int.reduceMul, Int.reduceToNat, opLen, lget_put, List.length_set, el], by simp only [go_sem, Nat.reducePow, Nat.reduceDiv, Nat.reduceMod, Nat.reduceAdd, Nat.reduceSub, Nat.reduceMul, Nat.reduceLeDiff, Nat.reduceLT, Nat.reduceEqDiff, reduceCtorEq, reduceIte, reduceDIte, if_pos rfl, Int.reduceLT, Int.reduceLE, Int.reduceEq, Int.reduceNeg, Int.reduceAdd, Int.reduceSub, Int.reduceMul, Int.reduceToNat, opLen, lget_put, List.length_set, el, e11]⟩ (hl1.grow (by simp only [go_sem, Nat.reducePow, Nat.reduceDiv, Nat.reduceMod, Nat.reduceAdd, Nat.reduceSub, Nat.reduceMul, Nat.reduceLeDiff, Nat.reduceLT, Nat.reduceEqDiff, reduceCtorEq, reduceIte, reduceDIte, if_pos rfl, Int.reduceLT, Int.reduceLE, Int.reduceEq, Int.reduceNeg, Int.reduceAdd, Int.reduceSub, Int.reduceMul, Int.reduceToNat, opLen] <;> omega) (fun c hc => by
        have q1 : ¬ σ1.next = c := by omega
        have q2 : ¬ σ1.next + 1 = c := by omega
        have q3 : c < σ1.next + 1 := by omega
        simp only [go_sem, Nat.reducePow, Nat.reduceDiv, Nat.reduceMod, Nat.reduceAdd, Nat.reduceSub, Nat.reduceMul, Nat.reduceLeDiff, Nat.reduceLT, Nat.reduceEqDiff, reduceCtorEq, reduceIte, reduceDIte, if_pos rfl, Int.reduceLT, Int.reduceLE, Int.reduceEq, Int.reduceNeg, Int.reduceAdd, Int.reduceSub, Int.reduceMul, Int.reduceToNat, opLen, hc, q1, q2, q3])) ((if_pos hfx ▸ S1).grow (by simp only [go_sem, Nat.reducePow, Nat.reduceDiv, Nat.reduceMod, Nat.reduceAdd, Nat.reduceSub, Nat.reduceMul, Nat.reduceLeDiff, Nat.reduceLT, Nat.reduceEqDiff, reduceCtorEq, reduceIte, reduceDIte, if_pos rfl, Int.reduceLT, Int.reduceLE, Int.reduceEq, Int.reduceNeg, Int.reduceAdd, Int.reduceSub, Int.reduceMul, Int.reduceToNat, opLen] <;> omega) (fun c hc => by
        have q1 : ¬ σ1.next = c := by omega
        have q2 : ¬ σ1.next + 1 = c := by omega
        have q3 : c < σ1.next + 1 := by omega
        simp only [go_sem, Nat.reducePow, Nat.reduceDiv, Nat.reduceMod, Nat.reduceAdd, Nat.reduceSub, Nat.reduceMul, Nat.reduceLeDiff, Nat.reduceLT, Nat.reduceEqDiff, reduceCtorEq, reduceIte, reduceDIte, if_pos rfl, Int.reduceLT, Int.reduceLE, Int.reduceEq, Int.reduceNeg, Int.reduceAdd, Int.reduceSub, Int.reduceMul, Int.reduceToNat, opLen, hc, q1, q2, q3])) (fun c hc => ?_) (by simp only [go_sem, Nat.reducePow, Nat.reduceDiv, Nat.reduceMod, Nat.reduceAdd, Nat.reduceSub, Nat.reduceMul, Nat.reduceLeDiff, Nat.reduceLT, Nat.reduceEqDiff, reduceCtorEq, reduceIte, reduceDIte, if_pos rfl, Int.reduceLT, Int.reduceLE, Int.reduceEq, Int.reduceNeg, Int.reduceAdd, Int.reduceSub, Int.reduceMul, Int.reduceToNat, opLen] <;> omega)
        simp only [List.mem_append, List.mem_cons, List.not_mem_nil, or_false] at hc
        rcases hc with (hc | hc) | hc
        · exact lo1 c hc
        · omega
        · omega
      · have hfx' : (F j == x0) = false := by simpa using hfx
        simp only [go_sem, Nat.reducePow, Nat.reduceDiv, Nat.reduceMod, Nat.reduceAdd, Nat.reduceSub, Nat.reduceMul, Nat.reduceLeDiff, Nat.reduceLT, Nat.reduceEqDiff, reduceCtorEq, reduceIte, reduceDIte, if_pos rfl, Int.reduceLT, Int.reduceLE, Int.reduceEq, Int.reduceNeg, Int.reduceAdd, Int.reduceSub, Int.reduceMul, Int.reduceToNat, opLen, callW, q8, p8, p7, p6, p5, p4, p3, p2, p1, undef, aloneT, aloneX, aloneB, blockOf, dropC, nthC, loopOf, Try.f5, Option.getD, lget_put, lgetq_put, List.length_set, Int.toNat_natCast, e5, e7, e10, e11, el, hxl, gx, z1, hm']
        refine callX.hid htake ?_
        intro σ1 lg1 hlg1 hT
        have n1 := hlg1.1
        obtain ⟨hlog1, HB, hft⟩ := S.q.take hy rfl hx hT
        have lo1 : ∀ c ∈ lg1, lo ≤ c := fun c hc => by
          rcases hlog1 c hc with h | h
          · exact S.q.foot c h
          · have := hl.next; omega
        have hl1 : Low5 σ1 g0 ra xa Rs x0 x1 lo := hl.keep hlg1 lo1
        have S1 : S5 σ1 b (takeQ Q y.id (F j) (Z j) x) b' Q' R F Z A x0 (i + 1) (k + 1) (if F j = x0 then y.id else last) lo :=
          ⟨HB, fun f h1 h2 => (S.fl f h1 h2).take hx (by omega), fun f hf => by
            have e : ¬ f = F j := fun e => hf (e ▸ hvj.1)
            show updF Q.F (F j) _ f = none
            simp only [updF, e, if_false]
            exact S.no f hf, hil _ _, S.o.keep n1 (S.dj.log hlg1 hlog1), S.fo.more, S.dj.left (n := σ.next) (fun c hc => .inl (hft c hc)) fun c hc => S.o.at'.in_foot hc⟩
        have gx1 := hl1.gx
        have hxl1 : xa < σ1.next := by omega
        have hlo := hl.next
        refine ⟨?_⟩
        simp only [go_sem, Nat.reducePow, Nat.reduceDiv, Nat.reduceMod, Nat.reduceAdd, Nat.reduceSub, Nat.reduceMul, Nat.reduceLeDiff, Nat.reduceLT, Nat.reduceEqDiff, reduceCtorEq, reduceIte, reduceDIte, if_pos rfl, Int.reduceLT, Int.reduceLE, Int.reduceEq, Int.reduceNeg, Int.reduceAdd, Int.reduceSub, Int.reduceMul, Int.reduceToNat, opLen, callW, q8, p8, p7, p6, p5, p4, p3, p2, p1, undef, lget_put, lgetq_put, List.length_set, Int.toNat_natCast, e5, e7, e10, e11, el, hxl1, gx1, hfx']
        refine hK _ _ _ _ last ⟨⟨by simp only [List.length_set, el], by simp only [go_sem, Nat.reducePow, Nat.reduceDiv, Nat.reduceMod, Nat.reduceAdd, Nat.reduceSub, Nat.reduceMul, Nat.reduceLeDiff, Nat.reduceLT, Nat.reduceEqDiff, reduceCtorEq, reduceIte, reduceDIte, if_pos rfl, Int.reduceLT, Int.reduceLE, Int.reduceEq, Int.reduceNeg, Int.reduceAdd, Int.reduceSub, Int.reduceMul, Int.reduceToNat, opLen, lget_put, List.length_set, el, e0], by simp only [go_sem, Nat.reducePow, Nat.reduceDiv, Nat.reduceMod, Nat.reduceAdd, Nat.reduceSub, Nat.reduceMul, Nat.reduceLeDiff, Nat.reduceLT, Nat.reduceEqDiff, reduceCtorEq, reduceIte, reduceDIte, if_pos rfl, Int.reduceLT, Int.reduceLE, Int.reduceEq, Int.reduceNeg, Int.reduceAdd, Int.reduceSub, Int.reduceMul, Int.reduceToNat, opLen, lget_put, List.length_set, el, e4], by simp only [go_sem, Nat.reducePow, Nat.reduceDiv, Nat.reduceMod, Nat.reduceAdd, Nat.reduceSub, Nat.reduceMul, Nat.reduceLeDiff, Nat.reduceLT, Nat.reduceEqDiff, reduceCtorEq, reduceIte, reduceDIte, if_pos rfl, Int.reduceLT, Int.reduceLE, Int.reduceEq, Int.reduceNeg, Int.reduceAdd, Int.reduceSub, Int.reduceMul, Int.reduceToNat, opLen, lget_put, List.length_set, el, e5], by simp only [go_sem, Nat.reducePow, Nat.reduceDiv, Nat.reduceMod, Nat.reduceAdd, Nat.reduceSub, Nat.reduceMul, Nat.reduceLeDiff, Nat.reduceLT, Nat.reduceEqDiff, reduceCtorEq, reduceIte, reduceDIte, if_pos rfl, Int.reduceLT, Int.reduceLE, Int.reduceEq, Int.reduceNeg, Int.reduceAdd, Int.reduceSub, Int.reduceMul, Int.reduceToNat, opLen, lget_put, List.length_set, el, e7], by simp only [go_sem, Nat.reducePow, Nat.reduceDiv, Nat.reduceMod, Nat.reduceAdd, Nat.reduceSub, Nat.reduceMul, Nat.reduceLeDiff, Nat.reduceLT, Nat.reduceEqDiff, reduceCtorEq, reduceIte, reduceDIte, if_pos rfl, Int.reduceLT, Int.reduceLE, Int.reduceEq, Int.reduceNeg, Int.reduceAdd, Int.reduceSub, Int.reduceMul, Int.reduceToNat, opLen, lget_put, List.length_set, el, e8]⟩, by simp only [go_sem, Nat.reducePow, Nat.reduceDiv, Nat.reduceMod, Nat.reduceAdd, Nat.reduceSub, Nat.reduceMul, Nat.reduceLeDiff, Nat.reduceLT, Nat.reduceEqDiff, reduceCtorEq, reduceIte, reduceDIte, if_pos rfl, Int.reduceLT, Int.reduceLE, Int.reduceEq, Int.reduceNeg, Int.reduceAdd, Int.reduceSub, Int.reduceMul, Int.reduceToNat, opLen, lget_put, List.length_set, el, e10], by simp only [go_sem, Nat.reducePow, Nat.reduceDiv, Nat.reduceMod, Nat.reduceAdd, Nat.reduceSub, Nat.reduceMul, Nat.reduceLeDiff, Nat.reduceLT, Nat.reduceEqDiff, reduceCtorEq, reduceIte, reduceDIte, if_pos rfl, Int.reduceLT, Int.reduceLE, Int.reduceEq, Int.reduceNeg, Int.reduceAdd, Int.reduceSub, Int.reduceMul, Int.reduceToNat, opLen, lget_put, List.length_set, el, e11]⟩ (hl1.grow (by simp only [go_sem, Nat.reducePow, Nat.reduceDiv, Nat.reduceMod, Nat.reduceAdd, Nat.reduceSub, Nat.reduceMul, Nat.reduceLeDiff, Nat.reduceLT, Nat.reduceEqDiff, reduceCtorEq, reduceIte, reduceDIte, if_pos rfl, Int.reduceLT, Int.reduceLE, Int.reduceEq, Int.reduceNeg, Int.reduceAdd, Int.reduceSub, Int.reduceMul, Int.reduceToNat, opLen] <;> omega) (fun c hc => by
        have q1 : ¬ σ1.next = c := by omega
        have q2 : ¬ σ1.next + 1 = c := by omega
        have q3 : c < σ1.next + 1 := by omega
        simp only [go_sem, Nat.reducePow, Nat.reduceDiv, Nat.reduceMod, Nat.reduceAdd, Nat.reduceSub, Nat.reduceMul, Nat.reduceLeDiff, Nat.reduceLT, Nat.reduceEqDiff, reduceCtorEq, reduceIte, reduceDIte, if_pos rfl, Int.reduceLT, Int.reduceLE, Int.reduceEq, Int.reduceNeg, Int.reduceAdd, Int.reduceSub, Int.reduceMul, Int.reduceToNat, opLen, hc, q1, q2, q3])) ((if_neg hfx ▸ S1).grow (by simp only [go_sem, Nat.reducePow, Nat.reduceDiv, Nat.reduceMod, Nat.reduceAdd, Nat.reduceSub, Nat.reduceMul, Nat.reduceLeDiff, Nat.reduceLT, Nat.reduceEqDiff, reduceCtorEq, reduceIte, reduceDIte, if_pos rfl, Int.reduceLT, Int.reduceLE, Int.reduceEq, Int.reduceNeg, Int.reduceAdd, Int.reduceSub, Int.reduceMul, Int.reduceToNat, opLen] <;> omega) (fun c hc => by
        have q1 : ¬ σ1.next = c := by omega
        have q2 : ¬ σ1.next + 1 = c := by omega
        have q3 : c < σ1.next + 1 := by omega
        simp only [go_sem, Nat.reducePow, Nat.reduceDiv, Nat.reduceMod, Nat.reduceAdd, Nat.reduceSub, Nat.reduceMul, Nat.reduceLeDiff, Nat.reduceLT, Nat.reduceEqDiff, reduceCtorEq, reduceIte, reduceDIte, if_pos rfl, Int.reduceLT, Int.reduceLE, Int.reduceEq, Int.reduceNeg, Int.reduceAdd, Int.reduceSub, Int.reduceMul, Int.reduceToNat, opLen, hc, q1, q2, q3])) (fun c hc => ?_) (by simp only [go_sem, Nat.reducePow, Nat.reduceDiv, Nat.reduceMod, Nat.reduceAdd, Nat.reduceSub, Nat.reduceMul, Nat.reduceLeDiff, Nat.reduceLT, Nat.reduceEqDiff, reduceCtorEq, reduceIte, reduceDIte, if_pos rfl, Int.reduceLT, Int.reduceLE, Int.reduceEq, Int.reduceNeg, Int.reduceAdd, Int.reduceSub, Int.reduceMul, Int.reduceToNat, opLen] <;> omega)
        simp only [List.mem_append, List.mem_cons, List.not_mem_nil, or_false] at hc
        rcases hc with (hc | hc) | hc
        · exact lo1 c hc
        · omega
        · omega
  · have hm' : ((i : Int).tmod x1 == 0) = false := by simpa using hm
    simp only [go_sem, Nat.reducePow, Nat.reduceDiv, Nat.reduceMod, Nat.reduceAdd, Nat.reduceSub, Nat.reduceMul, Nat.reduceLeDiff, Nat.reduceLT, Nat.reduceEqDiff, reduceCtorEq, reduceIte, reduceDIte, if_pos rfl, Int.reduceLT, Int.reduceLE, Int.reduceEq, Int.reduceNeg, Int.reduceAdd, Int.reduceSub, Int.reduceMul, Int.reduceToNat, opLen, callW, q8, p8, p7, p6, p5, p4, p3, p2, p1, undef, aloneT, aloneX, aloneB, blockOf, dropC, nthC, loopOf, Try.f5, Option.getD, lget_put, lgetq_put, List.length_set, Int.toNat_natCast, e5, e7, e10, e11, el, hxl, gx, z1, hm']
    exact hK _ _ _ Q last ⟨⟨by simp only [List.length_set, el], by simp only [go_sem, Nat.reducePow, Nat.reduceDiv, Nat.reduceMod, Nat.reduceAdd, Nat.reduceSub, Nat.reduceMul, Nat.reduceLeDiff, Nat.reduceLT, Nat.reduceEqDiff, reduceCtorEq, reduceIte, reduceDIte, if_pos rfl, Int.reduceLT, Int.reduceLE, Int.reduceEq, Int.reduceNeg, Int.reduceAdd, Int.reduceSub, Int.reduceMul, Int.reduceToNat, opLen, lget_put, List.length_set, el, e0], by simp only [go_sem, Nat.reducePow, Nat.reduceDiv, Nat.reduceMod, Nat.reduceAdd, Nat.reduceSub, Nat.reduceMul, Nat.reduceLeDiff, Nat.reduceLT, Nat.reduceEqDiff, reduceCtorEq, reduceIte, reduceDIte, if_pos rfl, Int.reduceLT, Int.reduceLE, Int.reduceEq, Int.reduceNeg, Int.reduceAdd, Int.reduceSub, Int.reduceMul, Int.reduceToNat, opLen, lget_put, List.length_set, el, e4], by simp only [go_sem, Nat.reducePow, Nat.reduceDiv, Nat.reduceMod, Nat.reduceAdd, Nat.reduceSub, Nat.reduceMul, Nat.reduceLeDiff, Nat.reduceLT, Nat.reduceEqDiff, reduceCtorEq, reduceIte, reduceDIte, if_pos rfl, Int.reduceLT, Int.reduceLE, Int.reduceEq, Int.reduceNeg, Int.reduceAdd, Int.reduceSub, Int.reduceMul, Int.reduceToNat, opLen, lget_put, List.length_set, el, e5], by simp only [go_sem, Nat.reducePow, Nat.reduceDiv, Nat.reduceMod, Nat.reduceAdd, Nat.reduceSub, Nat.reduceMul, Nat.reduceLeDiff, Nat.reduceLT, Nat.reduceEqDiff, reduceCtorEq, reduceIte, reduceDIte, if_pos rfl, Int.reduceLT, Int.reduceLE, Int.reduceEq, Int.reduceNeg, Int.reduceAdd, Int.reduceSub, Int.reduceMul, Int.reduceToNat, opLen, lget_put, List.length_set, el, e7], by simp only [go_sem, Nat.reducePow, Nat.reduceDiv, Nat.reduceMod, Nat.reduceAdd, Nat.reduceSub, Nat.reduceMul, Nat.reduceLeDiff, Nat.reduceLT, Nat.reduceEqDiff, reduceCtorEq, reduceIte, reduceDIte, if_pos rfl, Int.reduceLT, Int.reduceLE, Int.reduceEq, Int.reduceNeg, Int.reduceAdd, Int.reduceSub, Int.reduceMul, Int.reduceToNat, opLen, lget_put, List.length_set, el, e8]⟩, by simp only [go_sem, Nat.reducePow, Nat.reduceDiv, Nat.reduceMod, Nat.reduceAdd, Nat.reduceSub, Nat.reduceMul, Nat.reduceLeDiff, Nat.reduceLT, Nat.reduceEqDiff, reduceCtorEq, reduceIte, reduceDIte, if_pos rfl, Int.reduceLT, Int.reduceLE, Int.reduceEq, Int.reduceNeg, Int.reduceAdd, Int.reduceSub, Int.reduceMul, Int.reduceToNat, opLen, lget_put, List.length_set, el, e10], by simp only [go_sem, Nat.reducePow, Nat.reduceDiv, Nat.reduceMod, Nat.reduceAdd, Nat.reduceSub, Nat.reduceMul, Nat.reduceLeDiff, Nat.reduceLT, Nat.reduceEqDiff, reduceCtorEq, reduceIte, reduceDIte, if_pos rfl, Int.reduceLT, Int.reduceLE, Int.reduceEq, Int.reduceNeg, Int.reduceAdd, Int.reduceSub, Int.reduceMul, Int.reduceToNat, opLen, lget_put, List.length_set, el, e11]⟩ hl S.more (fun c hc => absurd hc (List.not_mem_nil)) (Nat.le_refl _)

/- Else the goals of the loop's step are reduced, again and again. -/
attribute [irreducible] aloneT

end Go.Ab
