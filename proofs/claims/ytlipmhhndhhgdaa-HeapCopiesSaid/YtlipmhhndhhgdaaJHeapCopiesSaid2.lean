/- HeapCopiesSaid: part 3 of 7 of the proof that it returns true for every input and leaves its arguments as they were; no condition. -/
import Derived.Test.YtlipmhhndhhgdaaJHeapCopiesSaid1
import Derived.DataShut
import Init
import Derived.Sort.AssemblyPlain
set_option linter.unusedSimpArgs false
set_option linter.unusedVariables false
namespace Go.Ab
open Go.Proofs
attribute [simp] opLoad opStore opAlloc opFieldAddr opIndexAddr St.get_new St.get_set St.get_put clash SK.isFull SK.lg SK.rd
def okI (n : Int) : Bool := decide (-9223372036854775808 ≤ n) && decide (n < 9223372036854775808)
def okU (n : Int) : Bool := decide (0 ≤ n) && decide (n < 18446744073709551616)
def p1 : FuncId → List Value → Option Value
 | 78, [.int .i64 n] => if okI n then some (.int .u64 n.natAbs) else none
 | 77, [.int .u64 a, .int .u64 b] => if okU a && okU b then some (.int .u64 (Int.gcd a b)) else none
 | _, _ => none
theorem p1_ok : (pureO p1).Ok Try.prog := pureO_ok fun f args v h σ => by
 unfold p1 at h
 split at h
 ·split at h
  ·rename_i n hn
   simp only [okI, Bool.and_eq_true, decide_eq_true_eq] at hn
   cases h; exact size_call n σ hn.1 hn.2
  ·cases h
 ·split at h
  ·rename_i a b hn
   simp only [okU, Bool.and_eq_true, decide_eq_true_eq] at hn
   cases h
   have := gcd_call a.natAbs b.natAbs σ (by omega) (by omega)
   rw [Int.natAbs_of_nonneg hn.1.1, Int.natAbs_of_nonneg hn.2.1] at this
   exact this
  ·cases h
 ·cases h
def bt45 : Nat → List Nat
 | 1 => [0, 1, 3, 7, 15, 31, 63, 127, 255, 511, 1023, 2047, 511, 4607, 12799, 32767, 65535, 131071]
 | _ => []
def chk (n d : Int) : Prop := 1 ≤ d ∧ n ≠ -9223372036854775808 ∧ Int.gcd n d = 1
instance (n d : Int) : Decidable (chk n d) := inferInstanceAs (Decidable (_ ∧ _ ∧ _))
theorem check_call (n d : Int) (σ : St) (hn : okI n = true) (hd : okI d = true) : DCall Try.prog 45 [.agg ⟨[.int .i64 n, .int .i64 d]⟩] σ (.ret (.int .i64 (if chk n d then 0 else 2))) σ [] := by
 refine DCall.forget (σ' := σ.new (.cells [.int .i64 n, .int .i64 d] false)) ?_ (by split <;> rfl)
 refine calls p1_ok Try.func45 rfl 20 bt45 (by kernel_rfl) ?_
 have hn' := hn
 have hd' := hd
 simp only [okI, Bool.and_eq_true, decide_eq_true_eq] at hn' hd'
 by_cases h1 : d < 1
 ·refine ⟨_, by simp only [go_sem, seval, if_pos rfl, Try.f45, Try.underlying2, info2, Try.t2, Try.underlying24, info24, Try.t24, Try.underlying28, info28, Try.t28, Try.underlying115, info115, Try.t115, h1] <;> rfl, ?_⟩
  have : ¬ chk n d := fun h => by have := h.1; omega
  simp [Try.f45, this]
 ·by_cases h2 : n = -9223372036854775808
  ·subst h2
   refine ⟨_, by simp only [go_sem, seval, if_pos rfl, Try.f45, Try.underlying2, info2, Try.t2, Try.underlying24, info24, Try.t24, Try.underlying28, info28, Try.t28, Try.underlying115, info115, Try.t115, h1] <;> rfl, ?_⟩
   have : ¬ chk (-9223372036854775808) d := fun h => h.2.1 rfl
   simp [Try.f45, this]
  ·have hb : (n == -9223372036854775808) = false := by simp [h2]
   have hw : IntKind.u64.wrap d = d := by rw [IntKind.wrap_u64]; omega
   have hu1 : okU (n.natAbs : Int) = true := by simp [okU]; omega
   have hu2 : okU d = true := by simp [okU]; omega
   have hgg : Int.gcd (n.natAbs : Int) d = Int.gcd n d := by simp [Int.gcd]
   by_cases h3 : Int.gcd n d = 1
   ·have hg : ((Int.gcd (n.natAbs : Int) d : Int) != 1) = false := by rw [hgg, h3]; rfl
    refine ⟨_, by simp only [go_sem, seval, if_pos rfl, bt45, p1, Try.f45, Try.underlying2, info2, Try.t2, Try.underlying24, info24, Try.t24, Try.underlying28, info28, Try.t28, Try.underlying115, info115, Try.t115, h1, hb, hw, hn, hu1, hu2, hg, body77, body78] <;> rfl, ?_⟩
    have : chk n d := ⟨by omega, h2, h3⟩
    simp [Try.f45, this]
   ·have hg : ((Int.gcd (n.natAbs : Int) d : Int) != 1) = true := by rw [hgg]; simp; omega
    refine ⟨_, by simp only [go_sem, seval, if_pos rfl, bt45, p1, Try.f45, Try.underlying2, info2, Try.t2, Try.underlying24, info24, Try.t24, Try.underlying28, info28, Try.t28, Try.underlying115, info115, Try.t115, h1, hb, hw, hn, hu1, hu2, hg, body77, body78] <;> rfl, ?_⟩
    have : ¬ chk n d := fun h => h3 h.2.2
    simp [Try.f45, this]
end Go.Ab
namespace Go.Ab
theorem okI_of_wf {n : Int} (h : (Lit.int .i64 n).wf = true) : okI n = true := by
 have h1 := IntKind.min_i64
 have h2 : IntKind.i64.max = 9223372036854775807 := rfl
 simp only [Lit.wf, Bool.and_eq_true, decide_eq_true_eq, h1, h2] at h
 simp only [okI, Bool.and_eq_true, decide_eq_true_eq]
 omega
end Go.Ab
namespace Go.Ab
open Go.Proofs
theorem and32 (x : Int) : IntKind.u64.wrap ((BitVec.ofInt IntKind.u64.bits x &&& BitVec.ofInt IntKind.u64.bits 4294967295).toNat : Int) = x % 4294967296 := by
 have e : ((BitVec.ofInt IntKind.u64.bits x).toNat : Int) = x % 18446744073709551616 := by
  rw [BitVec.toNat_ofInt]
  have : (2 : Int) ^ IntKind.u64.bits = 18446744073709551616 := rfl
  have h2 : ((2 ^ IntKind.u64.bits : Nat) : Int) = 18446744073709551616 := rfl
  rw [h2, Int.toNat_of_nonneg (Int.emod_nonneg _ (by decide))]
 have h3 : (BitVec.ofInt IntKind.u64.bits 4294967295).toNat = 2 ^ 32 - 1 := rfl
 rw [BitVec.toNat_and, h3, Nat.and_two_pow_sub_one_eq_mod, IntKind.wrap_u64]
 have h4 : (((BitVec.ofInt IntKind.u64.bits x).toNat % 2 ^ 32 : Nat) : Int) = (x % 18446744073709551616) % 4294967296 := by
  rw [Int.natCast_emod, e]; rfl
 rw [h4]
 omega
theorem sh32 (x : Int) : x.fdiv (2 ^ min 32 IntKind.u64.bits) = x / 4294967296 := by
 have : (2 : Int) ^ min 32 IntKind.u64.bits = 4294967296 := rfl
 rw [this, Int.fdiv_eq_ediv_of_nonneg _ (by decide)]
theorem prod_le {a b : Int} (ha : 0 ≤ a) (ha' : a ≤ 4294967295) (hb : 0 ≤ b) (hb' : b ≤ 4294967295) : 0 ≤ a * b ∧ a * b ≤ 18446744065119617025 :=
 ⟨Int.mul_nonneg ha hb, Int.le_trans (Int.mul_le_mul ha' hb' hb (by decide)) (by decide)⟩
theorem mul64_math (x y : Int) (hx0 : 0 ≤ x) (hx1 : x < 18446744073709551616) (hy0 : 0 ≤ y) (hy1 : y < 18446744073709551616) :
  IntKind.u64.wrap (IntKind.u64.wrap (IntKind.u64.wrap (x / 4294967296 * (y / 4294967296)) + IntKind.u64.wrap (IntKind.u64.wrap (x / 4294967296 * (y % 4294967296)) + IntKind.u64.wrap (x % 4294967296 * (y % 4294967296)) / 4294967296) / 4294967296) +
   IntKind.u64.wrap (IntKind.u64.wrap (IntKind.u64.wrap (x / 4294967296 * (y % 4294967296)) + IntKind.u64.wrap (x % 4294967296 * (y % 4294967296)) / 4294967296) % 4294967296 + IntKind.u64.wrap (x % 4294967296 * (y / 4294967296))) / 4294967296) = x * y / 18446744073709551616 := by
 have ex : x = 4294967296 * (x / 4294967296) + x % 4294967296 := (Int.mul_ediv_add_emod x 4294967296).symm
 have ey : y = 4294967296 * (y / 4294967296) + y % 4294967296 := (Int.mul_ediv_add_emod y 4294967296).symm
 have bx1 : 0 ≤ x / 4294967296 ∧ x / 4294967296 ≤ 4294967295 := by omega
 have by1 : 0 ≤ y / 4294967296 ∧ y / 4294967296 ≤ 4294967295 := by omega
 have bx0 : 0 ≤ x % 4294967296 ∧ x % 4294967296 ≤ 4294967295 := by omega
 have by0 : 0 ≤ y % 4294967296 ∧ y % 4294967296 ≤ 4294967295 := by omega
 generalize x / 4294967296 = X1 at *
 generalize x % 4294967296 = X0 at *
 generalize y / 4294967296 = Y1 at *
 generalize y % 4294967296 = Y0 at *
 have h11 := prod_le bx1.1 bx1.2 by1.1 by1.2
 have h10 := prod_le bx1.1 bx1.2 by0.1 by0.2
 have h01 := prod_le bx0.1 bx0.2 by1.1 by1.2
 have h00 := prod_le bx0.1 bx0.2 by0.1 by0.2
 have e : x * y = 18446744073709551616 * (X1 * Y1) + 4294967296 * (X1 * Y0) + 4294967296 * (X0 * Y1) + X0 * Y0 := by
  rw [ex, ey]; grind
 rw [e]
 generalize X1 * Y1 = p11 at *
 generalize X1 * Y0 = p10 at *
 generalize X0 * Y1 = p01 at *
 generalize X0 * Y0 = p00 at *
 simp only [IntKind.wrap_u64]
 omega
theorem mul64_call (x y : Int) (σ : St) (hx : okU x = true) (hy : okU y = true) : DCall Try.prog 140 [.int .u64 x, .int .u64 y] σ (.ret (.tuple ⟨[.int .u64 (x * y / 18446744073709551616), .int .u64 (x * y % 18446744073709551616)]⟩)) σ [] := by
 simp only [okU, Bool.and_eq_true, decide_eq_true_eq] at hx hy
 refine calls Orc.none_ok Try.func140 rfl 40 nobt (by kernel_rfl) ?_
 refine ⟨_, by simp only [nadd_le, nadd_lt, nle_add, nlt_add, nadd_eq, neq_add, Nat.add_le_add_iff_left, Nat.add_lt_add_iff_left, Nat.add_left_cancel_iff, Nat.add_assoc, Nat.testBit_eq_decide_div_mod_eq, Nat.reducePow, Nat.reduceDiv, Nat.reduceMod, runOps_nil, runOps_cons, runDrawn_nil, runDrawn_cons, run_loop_job, run_scope_job, run_skip, run_label, run_exit, run_goto, run_ret, run_seq, run_cond, run_block, run_loop, run_scope, run_region, pureK_some, pureO_call, callK_ret, callK_panic, opsK_val, opsK_new, opsK_eff, opsK_panic, opsK_enter, opsK_round, opsK_defer, wantK_true, wantK_false, consD_some, callD_ret, drawnK_val, drawnK_new, drawnK_eff, drawnK_enter, condK_true, condK_false, blockK_some, preO_some, thenR_norm, thenR_exit, thenR_goto, thenR_ret, thenR_panic, jumpK_some, jumpK_none, scopeK_goto, scopeK_norm, scopeK_exit, scopeK_ret, scopeK_panic, regO_some, regD_some, regionR_false, regionR_true, dynOk, loud, quietK, stepOp, stepBuiltin, start, Fr.put, putL, wantedA, yieldedA, lget?, ev, evs, evo, lget, plain, plainL, partsA, cx_und, cx_info, cx_flat, opBin, isShift, intOp, shiftOp, strOp, eqOp, opUn, opConvert, RR.pre, endsA, resA, resList, resOne, opPick, opExtract, opBuild, opBuildSlice, opBuild.lgetP, Nat.le_zero_eq, Nat.zero_le, opBox, opNilCheck, opField, opIndex, opCall, AX.inBlock, findLabel, isAggD, partA, placesA, fillA, opMakeFunc, opMakeIface, opPanic, opDefer, bnd, oneCells, vcells, over, opLoad, opStore, opAlloc, opFieldAddr, opIndexAddr, St.get_new, St.get_set, St.get_put, St.next_new, St.next_set, clash, SK.isFull, SK.lg, SK.rd, List.set_cons_succ, List.set_cons_zero, List.getElem?_cons_succ, List.getElem?_cons_zero, List.length_cons, List.length_nil, List.append_nil, List.nil_append, List.cons_append, List.replicate_succ, List.replicate_zero, List.drop_zero, List.drop_succ_cons, List.take_zero, List.take_succ_cons, List.take_nil, List.drop_nil, Option.map_some, Option.map_none, Bool.and_true, Bool.true_and, Bool.and_false, Bool.false_and, Bool.or_true, Bool.true_or, Bool.or_false, Bool.false_or, Bool.not_true, Bool.not_false, decide_true, decide_false, if_true, if_false, ite_true, ite_false, dite_true, dite_false, List.all_cons, List.all_nil, List.any_cons, List.any_nil, List.contains_cons, List.contains_nil, List.isEmpty_nil, List.isEmpty_cons, Nat.reduceAdd, Nat.reduceSub, Nat.reduceMul, Nat.reduceLeDiff, Nat.reduceLT, Nat.reduceEqDiff, Nat.zero_add, Nat.add_zero, beq_self_eq_true, Bool.true_beq, Bool.false_beq, bne_iff_ne, bne_self_eq_false, reduceCtorEq, List.getD_cons_succ, List.getD_cons_zero, List.getD_nil, and_true, true_and, and_self, not_true_eq_false, not_false_eq_true, eq_self, ne_eq, reduceIte, reduceDIte, Option.some.injEq, if_pos rfl, beq_iff_eq, Int.reduceLT, Int.reduceLE, Int.reduceEq, Int.reduceNeg, Int.reduceAdd, Int.reduceSub, Int.reduceMul, Nat.lt_irrefl, Nat.le_refl, Nat.succ_ne_self, List.size_toArray, Int.cast_ofNat_Int, Int.reduceToNat, Nat.zero_mul, Nat.one_mul, Nat.mul_one, Try.f140, Try.underlying115, info115, Try.t115, and32, sh32] <;> rfl, ?_⟩
 have e := IntKind.wrap_u64 (x * y)
 simp only [nadd_le, nadd_lt, nle_add, nlt_add, nadd_eq, neq_add, Nat.add_le_add_iff_left, Nat.add_lt_add_iff_left, Nat.add_left_cancel_iff, Nat.add_assoc, Nat.testBit_eq_decide_div_mod_eq, Nat.reducePow, Nat.reduceDiv, Nat.reduceMod, runOps_nil, runOps_cons, runDrawn_nil, runDrawn_cons, run_loop_job, run_scope_job, run_skip, run_label, run_exit, run_goto, run_ret, run_seq, run_cond, run_block, run_loop, run_scope, run_region, pureK_some, pureO_call, callK_ret, callK_panic, opsK_val, opsK_new, opsK_eff, opsK_panic, opsK_enter, opsK_round, opsK_defer, wantK_true, wantK_false, consD_some, callD_ret, drawnK_val, drawnK_new, drawnK_eff, drawnK_enter, condK_true, condK_false, blockK_some, preO_some, thenR_norm, thenR_exit, thenR_goto, thenR_ret, thenR_panic, jumpK_some, jumpK_none, scopeK_goto, scopeK_norm, scopeK_exit, scopeK_ret, scopeK_panic, regO_some, regD_some, regionR_false, regionR_true, dynOk, loud, quietK, stepOp, stepBuiltin, start, Fr.put, putL, wantedA, yieldedA, lget?, ev, evs, evo, lget, plain, plainL, partsA, cx_und, cx_info, cx_flat, opBin, isShift, intOp, shiftOp, strOp, eqOp, opUn, opConvert, RR.pre, endsA, resA, resList, resOne, opPick, opExtract, opBuild, opBuildSlice, opBuild.lgetP, Nat.le_zero_eq, Nat.zero_le, opBox, opNilCheck, opField, opIndex, opCall, AX.inBlock, findLabel, isAggD, partA, placesA, fillA, opMakeFunc, opMakeIface, opPanic, opDefer, bnd, oneCells, vcells, over, opLoad, opStore, opAlloc, opFieldAddr, opIndexAddr, St.get_new, St.get_set, St.get_put, St.next_new, St.next_set, clash, SK.isFull, SK.lg, SK.rd, List.set_cons_succ, List.set_cons_zero, List.getElem?_cons_succ, List.getElem?_cons_zero, List.length_cons, List.length_nil, List.append_nil, List.nil_append, List.cons_append, List.replicate_succ, List.replicate_zero, List.drop_zero, List.drop_succ_cons, List.take_zero, List.take_succ_cons, List.take_nil, List.drop_nil, Option.map_some, Option.map_none, Bool.and_true, Bool.true_and, Bool.and_false, Bool.false_and, Bool.or_true, Bool.true_or, Bool.or_false, Bool.false_or, Bool.not_true, Bool.not_false, decide_true, decide_false, if_true, if_false, ite_true, ite_false, dite_true, dite_false, List.all_cons, List.all_nil, List.any_cons, List.any_nil, List.contains_cons, List.contains_nil, List.isEmpty_nil, List.isEmpty_cons, Nat.reduceAdd, Nat.reduceSub, Nat.reduceMul, Nat.reduceLeDiff, Nat.reduceLT, Nat.reduceEqDiff, Nat.zero_add, Nat.add_zero, beq_self_eq_true, Bool.true_beq, Bool.false_beq, bne_iff_ne, bne_self_eq_false, reduceCtorEq, List.getD_cons_succ, List.getD_cons_zero, List.getD_nil, and_true, true_and, and_self, not_true_eq_false, not_false_eq_true, eq_self, ne_eq, reduceIte, reduceDIte, Option.some.injEq, if_pos rfl, beq_iff_eq, Int.reduceLT, Int.reduceLE, Int.reduceEq, Int.reduceNeg, Int.reduceAdd, Int.reduceSub, Int.reduceMul, Nat.lt_irrefl, Nat.le_refl, Nat.succ_ne_self, List.size_toArray, Int.cast_ofNat_Int, Int.reduceToNat, Nat.zero_mul, Nat.one_mul, Nat.mul_one, Try.f140, mul64_math x y hx.1 hx.2 hy.1 hy.2, e]
def p2 : FuncId → List Value → Option Value
 | 140, [.int .u64 x, .int .u64 y] => if okU x && okU y then some (.tuple ⟨[.int .u64 (x * y / 18446744073709551616), .int .u64 (x * y % 18446744073709551616)]⟩) else none
 | f, args => p1 f args
theorem p1_is : ∀ f args v, p1 f args = some v → ∀ σ, DCall Try.prog f args σ (.ret v) σ [] := fun f args v h σ =>
 p1_ok.call f args σ (.ret v) σ [] (by rw [pureO_call, h]; rfl)
theorem p2_is : ∀ f args v, p2 f args = some v → ∀ σ, DCall Try.prog f args σ (.ret v) σ [] := fun f args v h σ => by
 unfold p2 at h
 split at h
 ·split at h
  ·rename_i x y hn
   simp only [Bool.and_eq_true] at hn
   cases h
   exact mul64_call x y σ hn.1 hn.2
  ·cases h
 ·exact p1_is f args v h σ
theorem p2_ok : (pureO p2).Ok Try.prog := pureO_ok p2_is
def wideV (n : Int) : Value := .agg ⟨[.int .u64 (n / 18446744073709551616), .int .u64 (n % 18446744073709551616)]⟩
theorem times_call (x y : Int) (σ : St) (hx : okU x = true) (hy : okU y = true) : DCall Try.prog 119 [.int .u64 x, .int .u64 y] σ (.ret (wideV (x * y))) σ [] := by
 refine DCall.forget (σ' := (σ.new (.cells [.int .u64 0, .int .u64 0] false)).set σ.next (.cells [.int .u64 (x * y / 18446744073709551616), .int .u64 (x * y % 18446744073709551616)] false)) ?_ rfl
 have h := callsL p2_ok Try.func119 rfl 40 nobt (by kernel_rfl) (args := [.int .u64 x, .int .u64 y]) (σ := σ) (e := .ret (wideV (x * y)))
  (σ' := (σ.new (.cells [.int .u64 0, .int .u64 0] false)).set σ.next (.cells [.int .u64 (x * y / 18446744073709551616), .int .u64 (x * y % 18446744073709551616)] false))
  ⟨_, by simp only [go_sem, seval, if_pos rfl, Try.f119, p2, Try.underlying115, info115, Try.t115, Try.underlying190, info190, Try.t190, Try.underlying191, info191, Try.t191, Try.underlying198, info198, Try.t198, hx, hy, body140] <;> rfl, by simp only [go_sem, seval, if_pos rfl, Try.f119, Try.underlying115, info115, Try.t115, Try.underlying190, info190, Try.t190, Try.underlying191, info191, Try.t191, wideV], rfl, fun c hc => by rw [St.get_set, if_neg (by omega), St.get_new, if_neg (by omega)]⟩
 exact h
theorem less_call (a b : Int) (σ : St) : DCall Try.prog 120 [wideV a, wideV b] σ (.ret (.bool (decide (a < b)))) σ [] := by
 have dec : ∀ x y : Int, decide (x < y) = (decide (x / 18446744073709551616 < y / 18446744073709551616) || ((x / 18446744073709551616 == y / 18446744073709551616) && decide (x % 18446744073709551616 < y % 18446744073709551616))) := fun x y => by
  by_cases h : x < y
  ·have : x / 18446744073709551616 < y / 18446744073709551616 ∨ x / 18446744073709551616 = y / 18446744073709551616 ∧ x % 18446744073709551616 < y % 18446744073709551616 := by omega
   simp [h]; omega
  ·simp [h]; omega
 refine DCall.forget (σ' := (σ.new (.cells [.int .u64 (a / 18446744073709551616), .int .u64 (a % 18446744073709551616)] false)).new (.cells [.int .u64 (b / 18446744073709551616), .int .u64 (b % 18446744073709551616)] false)) ?_ rfl
 rw [dec]
 unfold wideV
 generalize a / 18446744073709551616 = a1
 generalize a % 18446744073709551616 = a0
 generalize b / 18446744073709551616 = b1
 generalize b % 18446744073709551616 = b0
 refine callsL p2_ok Try.func120 rfl 40 nobt (by kernel_rfl) ?_
 by_cases h1 : a1 < b1
 ·exact ⟨_, by simp only [go_sem, seval, if_pos rfl, Try.f120, Try.underlying4, info4, Try.t4, Try.underlying115, info115, Try.t115, Try.underlying190, info190, Try.t190, Try.underlying191, info191, Try.t191, h1] <;> rfl, by simp only [go_sem, seval, if_pos rfl, Try.f120, h1], rfl, fun c hc => by rw [St.get_new, if_neg (by simp; omega), St.get_new, if_neg (by omega)]⟩
 ·by_cases h2 : a1 = b1
  ·subst h2
   by_cases h3 : a0 < b0
   ·exact ⟨_, by simp only [go_sem, seval, if_pos rfl, Try.f120, Try.underlying4, info4, Try.t4, Try.underlying115, info115, Try.t115, Try.underlying190, info190, Try.t190, Try.underlying191, info191, Try.t191, h1, h3] <;> rfl, by simp only [go_sem, seval, if_pos rfl, Try.f120, h1, h3], rfl, fun c hc => by rw [St.get_new, if_neg (by simp; omega), St.get_new, if_neg (by omega)]⟩
   ·exact ⟨_, by simp only [go_sem, seval, if_pos rfl, Try.f120, Try.underlying4, info4, Try.t4, Try.underlying115, info115, Try.t115, Try.underlying190, info190, Try.t190, Try.underlying191, info191, Try.t191, h1, h3] <;> rfl, by simp only [go_sem, seval, if_pos rfl, Try.f120, h1, h3], rfl, fun c hc => by rw [St.get_new, if_neg (by simp; omega), St.get_new, if_neg (by omega)]⟩
  ·have h4 : (a1 == b1) = false := by simp [h2]
   exact ⟨_, by simp only [go_sem, seval, if_pos rfl, Try.f120, Try.underlying4, info4, Try.t4, Try.underlying115, info115, Try.t115, Try.underlying190, info190, Try.t190, Try.underlying191, info191, Try.t191, h1, h4] <;> rfl, by simp only [go_sem, seval, if_pos rfl, Try.f120, h1, h4], rfl, fun c hc => by rw [St.get_new, if_neg (by simp; omega), St.get_new, if_neg (by omega)]⟩
end Go.Ab
namespace Go.Ab
open Go.Proofs
theorem must_call (k : IntKind) (n : Int) (σ : St) : DCall Try.prog 91 [.bool true, .int k n] σ (.ret (.tuple ⟨[]⟩)) σ [] := by
 refine calls Orc.none_ok Try.func91 rfl 20 nobt (by kernel_rfl) ?_
 exact ⟨_, by simp only [go_sem, seval, if_pos rfl, Try.f91, Try.underlying4, info4, Try.t4, Try.underlying28, info28, Try.t28, Try.underlying115, info115, Try.t115] <;> rfl, by simp only [go_sem, seval, if_pos rfl, Try.f91], rfl, rfl⟩
def p3 : FuncId → List Value → Option Value
 | 45, [.agg ⟨[.int .i64 n, .int .i64 d]⟩] => if okI n && okI d then some (.int .i64 (if chk n d then 0 else 2)) else none
 | 91, [.bool true, .int _ _] => some (.tuple ⟨[]⟩)
 | f, args => p2 f args
theorem p3_is : ∀ f args v, p3 f args = some v → ∀ σ, DCall Try.prog f args σ (.ret v) σ [] := fun f args v h σ => by
 unfold p3 at h
 split at h
 ·split at h
  ·rename_i n d hn
   simp only [Bool.and_eq_true] at hn
   cases h
   exact check_call n d σ hn.1 hn.2
  ·cases h
 ·cases h; exact must_call _ _ σ
 ·exact p2_is f args v h σ
theorem p3_ok : (pureO p3).Ok Try.prog := pureO_ok p3_is
theorem both_call (b : Nat) (n₁ d₁ n₂ d₂ : Int) (σ : St) (hb : b < σ.next) (hg : σ.get b = some (.cells [.int .i64 n₁, .int .i64 d₁, .int .i64 n₂, .int .i64 d₂] false))
  (h1 : okI n₁ = true) (h2 : okI d₁ = true) (h3 : okI n₂ = true) (h4 : okI d₂ = true) (c1 : chk n₁ d₁) (c2 : chk n₂ d₂) :
  DCall Try.prog 118 [.slice (some ⟨b, 0, some 0⟩) 2 2] σ (.ret (.tuple ⟨[]⟩)) σ [] := by
 have hne : ¬ σ.next = b := by omega
 have hne2 : ¬ σ.next + 1 = b := by omega
 let σ' := ((((σ.new (.cells [.int .i64 0, .int .i64 0] false)).set σ.next (.cells [.int .i64 n₁, .int .i64 d₁] false)).new (.cells [.int .i64 0, .int .i64 0] false)).set (σ.next + 1) (.cells [.int .i64 n₂, .int .i64 d₂] false))
 refine DCall.forget (σ' := σ') ?_ rfl
 refine callsL p3_ok Try.func118 rfl 60 nobt (by kernel_rfl) ?_
 have w1 : IntKind.i64.wrap 1 = 1 := by decide
 have w2 : IntKind.i64.wrap 2 = 2 := by decide
 refine ⟨_, by simp only [go_sem, seval, if_pos rfl, Try.f118, p3, opLen, Try.underlying2, info2, Try.t2, Try.underlying3, info3, Try.t3, Try.underlying4, info4, Try.t4, Try.underlying22, info22, Try.t22, Try.underlying24, info24, Try.t24, Try.underlying28, info28, Try.t28, Try.underlying115, info115, Try.t115, h1, h2, h3, h4, c1, c2, hg, hne, hne2, w1, w2, body45, body91] <;> rfl, by simp only [go_sem, seval, if_pos rfl, Try.f118], rfl, fun c hc => ?_⟩
 rw [St.get_set, if_neg (by omega), St.get_new, if_neg (by simp; omega), St.get_set, if_neg (by omega), St.get_new, if_neg (by omega)]
def cmpR (n₁ d₁ n₂ d₂ : Int) : Int := if n₁ * d₂ = n₂ * d₁ then 0 else if n₁ * d₂ < n₂ * d₁ then -1 else 1
def p4 : FuncId → List Value → Option Value
 | 119, [.int .u64 x, .int .u64 y] => if okU x && okU y then some (wideV (x * y)) else none
 | f, args => p3 f args
theorem p4_is : ∀ f args v, p4 f args = some v → ∀ σ, DCall Try.prog f args σ (.ret v) σ [] := fun f args v h σ => by
 unfold p4 at h
 split at h
 ·split at h
  ·rename_i x y hn
   simp only [Bool.and_eq_true] at hn
   cases h
   exact times_call x y σ hn.1 hn.2
  ·cases h
 ·exact p3_is f args v h σ
theorem p4_ok : (pureO p4).Ok Try.prog := pureO_ok p4_is
def bt88 : Nat → List Nat
 | 5 => [0, 1, 3, 0, 8, 24, 63, 0, 128, 511, 0, 1024, 3072, 8191, 0, 0, 65535, 131071]
 | 8 => [0, 0, 3, 0, 8, 24, 63, 127]
 | _ => []
def pl (a b : Int) : FuncId → List Value → Option Value
 | 120, [.agg ⟨[.int .u64 x1, .int .u64 x0]⟩, .agg ⟨[.int .u64 y1, .int .u64 y0]⟩] => if x1 = a / 18446744073709551616 ∧ x0 = a % 18446744073709551616 ∧ y1 = b / 18446744073709551616 ∧ y0 = b % 18446744073709551616 then some (.bool (decide (a < b))) else none
 | f, args => p4 f args
theorem pl_ok (a b : Int) : (pureO (pl a b)).Ok Try.prog := pureO_ok fun f args v h σ => by
 unfold pl at h
 split at h
 ·split at h
  ·rename_i hn
   obtain ⟨rfl, rfl, rfl, rfl⟩ := hn
   cases h
   exact less_call a b σ
  ·cases h
 ·exact p4_is f args v h σ
theorem flat191 : flats Try.prog 191 = some [.int, .int] := by kernel_rfl
theorem eqW (x y : Int) : eqCells [.int, .int] [.int .u64 (x / 18446744073709551616), .int .u64 (x % 18446744073709551616)] [.int .u64 (y / 18446744073709551616), .int .u64 (y % 18446744073709551616)] = some (x == y) := by
 simp only [eqCells, if_true]
 by_cases h : x = y
 ·subst h; simp
 ·by_cases h1 : x / 18446744073709551616 = y / 18446744073709551616
  ·have h2 : ¬ x % 18446744073709551616 = y % 18446744073709551616 := by omega
   simp [h, h1, h2]
  ·simp [h, h1]
theorem compared_same (n₁ d₁ n₂ d₂ X Y : Int) (neg : Bool) (σ : St) (h1 : okI n₁ = true) (h2 : okI d₁ = true) (h3 : okI n₂ = true) (h4 : okI d₂ = true)
  (u1 : okU (n₁.natAbs : Int) = true) (u2 : okU (n₂.natAbs : Int) = true) (u3 : okU d₁ = true) (u4 : okU d₂ = true) (wd1 : IntKind.u64.wrap d₁ = d₁) (wd2 : IntKind.u64.wrap d₂ = d₂)
  (s1 : decide (n₁ < 0) = neg) (s2 : decide (n₂ < 0) = neg) (hX : (n₁.natAbs : Int) * d₂ = X) (hY : (n₂.natAbs : Int) * d₁ = Y) :
  ∃ σ', DCall Try.prog 88 [.agg ⟨[.int .i64 n₁, .int .i64 d₁]⟩, .agg ⟨[.int .i64 n₂, .int .i64 d₂]⟩] σ (.ret (.int .i64 (if X = Y then 0 else if decide (X < Y) != neg then -1 else 1))) σ' [] := by
 refine ⟨_, callsL (pl_ok X Y) Try.func88 rfl 60 bt88 (by kernel_rfl) (σ' := (((((σ.new (.cells [.int .i64 n₁, .int .i64 d₁] false)).new (.cells [.int .i64 n₂, .int .i64 d₂] false)).new (.cells [.int .u64 0, .int .u64 0] false)).new (.cells [.int .u64 0, .int .u64 0] false)).set (σ.next + 2) (.cells [.int .u64 (X / 18446744073709551616), .int .u64 (X % 18446744073709551616)] false)).set (σ.next + 3) (.cells [.int .u64 (Y / 18446744073709551616), .int .u64 (Y % 18446744073709551616)] false)) ?_⟩
 have fin : ∀ c, c < σ.next → ((((((σ.new (.cells [.int .i64 n₁, .int .i64 d₁] false)).new (.cells [.int .i64 n₂, .int .i64 d₂] false)).new (.cells [.int .u64 0, .int .u64 0] false)).new (.cells [.int .u64 0, .int .u64 0] false)).set (σ.next + 2) (.cells [.int .u64 (X / 18446744073709551616), .int .u64 (X % 18446744073709551616)] false)).set (σ.next + 3) (.cells [.int .u64 (Y / 18446744073709551616), .int .u64 (Y % 18446744073709551616)] false)).get c = σ.get c := fun c hc => by
  rw [St.get_set, if_neg (by omega), St.get_set, if_neg (by omega), St.get_new, if_neg (by simp; omega), St.get_new, if_neg (by simp; omega), St.get_new, if_neg (by simp; omega), St.get_new, if_neg (by omega)]
 by_cases e : X = Y
 ·subst e
  cases neg <;> simp only [decide_eq_true_eq, decide_eq_false_iff_not] at s1 s2
  ·refine ⟨_, by simp only [go_sem, seval, if_pos rfl, wideV, eqW, flat191, bt88, p1, p2, p3, p4, pl, Try.f88, Try.underlying2, info2, Try.t2, Try.underlying3, info3, Try.t3, Try.underlying4, info4, Try.t4, Try.underlying24, info24, Try.t24, Try.underlying115, info115, Try.t115, Try.underlying190, info190, Try.t190, Try.underlying191, info191, Try.t191, s1, s2, h1, h2, h3, h4, u1, u2, u3, u4, wd1, wd2, hX, hY, body78, body119, body120] <;> rfl, by simp only [go_sem, seval, if_pos rfl, Try.f88], rfl, fin⟩
  ·refine ⟨_, by simp only [go_sem, seval, if_pos rfl, wideV, eqW, flat191, bt88, p1, p2, p3, p4, pl, Try.f88, Try.underlying2, info2, Try.t2, Try.underlying3, info3, Try.t3, Try.underlying4, info4, Try.t4, Try.underlying24, info24, Try.t24, Try.underlying115, info115, Try.t115, Try.underlying190, info190, Try.t190, Try.underlying191, info191, Try.t191, s1, s2, h1, h2, h3, h4, u1, u2, u3, u4, wd1, wd2, hX, hY, body78, body119, body120] <;> rfl, by simp only [go_sem, seval, if_pos rfl, Try.f88], rfl, fin⟩
 ·have e' : (X == Y) = false := by simp [e]
  by_cases l : X < Y
  ·cases neg <;> simp only [decide_eq_true_eq, decide_eq_false_iff_not] at s1 s2
   ·refine ⟨_, by simp only [go_sem, seval, if_pos rfl, wideV, eqW, flat191, bt88, p1, p2, p3, p4, pl, Try.f88, Try.underlying2, info2, Try.t2, Try.underlying3, info3, Try.t3, Try.underlying4, info4, Try.t4, Try.underlying24, info24, Try.t24, Try.underlying115, info115, Try.t115, Try.underlying190, info190, Try.t190, Try.underlying191, info191, Try.t191, s1, s2, h1, h2, h3, h4, u1, u2, u3, u4, wd1, wd2, hX, hY, e', l, body78, body119, body120] <;> rfl, by simp only [go_sem, seval, if_pos rfl, Try.f88, e, l], rfl, fin⟩
   ·refine ⟨_, by simp only [go_sem, seval, if_pos rfl, wideV, eqW, flat191, bt88, p1, p2, p3, p4, pl, Try.f88, Try.underlying2, info2, Try.t2, Try.underlying3, info3, Try.t3, Try.underlying4, info4, Try.t4, Try.underlying24, info24, Try.t24, Try.underlying115, info115, Try.t115, Try.underlying190, info190, Try.t190, Try.underlying191, info191, Try.t191, s1, s2, h1, h2, h3, h4, u1, u2, u3, u4, wd1, wd2, hX, hY, e', l, body78, body119, body120] <;> rfl, by simp only [go_sem, seval, if_pos rfl, Try.f88, e, l], rfl, fin⟩
  ·cases neg <;> simp only [decide_eq_true_eq, decide_eq_false_iff_not] at s1 s2
   ·refine ⟨_, by simp only [go_sem, seval, if_pos rfl, wideV, eqW, flat191, bt88, p1, p2, p3, p4, pl, Try.f88, Try.underlying2, info2, Try.t2, Try.underlying3, info3, Try.t3, Try.underlying4, info4, Try.t4, Try.underlying24, info24, Try.t24, Try.underlying115, info115, Try.t115, Try.underlying190, info190, Try.t190, Try.underlying191, info191, Try.t191, s1, s2, h1, h2, h3, h4, u1, u2, u3, u4, wd1, wd2, hX, hY, e', l, body78, body119, body120] <;> rfl, by simp only [go_sem, seval, if_pos rfl, Try.f88, e, l], rfl, fin⟩
   ·refine ⟨_, by simp only [go_sem, seval, if_pos rfl, wideV, eqW, flat191, bt88, p1, p2, p3, p4, pl, Try.f88, Try.underlying2, info2, Try.t2, Try.underlying3, info3, Try.t3, Try.underlying4, info4, Try.t4, Try.underlying24, info24, Try.t24, Try.underlying115, info115, Try.t115, Try.underlying190, info190, Try.t190, Try.underlying191, info191, Try.t191, s1, s2, h1, h2, h3, h4, u1, u2, u3, u4, wd1, wd2, hX, hY, e', l, body78, body119, body120] <;> rfl, by simp only [go_sem, seval, if_pos rfl, Try.f88, e, l], rfl, fin⟩
theorem compared_call (n₁ d₁ n₂ d₂ : Int) (σ : St) (h1 : okI n₁ = true) (h2 : okI d₁ = true) (h3 : okI n₂ = true) (h4 : okI d₂ = true) (c1 : chk n₁ d₁) (c2 : chk n₂ d₂) :
  DCall Try.prog 88 [.agg ⟨[.int .i64 n₁, .int .i64 d₁]⟩, .agg ⟨[.int .i64 n₂, .int .i64 d₂]⟩] σ (.ret (.int .i64 (cmpR n₁ d₁ n₂ d₂))) σ [] := by
 have k1 := h1
 have k2 := h2
 have k3 := h3
 have k4 := h4
 simp only [okI, Bool.and_eq_true, decide_eq_true_eq] at k1 k2 k3 k4
 have e1 := c1.1
 have e2 := c2.1
 have u1 : okU (n₁.natAbs : Int) = true := by simp [okU]; omega
 have u2 : okU (n₂.natAbs : Int) = true := by simp [okU]; omega
 have u3 : okU d₁ = true := by simp [okU]; omega
 have u4 : okU d₂ = true := by simp [okU]; omega
 have wd1 : IntKind.u64.wrap d₁ = d₁ := by rw [IntKind.wrap_u64]; omega
 have wd2 : IntKind.u64.wrap d₂ = d₂ := by rw [IntKind.wrap_u64]; omega
 by_cases s1 : n₁ < 0
 ·by_cases s2 : n₂ < 0
  ·obtain ⟨σ', h⟩ := compared_same n₁ d₁ n₂ d₂ (-(n₁ * d₂)) (-(n₂ * d₁)) true σ h1 h2 h3 h4 u1 u2 u3 u4 wd1 wd2 (by simp [s1]) (by simp [s2]) (by rw [show (n₁.natAbs : Int) = -n₁ by omega, Int.neg_mul]) (by rw [show (n₂.natAbs : Int) = -n₂ by omega, Int.neg_mul])
   have e : (if -(n₁ * d₂) = -(n₂ * d₁) then (0 : Int) else if decide (-(n₁ * d₂) < -(n₂ * d₁)) != true then -1 else 1) = cmpR n₁ d₁ n₂ d₂ := by
    unfold cmpR
    generalize n₁ * d₂ = a
    generalize n₂ * d₁ = b
    by_cases h : a = b
    ·simp [h]
    ·rw [if_neg (by omega), if_neg h]
     by_cases l : a < b
     ·have : ¬ -a < -b := by omega
      simp [l, this]
     ·have : -a < -b := by omega
      simp [l, this]
   rw [e] at h
   exact h.forget rfl
  ·have hlt : n₁ * d₂ < n₂ * d₁ := by
    have a : n₁ * d₂ < 0 := Int.mul_neg_of_neg_of_pos s1 (by omega)
    have b : 0 ≤ n₂ * d₁ := Int.mul_nonneg (by omega) (by omega)
    omega
   have hc : cmpR n₁ d₁ n₂ d₂ = -1 := by unfold cmpR; rw [if_neg (by omega), if_pos hlt]
   rw [hc]
   refine DCall.forget (σ' := (σ.new (.cells [.int .i64 n₁, .int .i64 d₁] false)).new (.cells [.int .i64 n₂, .int .i64 d₂] false)) ?_ rfl
   refine callsL p4_ok Try.func88 rfl 60 bt88 (by kernel_rfl) ?_
   refine ⟨_, by simp only [go_sem, seval, if_pos rfl, Try.f88, p4, Try.underlying2, info2, Try.t2, Try.underlying3, info3, Try.t3, Try.underlying4, info4, Try.t4, Try.underlying24, info24, Try.t24, Try.underlying115, info115, Try.t115, Try.underlying191, info191, Try.t191, s1, s2] <;> rfl, by simp only [go_sem, seval, if_pos rfl, Try.f88], rfl, fun c hc => ?_⟩
   rw [St.get_new, if_neg (by simp; omega), St.get_new, if_neg (by omega)]
 ·by_cases s2 : n₂ < 0
  ·have hlt : n₂ * d₁ < n₁ * d₂ := by
    have a : n₂ * d₁ < 0 := Int.mul_neg_of_neg_of_pos s2 (by omega)
    have b : 0 ≤ n₁ * d₂ := Int.mul_nonneg (by omega) (by omega)
    omega
   have hc : cmpR n₁ d₁ n₂ d₂ = 1 := by unfold cmpR; rw [if_neg (by omega), if_neg (by omega)]
   rw [hc]
   refine DCall.forget (σ' := (σ.new (.cells [.int .i64 n₁, .int .i64 d₁] false)).new (.cells [.int .i64 n₂, .int .i64 d₂] false)) ?_ rfl
   refine callsL p4_ok Try.func88 rfl 60 bt88 (by kernel_rfl) ?_
   refine ⟨_, by simp only [go_sem, seval, if_pos rfl, Try.f88, p4, Try.underlying2, info2, Try.t2, Try.underlying3, info3, Try.t3, Try.underlying4, info4, Try.t4, Try.underlying24, info24, Try.t24, Try.underlying115, info115, Try.t115, Try.underlying191, info191, Try.t191, s1, s2] <;> rfl, by simp only [go_sem, seval, if_pos rfl, Try.f88], rfl, fun c hc => ?_⟩
   rw [St.get_new, if_neg (by simp; omega), St.get_new, if_neg (by omega)]
  ·obtain ⟨σ', h⟩ := compared_same n₁ d₁ n₂ d₂ (n₁ * d₂) (n₂ * d₁) false σ h1 h2 h3 h4 u1 u2 u3 u4 wd1 wd2 (by simp [s1]) (by simp [s2]) (by rw [show (n₁.natAbs : Int) = n₁ by omega]) (by rw [show (n₂.natAbs : Int) = n₂ by omega])
   have e : (if (n₁ * d₂) = (n₂ * d₁) then (0 : Int) else if decide ((n₁ * d₂) < (n₂ * d₁)) != false then -1 else 1) = cmpR n₁ d₁ n₂ d₂ := by
    unfold cmpR
    by_cases h : n₁ * d₂ = n₂ * d₁
    ·simp [h]
    ·rw [if_neg h, if_neg h]
     by_cases l : n₁ * d₂ < n₂ * d₁ <;> simp [l]
   rw [e] at h
   exact h.forget rfl
end Go.Ab
namespace Go.Ab
open Go.Proofs
theorem one_other {orc : Orc} {f f' : FuncId} {args args' : List Value} {σ σ' : St} {r : AE × St × Log} (h : ¬ f' = f) : (orc.one f args σ r).call f' args' σ' = orc.call f' args' σ' := by simp [Orc.one, h]
theorem one_ok' {P : Program} {orc : Orc} (h : orc.Ok P) {f : FuncId} {args : List Value} {σ σ' : St} {e : AE} {l : Log} (hr : DCall P f args σ e σ' l) : (orc.one f args σ (e, σ', l)).Ok P := Orc.one_ok h hr
def okR (n d : Int) : Bool := okI n && okI d && decide (chk n d)
def p5 : FuncId → List Value → Option Value
 | 88, [.agg ⟨[.int .i64 n₁, .int .i64 d₁]⟩, .agg ⟨[.int .i64 n₂, .int .i64 d₂]⟩] => if okR n₁ d₁ && okR n₂ d₂ then some (.int .i64 (cmpR n₁ d₁ n₂ d₂)) else none
 | f, args => p4 f args
theorem p5_is : ∀ f args v, p5 f args = some v → ∀ σ, DCall Try.prog f args σ (.ret v) σ [] := fun f args v h σ => by
 unfold p5 at h
 split at h
 ·split at h
  ·rename_i hn
   simp only [okR, Bool.and_eq_true, decide_eq_true_eq] at hn
   cases h
   exact compared_call _ _ _ _ σ hn.1.1.1 hn.1.1.2 hn.2.1.1 hn.2.1.2 hn.1.2 hn.2.2
  ·cases h
 ·exact p4_is f args v h σ
theorem p5_ok : (pureO p5).Ok Try.prog := pureO_ok p5_is
theorem cmp1_call (p q : Nat) (n₁ d₁ n₂ d₂ : Int) (σ : St) (hp : p < σ.next) (hq : q < σ.next) (gp : σ.get p = some (.cells [.int .i64 n₁, .int .i64 d₁] false)) (gq : σ.get q = some (.cells [.int .i64 n₂, .int .i64 d₂] false))
  (h1 : okR n₁ d₁ = true) (h2 : okR n₂ d₂ = true) :
  DCall Try.prog 138 [.pointer (some ⟨p, 0, none⟩), .pointer (some ⟨q, 0, none⟩)] σ (.ret (.int .i64 (cmpR n₁ d₁ n₂ d₂))) σ [] := by
 have k1 := h1
 have k2 := h2
 simp only [okR, Bool.and_eq_true, decide_eq_true_eq] at k1 k2
 have np : ¬ σ.next = p := by omega
 have nq : ¬ σ.next = q := by omega
 let ob : AObj := .cells [.int .i64 n₁, .int .i64 d₁, .int .i64 n₂, .int .i64 d₂] false
 have hb := both_call σ.next n₁ d₁ n₂ d₂ (σ.new ob) (by simp) (by rw [St.get_new, if_pos rfl]) k1.1.1 k1.1.2 k2.1.1 k2.1.2 k1.2 k2.2
 refine DCall.forget (σ' := σ.new ob) ?_ rfl
 refine callsL (one_ok' p5_ok hb) Try.func138 rfl 60 nobt (by kernel_rfl) ?_
 refine ⟨_, by simp only [go_sem, seval, if_pos rfl, ob, p5, one_other, Orc.one_call, zerosN, Try.f138, Try.underlying2, info2, Try.t2, Try.underlying3, info3, Try.t3, Try.underlying22, info22, Try.t22, Try.underlying24, info24, Try.t24, gp, gq, np, nq, h1, h2, body88, body118] <;> rfl, by simp only [go_sem, seval, if_pos rfl, Try.f138], rfl, fun c hc => ?_⟩
 rw [St.get_new, if_neg (by omega)]
def bt149 : Nat → List Nat
 | 8 => [0, 0, 2, 1, 15]
 | _ => []
theorem try_call (g : FuncId) (ys : List Value) (r : Int) (σ : St) (hg : (cP Try.prog).bodies g = true)
  (H : DCall Try.prog g ys ((σ.new (.cells [.int .i64 0] false)).new (.cells [.int .i64 0] false)) (.ret (.int .i64 r)) ((σ.new (.cells [.int .i64 0] false)).new (.cells [.int .i64 0] false)) []) :
  DCall Try.prog 137 [.func (.func g) ⟨[]⟩ ⟨ys⟩] σ (.ret (.tuple ⟨[.int .i64 r, .int .i64 0]⟩)) σ [] := by
 let σ3 := (((σ.new (.cells [.int .i64 0] false)).new (.cells [.int .i64 0] false)).set σ.next (.cells [.int .i64 r] false)).set (σ.next + 1) (.cells [.int .i64 0] false)
 have hd : DDefer Try.prog 149 [.pointer (some ⟨σ.next, 0, none⟩), .pointer (some ⟨σ.next + 1, 0, none⟩)] .returning σ3 (.ret (.tuple ⟨[]⟩)) .returning σ3 [] := by
  have := DDefer.of_recover (u := .returning) (σ := σ3) (args := [.pointer (some ⟨σ.next, 0, none⟩), .pointer (some ⟨σ.next + 1, 0, none⟩)]) cP_ok.T ⟨Try.func149, rfl⟩ rfl rfl
   (runs Orc.none_ok 20 bt149 (by kernel_rfl) (r := ⟨.norm, ⟨_, []⟩, σ3, []⟩) (by simp only [go_sem, seval, if_pos rfl, recoverA, Try.f149, Try.underlying20, info20, Try.t20] <;> rfl)) (e := .ret (.tuple ⟨[]⟩)) (by simp only [go_sem, seval, if_pos rfl, Try.f149])
  exact this
 refine DCall.forget (σ' := σ3) ?_ rfl
 have hc : ∃ r', run (cP Try.prog) (Orc.none.one g ys ((σ.new (.cells [.int .i64 0] false)).new (.cells [.int .i64 0] false)) (.ret (.int .i64 r), (σ.new (.cells [.int .i64 0] false)).new (.cells [.int .i64 0] false), [])) nobt false 30 (.code (Try.f137.body.getD .skip)) (start [.func (.func g) ⟨[]⟩ ⟨ys⟩] Try.f137.ntmps) σ = some r' ∧
   r'.x = .ret ∧ r'.σ = σ3 ∧ r'.fr.ds = [{ target := .fn (.func 149) ⟨[.pointer (some ⟨σ.next, 0, none⟩), .pointer (some ⟨σ.next + 1, 0, none⟩)]⟩, args := ⟨[]⟩ }] ∧ lget r'.fr.ts 2 = .pointer (some ⟨σ.next, 0, none⟩) ∧ lget r'.fr.ts 3 = .pointer (some ⟨σ.next + 1, 0, none⟩) := by
  refine ⟨_, by simp only [go_sem, seval, if_pos rfl, Option.getD, Orc.one_call, Try.f137, Try.underlying1, info1, Try.t1, Try.underlying3, info3, Try.t3, Try.underlying28, info28, Try.t28, hg, body149] <;> rfl, ?_⟩
  exact ⟨rfl, rfl, rfl, rfl, rfl⟩
 obtain ⟨r', h1, hx, hσ, hds, t2, t3⟩ := hc
 have h2 := runs (one_ok' Orc.none_ok H) 30 nobt (by kernel_rfl) h1
 have hl : DLeave Try.prog Try.f137 r'.fr.ts r'.fr.ds .returning r'.σ (.ret (.tuple ⟨[.int .i64 r, .int .i64 0]⟩)) σ3 ([] ++ []) := by
  rw [hds, hσ]
  refine DLeave.cons rfl (cP_ok.bodies 149 body149) hd rfl (DLeave.returned cP_ok.T ?_)
  simp only [go_sem, seval, if_pos rfl, Try.f137, t2, t3, σ3, Try.underlying3, info3, Try.t3, Try.underlying28, info28, Try.t28]
 have h3 := DCall.of_code_defers (f := 137) ⟨Try.func137, rfl⟩ h2 (.inl ⟨.inr hx, rfl⟩) hl
 refine ⟨⟨h3.1.1, fun c hc _ => ?_⟩, h3.2⟩
 rw [St.get_set, if_neg (by omega), St.get_set, if_neg (by omega), St.get_new, if_neg (by simp; omega), St.get_new, if_neg (by omega)]
theorem cmp_call (n₁ d₁ n₂ d₂ : Int) (σ : St) (h1 : okR n₁ d₁ = true) (h2 : okR n₂ d₂ = true) :
  DCall Try.prog 112 [.agg ⟨[.int .i64 n₁, .int .i64 d₁]⟩, .agg ⟨[.int .i64 n₂, .int .i64 d₂]⟩] σ (.ret (.tuple ⟨[.int .i64 (cmpR n₁ d₁ n₂ d₂), .int .i64 0]⟩)) σ [] := by
 let σ2 := (σ.new (.cells [.int .i64 n₁, .int .i64 d₁] false)).new (.cells [.int .i64 n₂, .int .i64 d₂] false)
 have hH := cmp1_call σ.next (σ.next + 1) n₁ d₁ n₂ d₂ ((σ2.new (.cells [.int .i64 0] false)).new (.cells [.int .i64 0] false)) (by simp [σ2] <;> omega) (by simp [σ2])
  (by rw [St.get_new, if_neg (by simp [σ2] <;> omega), St.get_new, if_neg (by simp [σ2] <;> omega), St.get_new, if_neg (by simp), St.get_new, if_pos rfl])
  (by rw [St.get_new, if_neg (by simp [σ2] <;> omega), St.get_new, if_neg (by simp [σ2] <;> omega), St.get_new, if_pos (by simp)]) h1 h2
 have hT := try_call 138 _ _ σ2 body138 hH
 refine DCall.forget (σ' := σ2) ?_ rfl
 refine callsL (one_ok' Orc.none_ok hT) Try.func112 rfl 60 nobt (by kernel_rfl) ?_
 refine ⟨_, by simp only [go_sem, seval, if_pos rfl, σ2, Orc.one_call, Try.f112, Try.underlying2, info2, Try.t2, Try.underlying3, info3, Try.t3, Try.underlying24, info24, Try.t24, Try.underlying28, info28, Try.t28, body137, body138] <;> rfl, by simp only [go_sem, seval, if_pos rfl, Try.f112], rfl, fun c hc => ?_⟩
 rw [St.get_new, if_neg (by simp; omega), St.get_new, if_neg (by omega)]
theorem nan_call (x : Int) (σ : St) : DCall Try.prog 139 [.int .i64 x] σ (.ret (.bool false)) σ [] := by
 refine calls Orc.none_ok Try.func139 rfl 20 nobt (by kernel_rfl) ?_
 have e : (x != x) = false := by simp
 exact ⟨_, by simp only [go_sem, seval, if_pos rfl, e, Try.f139, Try.underlying2, info2, Try.t2, Try.underlying4, info4, Try.t4] <;> rfl, by simp only [go_sem, seval, if_pos rfl, Try.f139], rfl, rfl⟩
def cmpI (x y : Int) : Int := if x < y then -1 else if y < x then 1 else 0
def p6 : FuncId → List Value → Option Value
 | 139, [.int .i64 _] => some (.bool false)
 | 112, [.agg ⟨[.int .i64 n₁, .int .i64 d₁]⟩, .agg ⟨[.int .i64 n₂, .int .i64 d₂]⟩] => if okR n₁ d₁ && okR n₂ d₂ then some (.tuple ⟨[.int .i64 (cmpR n₁ d₁ n₂ d₂), .int .i64 0]⟩) else none
 | f, args => p5 f args
theorem p6_is : ∀ f args v, p6 f args = some v → ∀ σ, DCall Try.prog f args σ (.ret v) σ [] := fun f args v h σ => by
 unfold p6 at h
 split at h
 ·cases h; exact nan_call _ σ
 ·split at h
  ·rename_i hn
   rw [Bool.and_eq_true] at hn
   cases h
   exact cmp_call _ _ _ _ σ hn.1 hn.2
  ·cases h
 ·exact p5_is f args v h σ
theorem p6_ok : (pureO p6).Ok Try.prog := pureO_ok p6_is
theorem compare_call (x y : Int) (σ : St) : DCall Try.prog 114 [.int .i64 x, .int .i64 y] σ (.ret (.int .i64 (cmpI x y))) σ [] := by
 refine calls p6_ok Try.func114 rfl 40 nobt (by kernel_rfl) ?_
 unfold cmpI
 by_cases h1 : x < y
 ·exact ⟨_, by simp only [go_sem, seval, if_pos rfl, p6, Try.f114, Try.underlying2, info2, Try.t2, Try.underlying3, info3, Try.t3, Try.underlying4, info4, Try.t4, h1, body139] <;> rfl, by simp only [go_sem, seval, if_pos rfl, Try.f114, h1], rfl, rfl⟩
 ·by_cases h2 : y < x
  ·exact ⟨_, by simp only [go_sem, seval, if_pos rfl, p6, Try.f114, Try.underlying2, info2, Try.t2, Try.underlying3, info3, Try.t3, Try.underlying4, info4, Try.t4, h1, h2, body139] <;> rfl, by simp only [go_sem, seval, if_pos rfl, Try.f114, h1, h2], rfl, rfl⟩
  ·exact ⟨_, by simp only [go_sem, seval, if_pos rfl, p6, Try.f114, Try.underlying2, info2, Try.t2, Try.underlying3, info3, Try.t3, Try.underlying4, info4, Try.t4, h1, h2, body139] <;> rfl, by simp only [go_sem, seval, if_pos rfl, Try.f114, h1, h2], rfl, rfl⟩
theorem or_call (b : Nat) (x y : Int) (σ : St) (hg : σ.get b = some (.cells [.int .i64 x, .int .i64 y] false)) :
  DCall Try.prog 113 [.slice (some ⟨b, 0, some 0⟩) 2 2] σ (.ret (.int .i64 (if x = 0 then y else x))) σ [] := by
 have w1 : IntKind.i64.wrap 1 = 1 := by decide
 have w2 : IntKind.i64.wrap 2 = 2 := by decide
 refine calls Orc.none_ok Try.func113 rfl 60 nobt (by kernel_rfl) ?_
 by_cases h1 : x = 0
 ·subst h1
  have e0 : ((0 : Int) != 0) = false := by decide
  by_cases h2 : y = 0
  ·subst h2
   exact ⟨_, by simp only [go_sem, seval, if_pos rfl, opLen, e0, hg, w1, w2, Try.f113, Try.underlying2, info2, Try.t2, Try.underlying3, info3, Try.t3, Try.underlying4, info4, Try.t4, Try.underlying208, info208, Try.t208] <;> rfl, by simp only [go_sem, seval, if_pos rfl, Try.f113], rfl, rfl⟩
  ·have e1 : (y != 0) = true := by simp [h2]
   exact ⟨_, by simp only [go_sem, seval, if_pos rfl, opLen, e0, e1, hg, w1, w2, Try.f113, Try.underlying2, info2, Try.t2, Try.underlying3, info3, Try.t3, Try.underlying4, info4, Try.t4, Try.underlying208, info208, Try.t208] <;> rfl, by simp only [go_sem, seval, if_pos rfl, Try.f113], rfl, rfl⟩
 ·have e1 : (x != 0) = true := by simp [h1]
  exact ⟨_, by simp only [go_sem, seval, if_pos rfl, opLen, e1, hg, w1, w2, Try.f113, Try.underlying2, info2, Try.t2, Try.underlying3, info3, Try.t3, Try.underlying4, info4, Try.t4, Try.underlying208, info208, Try.t208] <;> rfl, by simp only [go_sem, seval, if_pos rfl, Try.f113, h1], rfl, rfl⟩
structure Item where
 id : Int
 n : Int
 d : Int
 turn : Int
def Item.cells (x : Item) : List Value := [.int .i64 x.id, .int .i64 x.n, .int .i64 x.d, .int .i64 x.turn]
def Item.ok (x : Item) : Bool := okI x.id && okR x.n x.d && okI x.turn
def cmpItem (x y : Item) : Int := if cmpR x.n x.d y.n y.d = 0 then cmpI x.turn y.turn else cmpR x.n x.d y.n y.d
def p7 : FuncId → List Value → Option Value
 | 114, [.int .i64 x, .int .i64 y] => some (.int .i64 (cmpI x y))
 | f, args => p6 f args
theorem p7_is : ∀ f args v, p7 f args = some v → ∀ σ, DCall Try.prog f args σ (.ret v) σ [] := fun f args v h σ => by
 unfold p7 at h
 split at h
 ·cases h; exact compare_call _ _ σ
 ·exact p6_is f args v h σ
theorem p7_ok : (pureO p7).Ok Try.prog := pureO_ok p7_is
theorem order_call (x y : Item) (σ : St) (hx : x.ok = true) (hy : y.ok = true) : DCall Try.prog 79 [.agg ⟨x.cells⟩, .agg ⟨y.cells⟩] σ (.ret (.int .i64 (cmpItem x y))) σ [] := by
 simp only [Item.ok, Bool.and_eq_true] at hx hy
 have r1 := hx.1.2
 have r2 := hy.1.2
 let σ2 := (σ.new (.cells x.cells false)).new (.cells y.cells false)
 let σ3 := σ2.new (.cells [.int .i64 (cmpR x.n x.d y.n y.d), .int .i64 (cmpI x.turn y.turn)] false)
 have hO := or_call (σ.next + 2) (cmpR x.n x.d y.n y.d) (cmpI x.turn y.turn) σ3 (by rw [St.get_new, if_pos (by simp [σ2])])
 refine DCall.forget (σ' := σ3) ?_ rfl
 refine callsL (one_ok' p7_ok hO) Try.func79 rfl 60 nobt (by kernel_rfl) ?_
 refine ⟨_, by simp only [go_sem, seval, if_pos rfl, σ2, σ3, Item.cells, p7, p6, one_other, Orc.one_call, zerosN, Try.f79, Try.underlying2, info2, Try.t2, Try.underlying3, info3, Try.t3, Try.underlying24, info24, Try.t24, Try.underlying28, info28, Try.t28, Try.underlying30, info30, Try.t30, Try.underlying31, info31, Try.t31, Try.underlying183, info183, Try.t183, Try.underlying208, info208, Try.t208, r1, r2, body112, body113, body114] <;> rfl, by simp only [go_sem, seval, if_pos rfl, Try.f79, cmpItem], rfl, fun c hc => ?_⟩
 rw [St.get_new, if_neg (by simp [σ2] <;> omega), St.get_new, if_neg (by simp; omega), St.get_new, if_neg (by omega)]
end Go.Ab
namespace Go.Ab
open Go.Proofs
def lk : List MapEntry → Int → Option Int
 | [], _ => none
 | e :: es, k => match e.key with
  | .int .i64 k' => if k' = k then (match e.val with | .int .i64 v => some v | _ => none) else lk es k
  | _ => lk es k
structure KV (es : List MapEntry) : Prop where
 ints : ∀ e ∈ es, ∃ k v, e.key = .int .i64 k ∧ e.val = .int .i64 v
 nodup : es.Pairwise fun a b => a.key ≠ b.key
theorem KV.tail {e : MapEntry} {es : List MapEntry} (h : KV (e :: es)) : KV es := ⟨fun x hx => h.ints x (by simp [hx]), (List.pairwise_cons.1 h.nodup).2⟩
theorem find_none {T : TT} (hT : ∃ k, T.und 2 = some (.int k)) {k : Int} : ∀ {es : List MapEntry} {i : Nat}, KV es → lk es k = none → findA T 2 (.int .i64 k) es i = some none
 | [], _, _, _ => rfl
 | e :: es, i, h, hk => by
  obtain ⟨kk, hu⟩ := hT
  obtain ⟨k', v, h1, h2⟩ := h.ints e (by simp)
  simp only [lk, h1, h2] at hk
  split at hk
  ·cases hk
  ·rename_i hne
   have : (k == k') = false := by
    simp only [beq_eq_false_iff_ne]; rintro rfl; exact hne rfl
   simp only [findA, keyEq, h1, hu, if_true, this]
   exact find_none ⟨kk, hu⟩ h.tail hk
theorem find_some {T : TT} (hT : ∃ k, T.und 2 = some (.int k)) {k v : Int} : ∀ {es : List MapEntry} {i : Nat}, KV es → lk es k = some v → ∃ j e, findA T 2 (.int .i64 k) es i = some (some (i + j, e)) ∧ e.val = .int .i64 v ∧ es[j]? = some e ∧ e.key = .int .i64 k
 | [], _, _, h => by cases h
 | e :: es, i, h, hk => by
  obtain ⟨kk, hu⟩ := hT
  obtain ⟨k', v', h1, h2⟩ := h.ints e (by simp)
  simp only [lk, h1, h2] at hk
  split at hk
  ·rename_i he
   subst he
   cases hk
   refine ⟨0, e, ?_, h2, rfl, h1⟩
   simp [findA, keyEq, h1, hu]
  ·rename_i hne
   have : (k == k') = false := by
    simp only [beq_eq_false_iff_ne]; rintro rfl; exact hne rfl
   obtain ⟨j, e', a1, a2, a3, a4⟩ := find_some (i := i + 1) ⟨kk, hu⟩ h.tail hk
   refine ⟨j + 1, e', ?_, a2, by simpa using a3, a4⟩
   simp only [findA, keyEq, h1, hu, if_true, this, a1]
   congr 3
   omega
theorem lk_none_key {k : Int} : ∀ {es : List MapEntry}, KV es → lk es k = none → ∀ e ∈ es, e.key ≠ .int .i64 k
 | [], _, _, _, h => by cases h
 | x :: es, h, hk, e, he => by
  obtain ⟨k', v', h1, h2⟩ := h.ints x (by simp)
  simp only [lk, h1, h2] at hk
  split at hk
  ·cases hk
  ·rename_i hne
   rcases List.mem_cons.1 he with rfl | he
   ·rw [h1]; intro e'; simp only [Value.int.injEq, true_and] at e'; exact hne e'
   ·exact lk_none_key h.tail hk e he
theorem pushE_eq (es : List MapEntry) (x : MapEntry) : pushE es x = es ++ [x] := by induction es with
 | nil => rfl
 | cons e es ih => simp [pushE, ih]
theorem push_KV {es : List MapEntry} {k v : Int} {c : Nat} (h : KV es) (hk : lk es k = none) : KV (pushE es ⟨.int .i64 k, .int .i64 v, c⟩) := by
 rw [pushE_eq]
 refine ⟨fun e he => ?_, ?_⟩
 ·rcases List.mem_append.1 he with he | he
  ·exact h.ints e he
  ·simp only [List.mem_singleton] at he; subst he; exact ⟨k, v, rfl, rfl⟩
 ·rw [List.pairwise_append]
  exact ⟨h.nodup, by simp, fun a ha b hb => by simp only [List.mem_singleton] at hb; subst hb; exact lk_none_key h hk a ha⟩
theorem push_lk {k v : Int} {c : Nat} : ∀ {es : List MapEntry}, KV es → lk es k = none → ∀ k', lk (pushE es ⟨.int .i64 k, .int .i64 v, c⟩) k' = if k' = k then some v else lk es k'
 | [], _, _, k' => by
  simp only [pushE, lk, Value.int.injEq, true_and]
  by_cases e : k = k'
  ·subst e; simp
  ·rw [if_neg e, if_neg (Ne.symm e)]
 | x :: es, h, hk, k' => by
  obtain ⟨kx, vx, h1, h2⟩ := h.ints x (by simp)
  have hne : kx ≠ k := fun e => lk_none_key h hk x (by simp) (by rw [h1, e])
  have hk' : lk es k = none := by
   simp only [lk, h1, h2, Value.int.injEq, true_and, if_neg hne] at hk; exact hk
  simp only [pushE, lk, h1, h2, Value.int.injEq, true_and]
  rw [push_lk h.tail hk' k']
  by_cases e : kx = k'
  ·subst e; rw [if_pos rfl, if_neg hne, if_pos rfl]
  ·rw [if_neg e, if_neg e]
theorem mod_KV {k v : Int} : ∀ {es : List MapEntry} {j : Nat} {e : MapEntry}, KV es → es[j]? = some e → e.key = .int .i64 k →
  KV (modE es j (.int .i64 k) (.int .i64 v)) ∧ ∀ k', lk (modE es j (.int .i64 k) (.int .i64 v)) k' = if k' = k then some v else lk es k'
 | [], _, _, _, h, _ => by simp at h
 | x :: es, 0, e, h, he, hk => by
  simp only [List.getElem?_cons_zero, Option.some.injEq] at he
  subst he
  simp only [modE]
  refine ⟨⟨fun y hy => ?_, ?_⟩, fun k' => ?_⟩
  ·rcases List.mem_cons.1 hy with rfl | hy
   ·exact ⟨k, v, rfl, rfl⟩
   ·exact h.ints y (by simp [hy])
  ·have := List.pairwise_cons.1 h.nodup
   refine List.pairwise_cons.2 ⟨fun y hy => ?_, this.2⟩
   have := this.1 y hy
   rw [hk] at this; exact this
  ·obtain ⟨kx, vx, h1, h2⟩ := h.ints x (by simp)
   simp only [lk, hk, h2, Value.int.injEq, true_and]
   by_cases e : k = k'
   ·subst e; simp
   ·rw [if_neg e, if_neg (Ne.symm e), if_neg e]
 | x :: es, j + 1, e, h, he, hk => by
  simp only [List.getElem?_cons_succ] at he
  obtain ⟨a, b⟩ := mod_KV h.tail he hk (v := v)
  obtain ⟨kx, vx, h1, h2⟩ := h.ints x (by simp)
  have hm : e ∈ es := List.mem_of_getElem? he
  have hne : kx ≠ k := fun e' => (List.pairwise_cons.1 h.nodup).1 e hm (by rw [h1, hk, e'])
  simp only [modE]
  refine ⟨⟨fun y hy => ?_, List.pairwise_cons.2 ⟨fun y hy hkey => ?_, a.nodup⟩⟩, fun k' => ?_⟩
  ·rcases List.mem_cons.1 hy with rfl | hy
   ·exact ⟨kx, vx, h1, h2⟩
   ·exact a.ints y hy
  ·
   have keys : ∀ {l : List MapEntry} {i : Nat} {z : MapEntry}, l[i]? = some z → z.key = .int .i64 k → ∀ y ∈ modE l i (.int .i64 k) (.int .i64 v), ∃ z ∈ l, z.key = y.key := by
    intro l
    induction l with
    | nil => intro i z h; simp at h
    | cons w l ih =>
     intro i z hz hzk y hy
     cases i with
     | zero =>
      simp only [List.getElem?_cons_zero, Option.some.injEq] at hz
      subst hz
      simp only [modE, List.mem_cons] at hy
      rcases hy with rfl | hy
      ·exact ⟨w, by simp, hzk⟩
      ·exact ⟨y, by simp [hy], rfl⟩
     | succ i =>
      simp only [List.getElem?_cons_succ] at hz
      simp only [modE, List.mem_cons] at hy
      rcases hy with rfl | hy
      ·exact ⟨y, by simp, rfl⟩
      ·obtain ⟨z', a1, a2⟩ := ih hz hzk y hy
       exact ⟨z', by simp [a1], a2⟩
   obtain ⟨z, hz, hzk⟩ := keys he hk y hy
   exact (List.pairwise_cons.1 h.nodup).1 z hz (by rw [hzk]; exact hkey)
  ·simp only [lk, h1, h2, Value.int.injEq, true_and, b k']
   by_cases e : kx = k'
   ·subst e; rw [if_pos rfl, if_neg hne, if_pos rfl]
   ·rw [if_neg e, if_neg e]
theorem del_KV {k : Int} : ∀ {es : List MapEntry} {j : Nat} {e : MapEntry}, KV es → es[j]? = some e → e.key = .int .i64 k →
  KV (delE es j) ∧ ∀ k', lk (delE es j) k' = if k' = k then none else lk es k'
 | [], _, _, _, h, _ => by simp at h
 | x :: es, 0, e, h, he, hk => by
  simp only [List.getElem?_cons_zero, Option.some.injEq] at he
  subst he
  obtain ⟨kx, vx, h1, h2⟩ := h.ints x (by simp)
  simp only [delE]
  refine ⟨h.tail, fun k' => ?_⟩
  simp only [lk, hk, h2, Value.int.injEq, true_and]
  by_cases e : k = k'
  ·subst e
   rw [if_pos rfl]
   cases hl : lk es k with
   | none => rfl
   | some v =>
    obtain ⟨j, y, _, _, hy, hyk⟩ := find_some (T := ⟨fun _ => some { (default : TypeInfo) with desc := .int .i64 }, fun _ => none, fun _ => none⟩) ⟨.i64, rfl⟩ (i := 0) h.tail hl
    exact absurd (hk.trans hyk.symm) ((List.pairwise_cons.1 h.nodup).1 y (List.mem_of_getElem? hy))
  ·rw [if_neg (Ne.symm e), if_neg e]
 | x :: es, j + 1, e, h, he, hk => by
  simp only [List.getElem?_cons_succ] at he
  obtain ⟨a, b⟩ := del_KV h.tail he hk
  obtain ⟨kx, vx, h1, h2⟩ := h.ints x (by simp)
  have hm : e ∈ es := List.mem_of_getElem? he
  have hne : kx ≠ k := fun e' => (List.pairwise_cons.1 h.nodup).1 e hm (by rw [h1, hk, e'])
  have sub : ∀ {l : List MapEntry} {i : Nat}, ∀ y ∈ delE l i, y ∈ l := by
   intro l
   induction l with
   | nil => intro i y hy; cases hy
   | cons w l ih =>
    intro i y hy
    cases i with
    | zero => simp only [delE] at hy; simp [hy]
    | succ i =>
     simp only [delE, List.mem_cons] at hy
     rcases hy with rfl | hy
     ·simp
     ·simp [ih y hy]
  simp only [delE]
  refine ⟨⟨fun y hy => ?_, List.pairwise_cons.2 ⟨fun y hy => (List.pairwise_cons.1 h.nodup).1 y (sub y hy), a.nodup⟩⟩, fun k' => ?_⟩
  ·rcases List.mem_cons.1 hy with rfl | hy
   ·exact ⟨kx, vx, h1, h2⟩
   ·exact a.ints y hy
  ·simp only [lk, h1, h2, Value.int.injEq, true_and, b k']
   by_cases e : kx = k'
   ·subst e; rw [if_pos rfl, if_neg hne, if_pos rfl]
   ·rw [if_neg e, if_neg e]
def cellsL : List Item → List Value
 | [] => []
 | x :: xs => x.cells ++ cellsL xs
theorem Item.cells_length (x : Item) : x.cells.length = 4 := rfl
theorem cellsL_length : ∀ L : List Item, (cellsL L).length = 4 * L.length
 | [] => rfl
 | x :: xs => by simp [cellsL, Item.cells_length, cellsL_length xs]; omega
theorem cells_at {G : List Value} : ∀ {L : List Item} {i : Nat} {x : Item}, L[i]? = some x → ((cellsL L ++ G).drop (i * 4)).take 4 = x.cells
 | [], _, _, h => by simp at h
 | y :: L, 0, x, h => by
  simp only [List.getElem?_cons_zero, Option.some.injEq] at h
  subst h
  simp [cellsL, Item.cells]
 | y :: L, i + 1, x, h => by
  simp only [List.getElem?_cons_succ] at h
  have := cells_at (G := G) h
  have e : (i + 1) * 4 = 4 + i * 4 := by omega
  rw [e, ← List.drop_drop]
  simpa [cellsL, Item.cells] using this
theorem over_at {G : List Value} : ∀ {L : List Item} {i : Nat} (x : Item), i < L.length → over (cellsL L ++ G) (i * 4) x.cells = cellsL (L.set i x) ++ G
 | [], _, _, h => by simp at h
 | y :: L, 0, x, h => by simp [over, cellsL, Item.cells]
 | y :: L, i + 1, x, h => by
  have := over_at (G := G) (L := L) (i := i) x (by simpa using h)
  have e : (i + 1) * 4 = i * 4 + 4 := by omega
  rw [e, List.set_cons_succ]
  simp only [cellsL, Item.cells, List.cons_append, List.nil_append, over] at this ⊢
  rw [this]
end Go.Ab
namespace Go.Ab
open Go.Proofs
def upd (f : Int → Option Int) (k v : Int) : Int → Option Int := fun k' => if k' = k then some v else f k'
structure HS (σ : St) (h a m : Nat) (L : List Item) (cap : Nat) (turns : Int) (f : Int → Option Int) : Prop where
 gh : σ.get h = some (.cells [.map (some m), .slice (some ⟨a, 0, some 6⟩) L.length cap, .int .i64 turns] false)
 ga : ∃ G, σ.get a = some (.cells (cellsL L ++ G) false) ∧ L.length * 4 + G.length = cap * 4
 gm : ∃ es ck, σ.get m = some (.map es ck) ∧ KV es ∧ ∀ k, lk es k = f k
 ne : h ≠ a ∧ h ≠ m ∧ a ≠ m
 lt : h < σ.next ∧ a < σ.next ∧ m < σ.next
theorem map_set {σ : St} {m : Nat} {es : List MapEntry} {ck : Nat} {f : Int → Option Int} {k v : Int} (hg : σ.get m = some (.map es ck)) (hk : KV es) (hf : ∀ k, lk es k = f k) :
  ∃ es' ck', opMapUpdate (cP Try.prog).T σ 96 (.map (some m)) (.int .i64 k) (.int .i64 v) = some (.eff undef (σ.set m (.map es' ck')) [m]) ∧ KV es' ∧ ∀ k', lk es' k' = upd f k v k' := by
 have hu : (cP Try.prog).T.und 2 = some (.int .i64) := (cx_und 2).trans Try.underlying2
 have h96 : (cP Try.prog).T.und 96 = some (.map 2 3) := (cx_und 96).trans Try.underlying96
 cases hl : lk es k with
 | none =>
  refine ⟨_, ck + 1, ?_, push_KV hk hl (v := v) (c := ck), fun k' => ?_⟩
  ·simp only [opMapUpdate, h96, hg, keyOk, hu, if_true, find_none ⟨_, hu⟩ hk hl]
  ·rw [push_lk hk hl, hf]; rfl
 | some u =>
  obtain ⟨j, e, a1, a2, a3, a4⟩ := find_some (i := 0) ⟨_, hu⟩ hk hl
  obtain ⟨b1, b2⟩ := mod_KV hk a3 a4 (v := v)
  refine ⟨_, ck, ?_, b1, fun k' => ?_⟩
  ·simp only [opMapUpdate, h96, hg, keyOk, hu, if_true, a1, Nat.zero_add]
  ·rw [b2, hf]; rfl
theorem lget_id {L : List Item} {G : List Value} {i : Nat} {x : Item} (h : L[i]? = some x) : lget? (cellsL L ++ G) (i * 4) = some (.int .i64 x.id) := by
 have := cells_at (G := G) h
 rw [lget?_eq]
 have e := congrArg (·[0]?) this
 simpa [Item.cells] using e
def bt46 : Nat → List Nat
 | 0 => [0, 1, 3, 7, 15, 0, 32, 96, 224, 0, 992, 2016, 4064, 0, 16383]
 | _ => []
theorem lay_call {σ : St} {h a m : Nat} {L : List Item} {cap : Nat} {t : Int} {f : Int → Option Int} (H : HS σ h a m L cap t f) {i : Nat} {x : Item} (hi : L[i]? = some x) :
  ∃ σ', DCall Try.prog 46 [.pointer (some ⟨h, 0, none⟩), .int .i64 i] σ (.ret (.tuple ⟨[]⟩)) σ' [m] ∧ HS σ' h a m L cap t (upd f x.id i) ∧ σ'.next = σ.next ∧ ∀ c, c ≠ m → σ'.get c = σ.get c := by
 obtain ⟨G, ga, hG⟩ := H.ga
 obtain ⟨es, ck, gm, hkv, hlk⟩ := H.gm
 obtain ⟨n1, n2, n3⟩ := H.ne
 have gh := H.gh
 have hil : i < L.length := (List.getElem?_eq_some_iff.1 hi).1
 obtain ⟨es', ck', hup, kv', lk'⟩ := map_set (k := x.id) (v := i) gm hkv hlk
 have c1 : (0 : Int) ≤ (i : Int) ∧ (i : Int) < (L.length : Int) := by omega
 have hld := lget_id (G := G) hi
 refine ⟨σ.set m (.map es' ck'), ?_, ⟨?_, ⟨G, ?_, hG⟩, ⟨es', ck', by rw [St.get_set, if_pos rfl], kv', lk'⟩, H.ne, H.lt⟩, rfl, fun c hc => by rw [St.get_set, if_neg (Ne.symm hc)]⟩
 ·refine calls Orc.none_ok Try.func46 rfl 20 bt46 (by kernel_rfl) ?_
  have nh : ¬ σ.next ≤ h := by have := H.lt.1; omega
  have na : ¬ σ.next ≤ a := by have := H.lt.2.1; omega
  exact ⟨_, by simp only [go_sem, seval, if_pos rfl, bt46, gh, ga, c1, hld, hup, nh, na, Int.toNat_natCast, Try.f46, Try.underlying2, info2, Try.t2, Try.underlying3, info3, Try.t3, Try.underlying30, info30, Try.t30, Try.underlying31, info31, Try.t31, Try.underlying37, info37, Try.t37, Try.underlying96, info96, Try.t96, Try.underlying97, info97, Try.t97, Try.underlying98, info98, Try.t98, Try.underlying99, info99, Try.t99, Try.underlying100, info100, Try.t100] <;> rfl, by simp only [go_sem, seval, if_pos rfl, Try.f46], rfl, rfl⟩
 ·rw [St.get_set, if_neg (Ne.symm n2)]; exact gh
 ·rw [St.get_set, if_neg (Ne.symm n3)]; exact ga
def bt115 : Nat → List Nat
 | 0 => [0, 0, 0, 0, 0, 0, 48, 112, 0, 0, 768, 1792, 4083, 8179, 16383, 32767]
 | _ => []
def swapL (L : List Item) (i j : Nat) (x y : Item) : List Item := (L.set i y).set j x
theorem change_call {σ : St} {a : Nat} {L : List Item} {G : List Value} {cap : Nat} {i j : Nat} {x y : Item} (ga : σ.get a = some (.cells (cellsL L ++ G) false)) (hlt : a < σ.next) (hi : L[i]? = some x) (hj : L[j]? = some y) :
  DCall Try.prog 115 [.slice (some ⟨a, 0, some 6⟩) L.length cap, .int .i64 i, .int .i64 j] σ (.ret (.tuple ⟨[]⟩)) ((σ.set a (.cells (cellsL (L.set i y) ++ G) false)).set a (.cells (cellsL (swapL L i j x y) ++ G) false)) [a, a] := by
 have hil : i < L.length := (List.getElem?_eq_some_iff.1 hi).1
 have hjl : j < L.length := (List.getElem?_eq_some_iff.1 hj).1
 have c1 : (0 : Int) ≤ (i : Int) ∧ (i : Int) < (L.length : Int) := by omega
 have c2 : (0 : Int) ≤ (j : Int) ∧ (j : Int) < (L.length : Int) := by omega
 have e1 := cells_at (G := G) hi
 have e2 := cells_at (G := G) hj
 have o1 := over_at (G := G) (L := L) y hil
 have o2 := over_at (G := G) (L := L.set i y) x (by simpa using hjl)
 have l1 : i * 4 + 4 ≤ (cellsL L ++ G).length := by simp [cellsL_length]; omega
 have l2 : j * 4 + 4 ≤ (cellsL L ++ G).length := by simp [cellsL_length]; omega
 have l3 : j * 4 + 4 ≤ (cellsL (L.set i y) ++ G).length := by simp [cellsL_length]; omega
 have na : ¬ σ.next ≤ a := by omega
 simp only [Item.cells] at e1 e2 o1 o2
 refine calls Orc.none_ok Try.func115 rfl 20 bt115 (by kernel_rfl) ?_
 exact ⟨_, by simp only [go_sem, seval, if_pos rfl, bt115, ga, c1, c2, e1, e2, l1, l2, l3, o1, o2, na, Int.toNat_natCast, Try.f115, Try.underlying3, info3, Try.t3, Try.underlying30, info30, Try.t30, Try.underlying31, info31, Try.t31, Try.underlying37, info37, Try.t37] <;> rfl, by simp only [go_sem, seval, if_pos rfl, Try.f115], rfl, rfl⟩
theorem swapL_length (L : List Item) (i j : Nat) (x y : Item) : (swapL L i j x y).length = L.length := by simp [swapL]
theorem DCall.weaken {P : Program} {f : FuncId} {args : List Value} {σ σ' : St} {e : AE} {l l' : Log} (h : DCall P f args σ e σ' l) (hs : ∀ c ∈ l, c ∈ l') : DCall P f args σ e σ' l' :=
 ⟨⟨h.1.1, fun c hc hn => h.1.2 c hc fun hm => hn (hs c hm)⟩, h.2⟩
theorem swap_call {σ : St} {h a m : Nat} {L : List Item} {cap : Nat} {t : Int} {f : Int → Option Int} (H : HS σ h a m L cap t f) {i j : Nat} {x y : Item} (hi : L[i]? = some x) (hj : L[j]? = some y) :
  ∃ σ', DCall Try.prog 80 [.pointer (some ⟨h, 0, none⟩), .int .i64 i, .int .i64 j] σ (.ret (.tuple ⟨[]⟩)) σ' [a, m] ∧ HS σ' h a m (swapL L i j x y) cap t (upd (upd f (if i = j then x.id else y.id) i) x.id j) ∧ σ'.next = σ.next ∧ ∀ c, c ≠ a → c ≠ m → σ'.get c = σ.get c := by
 obtain ⟨G, ga, hG⟩ := H.ga
 have gh := H.gh
 obtain ⟨n1, n2, n3⟩ := H.ne
 have hil : i < L.length := (List.getElem?_eq_some_iff.1 hi).1
 have hjl : j < L.length := (List.getElem?_eq_some_iff.1 hj).1
 have hc := change_call (cap := cap) ga H.lt.2.1 hi hj
 let σ1 := (σ.set a (.cells (cellsL (L.set i y) ++ G) false)).set a (.cells (cellsL (swapL L i j x y) ++ G) false)
 have H1 : HS σ1 h a m (swapL L i j x y) cap t f := by
  obtain ⟨es, ck, gm, hkv, hlk⟩ := H.gm
  refine ⟨?_, ⟨G, by rw [St.get_set, if_pos rfl], by rw [swapL_length]; exact hG⟩, ⟨es, ck, ?_, hkv, hlk⟩, H.ne, H.lt⟩
  ·rw [St.get_set, if_neg (Ne.symm n1), St.get_set, if_neg (Ne.symm n1), swapL_length]; exact gh
  ·rw [St.get_set, if_neg n3, St.get_set, if_neg n3]; exact gm
 have hx' : (swapL L i j x y)[i]? = some (if i = j then x else y) := by
  unfold swapL
  by_cases e : i = j
  ·subst e; simp [hil]
  ·rw [List.getElem?_set_ne (Ne.symm e)]; simp [hil, e]
 have hy' : (swapL L i j x y)[j]? = some x := by simp [swapL, hjl]
 obtain ⟨σ2, d2, H2, nx2, k2⟩ := lay_call H1 hx'
 obtain ⟨σ3, d3, H3, nx3, k3⟩ := lay_call H2 hy'
 refine ⟨σ3, ?_, ?_, by rw [nx3, nx2]; rfl, fun c h1 h2 => by rw [k3 c h2, k2 c h2, St.get_set, if_neg (Ne.symm h1), St.get_set, if_neg (Ne.symm h1)]⟩
 ·refine DCall.weaken (l := ([a, a] ++ ([m] ++ [m]))) (callsD Try.func80 rfl (DC.seq (runs (one_ok' Orc.none_ok hc) 20 nobt (by kernel_rfl) (r := ⟨.norm, ⟨_, []⟩, σ1, [a, a]⟩) (by simp only [go_sem, seval, if_pos rfl, Orc.one_call, gh, Try.f80, Try.underlying3, info3, Try.t3, Try.underlying26, info26, Try.t26, Try.underlying37, info37, Try.t37, Try.underlying99, info99, Try.t99, Try.underlying100, info100, Try.t100, body115] <;> rfl)) rfl
   (DC.seq (runs (one_ok' Orc.none_ok d2) 20 nobt (by kernel_rfl) (r := ⟨.norm, ⟨_, []⟩, σ2, [m]⟩) (by simp only [go_sem, seval, if_pos rfl, Orc.one_call, body46] <;> rfl)) rfl (runs (one_ok' Orc.none_ok d3) 20 nobt (by kernel_rfl) (r := ⟨.norm, ⟨_, []⟩, σ3, [m]⟩) (by simp only [go_sem, seval, if_pos rfl, Orc.one_call, body46] <;> rfl)))) (by simp only [go_sem, seval, if_pos rfl, Try.f80]) rfl rfl) (by simp)
 ·have e : (if i = j then x else y).id = (if i = j then x.id else y.id) := by split <;> rfl
  rw [e] at H3
  exact H3
end Go.Ab
namespace Go.Ab
open Go.Proofs
structure Idx (L : List Item) (f : Int → Option Int) : Prop where
 fwd : ∀ (i : Nat) (x : Item), L[i]? = some x → f x.id = some (i : Int)
 bwd : ∀ k v, f k = some v → ∃ (i : Nat) (x : Item), L[i]? = some x ∧ x.id = k ∧ v = i
theorem Idx.inj {L : List Item} {f : Int → Option Int} (h : Idx L f) {i j : Nat} {x y : Item} (hi : L[i]? = some x) (hj : L[j]? = some y) (e : x.id = y.id) : i = j := by
 have a := h.fwd i x hi
 have b := h.fwd j y hj
 rw [e, b] at a
 simp only [Option.some.injEq] at a
 omega
theorem swapL_get {L : List Item} {i j : Nat} {x y : Item} (hi : L[i]? = some x) (hj : L[j]? = some y) (k : Nat) : (swapL L i j x y)[k]? = if k = j then some x else if k = i then some y else L[k]? := by
 have hil : i < L.length := (List.getElem?_eq_some_iff.1 hi).1
 have hjl : j < L.length := (List.getElem?_eq_some_iff.1 hj).1
 unfold swapL
 by_cases e : k = j
 ·subst e; rw [if_pos rfl, List.getElem?_set_self (by simpa using hjl)]
 ·rw [if_neg e, List.getElem?_set_ne (Ne.symm e)]
  by_cases e2 : k = i
  ·subst e2; rw [if_pos rfl, List.getElem?_set_self hil]
  ·rw [if_neg e2, List.getElem?_set_ne (Ne.symm e2)]
theorem Idx.swap {L : List Item} {f : Int → Option Int} (h : Idx L f) {i j : Nat} {x y : Item} (hi : L[i]? = some x) (hj : L[j]? = some y) : Idx (swapL L i j x y) (upd (upd f (if i = j then x.id else y.id) i) x.id j) := by
 constructor
 ·intro k z hz
  rw [swapL_get hi hj] at hz
  unfold upd
  by_cases e : k = j
  ·rw [if_pos e] at hz; cases hz; rw [if_pos rfl, e]
  ·rw [if_neg e] at hz
   by_cases e2 : k = i
   ·rw [if_pos e2] at hz; cases hz
    have hij : i ≠ j := fun q => e (e2.trans q)
    have hne : y.id ≠ x.id := fun q => hij (h.inj hi hj q.symm)
    rw [if_neg hne, if_neg hij, if_pos rfl, e2]
   ·rw [if_neg e2] at hz
    have n1 : z.id ≠ x.id := fun q => e2 (h.inj hz hi q)
    have n2 : z.id ≠ y.id := fun q => e (h.inj hz hj q)
    rw [if_neg n1, if_neg (by split; exact n1; exact n2)]
    exact h.fwd k z hz
 ·intro k v hk
  unfold upd at hk
  by_cases e : k = x.id
  ·rw [if_pos e] at hk; cases hk
   exact ⟨j, x, by rw [swapL_get hi hj, if_pos rfl], e.symm, rfl⟩
  ·rw [if_neg e] at hk
   by_cases e2 : k = (if i = j then x.id else y.id)
   ·rw [if_pos e2] at hk; cases hk
    have hij : i ≠ j := fun q => e (by rw [e2, if_pos q])
    rw [if_neg hij] at e2
    exact ⟨i, y, by rw [swapL_get hi hj, if_neg hij, if_pos rfl], e2.symm, rfl⟩
   ·rw [if_neg e2] at hk
    obtain ⟨i0, x0, a1, a2, a3⟩ := h.bwd k v hk
    have n1 : i0 ≠ i := fun q => e (by subst q; rw [hi] at a1; cases a1; exact a2.symm)
    have n2 : i0 ≠ j := fun q => by
     subst q
     rw [hj] at a1; cases a1
     apply e2
     by_cases hij : i = i0
     ·exact absurd hij.symm n1
     ·rw [if_neg hij]; exact a2.symm
    exact ⟨i0, x0, by rw [swapL_get hi hj, if_neg n2, if_neg n1]; exact a1, a2, a3⟩
structure HI (σ : St) (h a m : Nat) (L : List Item) (cap : Nat) (t : Int) : Prop where
 hs : ∃ f, HS σ h a m L cap t f ∧ Idx L f
 ok : ∀ x ∈ L, x.ok = true
 small : L.length ≤ 1000000
theorem HI.swap {σ : St} {h a m : Nat} {L : List Item} {cap : Nat} {t : Int} (H : HI σ h a m L cap t) {i j : Nat} {x y : Item} (hi : L[i]? = some x) (hj : L[j]? = some y) :
  ∃ σ', DCall Try.prog 80 [.pointer (some ⟨h, 0, none⟩), .int .i64 i, .int .i64 j] σ (.ret (.tuple ⟨[]⟩)) σ' [a, m] ∧ HI σ' h a m (swapL L i j x y) cap t ∧ σ'.next = σ.next ∧ ∀ c, c ≠ a → c ≠ m → σ'.get c = σ.get c := by
 obtain ⟨f, H1, hx⟩ := H.hs
 obtain ⟨σ', d, H2, nx, k⟩ := swap_call H1 hi hj
 refine ⟨σ', d, ⟨⟨_, H2, hx.swap hi hj⟩, fun z hz => ?_, by rw [swapL_length]; exact H.small⟩, nx, k⟩
 obtain ⟨q, hq⟩ := List.getElem?_of_mem hz
 rw [swapL_get hi hj] at hq
 split at hq
 ·cases hq; exact H.ok _ (List.mem_of_getElem? hi)
 ·split at hq
  ·cases hq; exact H.ok _ (List.mem_of_getElem? hj)
  ·exact H.ok _ (List.mem_of_getElem? hq)
def p8 : FuncId → List Value → Option Value
 | 79, [.agg ⟨[.int .i64 a, .int .i64 b, .int .i64 c, .int .i64 d]⟩, .agg ⟨[.int .i64 a', .int .i64 b', .int .i64 c', .int .i64 d']⟩] =>
  if Item.ok ⟨a, b, c, d⟩ && Item.ok ⟨a', b', c', d'⟩ then some (.int .i64 (cmpItem ⟨a, b, c, d⟩ ⟨a', b', c', d'⟩)) else none
 | f, args => p7 f args
theorem p8_is : ∀ f args v, p8 f args = some v → ∀ σ, DCall Try.prog f args σ (.ret v) σ [] := fun f args v h σ => by
 unfold p8 at h
 split at h
 ·split at h
  ·rename_i hn
   rw [Bool.and_eq_true] at hn
   cases h
   exact order_call _ _ σ hn.1 hn.2
  ·cases h
 ·exact p7_is f args v h σ
theorem p8_ok : (pureO p8).Ok Try.prog := pureO_ok p8_is
def riseL : Nat → List Item → Nat → List Item
 | 0, L, _ => L
 | k + 1, L, n => if n = 0 then L else
  match L[(n - 1) / 2]?, L[n]? with
  | some x, some y => if cmpItem x y ≤ 0 then L else riseL k (swapL L ((n - 1) / 2) n x y) ((n - 1) / 2)
  | _, _ => L
def bt47 : Nat → List Nat
 | 2 => [0, 1, 3, 7, 0, 31, 63, 0, 128, 384, 896, 0, 3968, 8064, 16383, 32767]
 | _ => []
theorem rise_loop {h a m : Nat} {cap : Nat} {t : Int} : ∀ (k n : Nat) (L : List Item) (σ : St) (z : List Value), n < k → z.length = 29 → HI σ h a m L cap t → n < L.length →
  ∃ σ' lg y y1, DL Try.prog false (loopOf (Try.f47.body.getD .skip)) ⟨.pointer (some ⟨h, 0, none⟩) :: .int .i64 n :: z, []⟩ σ ⟨.exit 0, ⟨.pointer (some ⟨h, 0, none⟩) :: y1 :: y, []⟩, σ', lg⟩ ∧ y.length = 29 ∧ (∀ c ∈ lg, c ∈ [a, m]) ∧
   HI σ' h a m (riseL k L n) cap t ∧ σ'.next = σ.next ∧ ∀ c, c ≠ a → c ≠ m → σ'.get c = σ.get c := by
 intro k
 induction k with
 | zero => intro n L σ z hk; omega
 | succ k ih =>
  intro n L σ z hk hz H hn
  obtain ⟨x2, x3, x4, x5, x6, x7, x8, x9, x10, x11, x12, x13, x14, x15, x16, x17, x18, x19, x20, x21, x22, x23, x24, x25, x26, x27, x28, x29, x30, rfl⟩ : ∃ x2 x3 x4 x5 x6 x7 x8 x9 x10 x11 x12 x13 x14 x15 x16 x17 x18 x19 x20 x21 x22 x23 x24 x25 x26 x27 x28 x29 x30, z = [x2, x3, x4, x5, x6, x7, x8, x9, x10, x11, x12, x13, x14, x15, x16, x17, x18, x19, x20, x21, x22, x23, x24, x25, x26, x27, x28, x29, x30] := by
   match z, hz with
   | [x2, x3, x4, x5, x6, x7, x8, x9, x10, x11, x12, x13, x14, x15, x16, x17, x18, x19, x20, x21, x22, x23, x24, x25, x26, x27, x28, x29, x30], _ => exact ⟨_, _, _, _, _, _, _, _, _, _, _, _, _, _, _, _, _, _, _, _, _, _, _, _, _, _, _, _, _, rfl⟩
  by_cases h0 : n = 0
  ·subst h0
   refine ⟨σ, [], _, _, DL.out (runs p8_ok 20 bt47 (by kernel_rfl) (r := ⟨.exit 0, ⟨_, []⟩, σ, []⟩) (by simp only [go_sem, seval, if_pos rfl, loopOf, Option.getD, Int.natCast_zero, Try.f47, Try.underlying3, info3, Try.t3] <;> rfl)) rfl, rfl, by simp, by simpa [riseL] using H, rfl, fun _ _ _ => rfl⟩
  ·have hu : (n - 1) / 2 < L.length := by omega
   obtain ⟨x, hx⟩ : ∃ x, L[(n - 1) / 2]? = some x := ⟨_, List.getElem?_eq_getElem hu⟩
   obtain ⟨y, hy⟩ : ∃ y, L[n]? = some y := ⟨_, List.getElem?_eq_getElem hn⟩
   obtain ⟨f, H1, hi⟩ := H.hs
   obtain ⟨G, ga, hG⟩ := H1.ga
   have gh := H1.gh
   have sm := H.small
   have b0 : (0 : Int) < (n : Int) := by omega
   have w1 : IntKind.i64.wrap ((n : Int) - 1) = ((n - 1 : Nat) : Int) := by rw [IntKind.wrap_i64]; omega
   have w2 : IntKind.i64.wrap (((n - 1 : Nat) : Int).tdiv 2) = (((n - 1) / 2 : Nat) : Int) := by
    rw [Int.tdiv_eq_ediv_of_nonneg (by omega), IntKind.wrap_i64]; omega
   generalize hup : (n - 1) / 2 = up at *
   have c1 : (0 : Int) ≤ (up : Int) ∧ (up : Int) < (L.length : Int) := by omega
   have c2 : (0 : Int) ≤ (n : Int) ∧ (n : Int) < (L.length : Int) := by omega
   have e1 := cells_at (G := G) hx
   have e2 := cells_at (G := G) hy
   have l1 : up * 4 + 4 ≤ (cellsL L ++ G).length := by simp [cellsL_length]; omega
   have l2 : n * 4 + 4 ≤ (cellsL L ++ G).length := by simp [cellsL_length]; omega
   have nh : ¬ σ.next ≤ h := by have := H1.lt.1; omega
   have na : ¬ σ.next ≤ a := by have := H1.lt.2.1; omega
   have ox : Item.ok ⟨x.id, x.n, x.d, x.turn⟩ = true := H.ok x (List.mem_of_getElem? hx)
   have oy : Item.ok ⟨y.id, y.n, y.d, y.turn⟩ = true := H.ok y (List.mem_of_getElem? hy)
   simp only [Item.cells] at e1 e2
   by_cases hc : cmpItem ⟨x.id, x.n, x.d, x.turn⟩ ⟨y.id, y.n, y.d, y.turn⟩ ≤ 0
   ·refine ⟨σ, [], _, _, DL.out (runs p8_ok 30 bt47 (by kernel_rfl) (r := ⟨.exit 0, ⟨_, []⟩, σ, []⟩) (by simp only [go_sem, seval, if_pos rfl, loopOf, Option.getD, bt47, p8, b0, w1, w2, c1, c2, e1, e2, l1, l2, nh, na, ox, oy, hc, gh, ga, Int.toNat_natCast, Try.f47, Try.underlying3, info3, Try.t3, Try.underlying26, info26, Try.t26, Try.underlying30, info30, Try.t30, Try.underlying31, info31, Try.t31, Try.underlying37, info37, Try.t37, Try.underlying99, info99, Try.t99, Try.underlying100, info100, Try.t100, body79] <;> rfl)) rfl, rfl, by simp, ?_, rfl, fun _ _ _ => rfl⟩
    have hc' : cmpItem x y ≤ 0 := hc
    simpa [riseL, h0, hup, hx, hy, hc'] using H
   ·obtain ⟨σ1, d, HS1, nx, kp⟩ := H.swap hx hy
    have hc' : ¬ cmpItem x y ≤ 0 := hc
    obtain ⟨z', hz', hr⟩ : ∃ z', z'.length = 29 ∧ DC Try.prog false (loopOf (Try.f47.body.getD .skip)) ⟨.pointer (some ⟨h, 0, none⟩) :: .int .i64 n :: [x2, x3, x4, x5, x6, x7, x8, x9, x10, x11, x12, x13, x14, x15, x16, x17, x18, x19, x20, x21, x22, x23, x24, x25, x26, x27, x28, x29, x30], []⟩ σ ⟨.norm, ⟨.pointer (some ⟨h, 0, none⟩) :: .int .i64 up :: z', []⟩, σ1, [a, m]⟩ :=
     ⟨[_, _, _, _, _, _, _, _, _, _, _, _, _, _, _, _, _, _, _, _, _, _, _, _, _, _, _, _, _], rfl, runs (one_ok' p8_ok d) 30 bt47 (by kernel_rfl) (by simp only [go_sem, seval, if_pos rfl, loopOf, Option.getD, bt47, p8, one_other, Orc.one_call, b0, w1, w2, c1, c2, e1, e2, l1, l2, nh, na, ox, oy, hc, gh, ga, Int.toNat_natCast, Try.f47, Try.underlying3, info3, Try.t3, Try.underlying26, info26, Try.t26, Try.underlying30, info30, Try.t30, Try.underlying31, info31, Try.t31, Try.underlying37, info37, Try.t37, Try.underlying99, info99, Try.t99, Try.underlying100, info100, Try.t100, body79, body80] <;> rfl)⟩
    obtain ⟨σ', lg, yy, y1, hl, hyl, hlg, HF, nx', kp'⟩ := ih up (swapL L up n x y) σ1 z' (by omega) hz' HS1 (by rw [swapL_length]; omega)
    refine ⟨σ', [a, m] ++ lg, yy, y1, DL.next hr rfl hl, hyl, ?_, ?_, by rw [nx', nx], fun c h1 h2 => by rw [kp' c h1 h2, kp c h1 h2]⟩
    ·intro c hc2
     rcases List.mem_append.1 hc2 with h3 | h3
     ·exact h3
     ·exact hlg c h3
    ·simpa [riseL, h0, hup, hx, hy, hc'] using HF
theorem rise_call {σ : St} {h a m : Nat} {L : List Item} {cap : Nat} {t : Int} (H : HI σ h a m L cap t) {n : Nat} (hn : n < L.length) :
  ∃ σ', DCall Try.prog 47 [.pointer (some ⟨h, 0, none⟩), .int .i64 n] σ (.ret (.tuple ⟨[]⟩)) σ' [a, m] ∧ HI σ' h a m (riseL (n + 1) L n) cap t ∧ σ'.next = σ.next ∧ ∀ c, c ≠ a → c ≠ m → σ'.get c = σ.get c := by
 obtain ⟨σ', lg, y, y1, hl, hy, hlg, HF, nx, kp⟩ := rise_loop (n + 1) n L σ (List.replicate 29 undef) (by omega) rfl H hn
 refine ⟨σ', DCall.weaken (l := [] ++ lg) (callsD Try.func47 rfl (DC.scope (DS.out (DC.seq (DC.label _ _ _ _) rfl (DC.block (DC.loop hl))) (fun l h => by simp [RR.pre, AX.inBlock] at h))) ?_ rfl rfl) (by simpa using hlg), HF, nx, kp⟩
 simp only [go_sem, seval, if_pos rfl, Try.f47]
end Go.Ab
namespace Go.Ab
open Go.Proofs
def bt81 : Nat → List Nat
 | 4 => [0, 0, 2, 6, 14, 30, 63, 127, 255, 511, 1023, 2047, 255, 8191, 16383, 255, 33023, 98559, 229631, 255, 1016063, 2064639, 4194303, 8388607, 16777215]
 | _ => []
def less1 (L : List Item) (n k : Nat) : Nat :=
 match L[k]?, L[n]? with
 | some y, some x => if cmpItem y x < 0 then k else n
 | _, _ => n
def leastL (L : List Item) (n : Nat) : Nat := less1 L (less1 L n (2 * n + 1)) (2 * n + 2)
theorem less1_lt {L : List Item} {n k : Nat} (h : n < L.length) : less1 L n k < L.length := by
 unfold less1
 split
 ·rename_i hk _
  split
  ·exact (List.getElem?_eq_some_iff.1 hk).1
  ·exact h
 ·exact h
theorem least_look {σ : St} {h a q : Nat} {L : List Item} {G : List Value} {cap : Nat} {M T : Value} {n k : Nat} {j : Int} {K0 K1 : Value}
  (gq : σ.get q = some (.cells [.pointer (some ⟨h, 0, none⟩)] false)) (gh : σ.get h = some (.cells [M, .slice (some ⟨a, 0, some 6⟩) L.length cap, T] false)) (ga : σ.get a = some (.cells (cellsL L ++ G) false))
  (lt : q < σ.next ∧ h < σ.next ∧ a < σ.next) (ok : ∀ x ∈ L, x.ok = true) (hn : n < L.length) (hj : j = 0 ∧ K0 = .int .i64 k ∨ j = 1 ∧ K1 = .int .i64 k)
  (z1 : List Value) (hz1 : z1.length = 10) (z2 : List Value) (hz2 : z2.length = 30) :
  ∃ z1' z2', z1'.length = 10 ∧ z2'.length = 30 ∧ DC Try.prog false (loopOf (Try.f81.body.getD .skip)) ⟨.int .i64 n :: .pointer (some ⟨q, 0, none⟩) :: (z1 ++ .agg ⟨[K0, K1]⟩ :: .int .i64 j :: z2), []⟩ σ
   ⟨.norm, ⟨.int .i64 (less1 L n k) :: .pointer (some ⟨q, 0, none⟩) :: (z1' ++ .agg ⟨[K0, K1]⟩ :: .int .i64 (j + 1) :: z2'), []⟩, σ, []⟩ := by
 obtain ⟨x2, x3, x4, x5, x6, x7, x8, x9, x10, x11, rfl⟩ : ∃ x2 x3 x4 x5 x6 x7 x8 x9 x10 x11, z1 = [x2, x3, x4, x5, x6, x7, x8, x9, x10, x11] := by
  match z1, hz1 with
  | [x2, x3, x4, x5, x6, x7, x8, x9, x10, x11], _ => exact ⟨_, _, _, _, _, _, _, _, _, _, rfl⟩
 obtain ⟨y14, y15, y16, y17, y18, y19, y20, y21, y22, y23, y24, y25, y26, y27, y28, y29, y30, y31, y32, y33, y34, y35, y36, y37, y38, y39, y40, y41, y42, y43, rfl⟩ : ∃ y14 y15 y16 y17 y18 y19 y20 y21 y22 y23 y24 y25 y26 y27 y28 y29 y30 y31 y32 y33 y34 y35 y36 y37 y38 y39 y40 y41 y42 y43, z2 = [y14, y15, y16, y17, y18, y19, y20, y21, y22, y23, y24, y25, y26, y27, y28, y29, y30, y31, y32, y33, y34, y35, y36, y37, y38, y39, y40, y41, y42, y43] := by
  match z2, hz2 with
  | [y14, y15, y16, y17, y18, y19, y20, y21, y22, y23, y24, y25, y26, y27, y28, y29, y30, y31, y32, y33, y34, y35, y36, y37, y38, y39, y40, y41, y42, y43], _ => exact ⟨_, _, _, _, _, _, _, _, _, _, _, _, _, _, _, _, _, _, _, _, _, _, _, _, _, _, _, _, _, _, rfl⟩
 obtain ⟨x, hx⟩ : ∃ x, L[n]? = some x := ⟨_, List.getElem?_eq_getElem hn⟩
 have c0 : (0 : Int) ≤ (n : Int) ∧ (n : Int) < (L.length : Int) := by omega
 have e0 := cells_at (G := G) hx
 have l0 : n * 4 + 4 ≤ (cellsL L ++ G).length := by simp [cellsL_length]; omega
 have nq : ¬ σ.next ≤ q := by omega
 have nh : ¬ σ.next ≤ h := by omega
 have na : ¬ σ.next ≤ a := by omega
 have ox : Item.ok ⟨x.id, x.n, x.d, x.turn⟩ = true := ok x (List.mem_of_getElem? hx)
 have w1 : IntKind.i64.wrap 1 = 1 := by decide
 have w2 : IntKind.i64.wrap 2 = 2 := by decide
 simp only [Item.cells] at e0
 by_cases hk : k < L.length
 ·obtain ⟨y, hy⟩ : ∃ y, L[k]? = some y := ⟨_, List.getElem?_eq_getElem hk⟩
  have f1 : (k : Int) < (L.length : Int) := by omega
  have f2 : (0 : Int) ≤ (k : Int) := by omega
  have e1 := cells_at (G := G) hy
  have l1 : k * 4 + 4 ≤ (cellsL L ++ G).length := by simp [cellsL_length]; omega
  have oy : Item.ok ⟨y.id, y.n, y.d, y.turn⟩ = true := ok y (List.mem_of_getElem? hy)
  simp only [Item.cells] at e1
  by_cases hc : cmpItem ⟨y.id, y.n, y.d, y.turn⟩ ⟨x.id, x.n, x.d, x.turn⟩ < 0
  ·have hc' : cmpItem y x < 0 := hc
   have hl : less1 L n k = k := by simp [less1, hx, hy, hc']
   rw [hl]
   rcases hj with ⟨rfl, rfl⟩ | ⟨rfl, rfl⟩
   ·refine ⟨[_, _, _, _, _, _, _, _, _, _], [_, _, _, _, _, _, _, _, _, _, _, _, _, _, _, _, _, _, _, _, _, _, _, _, _, _, _, _, _, _], rfl, rfl, runs p8_ok 40 bt81 (by kernel_rfl) (by simp only [go_sem, seval, if_pos rfl, loopOf, Option.getD, bt81, p8, opLen, w1, w2, c0, e0, l0, gq, gh, ga, nq, nh, na, ox, Int.toNat_natCast, Try.f81, Try.underlying2, info2, Try.t2, Try.underlying3, info3, Try.t3, Try.underlying26, info26, Try.t26, Try.underlying30, info30, Try.t30, Try.underlying31, info31, Try.t31, Try.underlying37, info37, Try.t37, Try.underlying49, info49, Try.t49, Try.underlying99, info99, Try.t99, Try.underlying100, info100, Try.t100, body79, f1, f2, e1, l1, oy, hc] <;> rfl)⟩
   ·refine ⟨[_, _, _, _, _, _, _, _, _, _], [_, _, _, _, _, _, _, _, _, _, _, _, _, _, _, _, _, _, _, _, _, _, _, _, _, _, _, _, _, _], rfl, rfl, runs p8_ok 40 bt81 (by kernel_rfl) (by simp only [go_sem, seval, if_pos rfl, loopOf, Option.getD, bt81, p8, opLen, w1, w2, c0, e0, l0, gq, gh, ga, nq, nh, na, ox, Int.toNat_natCast, Try.f81, Try.underlying2, info2, Try.t2, Try.underlying3, info3, Try.t3, Try.underlying26, info26, Try.t26, Try.underlying30, info30, Try.t30, Try.underlying31, info31, Try.t31, Try.underlying37, info37, Try.t37, Try.underlying49, info49, Try.t49, Try.underlying99, info99, Try.t99, Try.underlying100, info100, Try.t100, body79, f1, f2, e1, l1, oy, hc] <;> rfl)⟩
  ·have hc' : ¬ cmpItem y x < 0 := hc
   have hl : less1 L n k = n := by simp only [less1, hx, hy, if_neg hc']
   rw [hl]
   rcases hj with ⟨rfl, rfl⟩ | ⟨rfl, rfl⟩
   ·refine ⟨[_, _, _, _, _, _, _, _, _, _], [_, _, _, _, _, _, _, _, _, _, _, _, _, _, _, _, _, _, _, _, _, _, _, _, _, _, _, _, _, _], rfl, rfl, runs p8_ok 40 bt81 (by kernel_rfl) (by simp only [go_sem, seval, if_pos rfl, loopOf, Option.getD, bt81, p8, opLen, w1, w2, c0, e0, l0, gq, gh, ga, nq, nh, na, ox, Int.toNat_natCast, Try.f81, Try.underlying2, info2, Try.t2, Try.underlying3, info3, Try.t3, Try.underlying26, info26, Try.t26, Try.underlying30, info30, Try.t30, Try.underlying31, info31, Try.t31, Try.underlying37, info37, Try.t37, Try.underlying49, info49, Try.t49, Try.underlying99, info99, Try.t99, Try.underlying100, info100, Try.t100, body79, f1, f2, e1, l1, oy, hc] <;> rfl)⟩
   ·refine ⟨[_, _, _, _, _, _, _, _, _, _], [_, _, _, _, _, _, _, _, _, _, _, _, _, _, _, _, _, _, _, _, _, _, _, _, _, _, _, _, _, _], rfl, rfl, runs p8_ok 40 bt81 (by kernel_rfl) (by simp only [go_sem, seval, if_pos rfl, loopOf, Option.getD, bt81, p8, opLen, w1, w2, c0, e0, l0, gq, gh, ga, nq, nh, na, ox, Int.toNat_natCast, Try.f81, Try.underlying2, info2, Try.t2, Try.underlying3, info3, Try.t3, Try.underlying26, info26, Try.t26, Try.underlying30, info30, Try.t30, Try.underlying31, info31, Try.t31, Try.underlying37, info37, Try.t37, Try.underlying49, info49, Try.t49, Try.underlying99, info99, Try.t99, Try.underlying100, info100, Try.t100, body79, f1, f2, e1, l1, oy, hc] <;> rfl)⟩
 ·have f1 : ¬ (k : Int) < (L.length : Int) := by omega
  have hl : less1 L n k = n := by simp only [less1, List.getElem?_eq_none (Nat.le_of_not_lt hk)]
  rw [hl]
  rcases hj with ⟨rfl, rfl⟩ | ⟨rfl, rfl⟩
  ·refine ⟨[_, _, _, _, _, _, _, _, _, _], [_, _, _, _, _, _, _, _, _, _, _, _, _, _, _, _, _, _, _, _, _, _, _, _, _, _, _, _, _, _], rfl, rfl, runs p8_ok 40 bt81 (by kernel_rfl) (by simp only [go_sem, seval, if_pos rfl, loopOf, Option.getD, bt81, p8, opLen, w1, w2, c0, e0, l0, gq, gh, ga, nq, nh, na, ox, Int.toNat_natCast, Try.f81, Try.underlying2, info2, Try.t2, Try.underlying3, info3, Try.t3, Try.underlying26, info26, Try.t26, Try.underlying30, info30, Try.t30, Try.underlying31, info31, Try.t31, Try.underlying37, info37, Try.t37, Try.underlying49, info49, Try.t49, Try.underlying99, info99, Try.t99, Try.underlying100, info100, Try.t100, body79, f1] <;> rfl)⟩
  ·refine ⟨[_, _, _, _, _, _, _, _, _, _], [_, _, _, _, _, _, _, _, _, _, _, _, _, _, _, _, _, _, _, _, _, _, _, _, _, _, _, _, _, _], rfl, rfl, runs p8_ok 40 bt81 (by kernel_rfl) (by simp only [go_sem, seval, if_pos rfl, loopOf, Option.getD, bt81, p8, opLen, w1, w2, c0, e0, l0, gq, gh, ga, nq, nh, na, ox, Int.toNat_natCast, Try.f81, Try.underlying2, info2, Try.t2, Try.underlying3, info3, Try.t3, Try.underlying26, info26, Try.t26, Try.underlying30, info30, Try.t30, Try.underlying31, info31, Try.t31, Try.underlying37, info37, Try.t37, Try.underlying49, info49, Try.t49, Try.underlying99, info99, Try.t99, Try.underlying100, info100, Try.t100, body79, f1] <;> rfl)⟩
theorem sink1_call {σ : St} {h a q : Nat} {L : List Item} {G : List Value} {cap : Nat} {M T : Value} {n : Nat}
  (gq : σ.get q = some (.cells [.pointer (some ⟨h, 0, none⟩)] false)) (gh : σ.get h = some (.cells [M, .slice (some ⟨a, 0, some 6⟩) L.length cap, T] false)) (ga : σ.get a = some (.cells (cellsL L ++ G) false))
  (lt : q < σ.next ∧ h < σ.next ∧ a < σ.next) (ok : ∀ x ∈ L, x.ok = true) (hn : n < L.length) (sm : L.length ≤ 1000000) :
  DCall Try.prog 81 [.int .i64 n, .pointer (some ⟨q, 0, none⟩)] σ (.ret (.int .i64 (leastL L n))) σ [] := by
 have v1 : IntKind.i64.wrap (2 * (n : Int)) = ((2 * n : Nat) : Int) := by rw [IntKind.wrap_i64]; omega
 have v2 : IntKind.i64.wrap (((2 * n : Nat) : Int) + 1) = ((2 * n + 1 : Nat) : Int) := by rw [IntKind.wrap_i64]; omega
 have v3 : IntKind.i64.wrap (((2 * n : Nat) : Int) + 2) = ((2 * n + 2 : Nat) : Int) := by rw [IntKind.wrap_i64]; omega
 generalize hk1 : 2 * n + 1 = k1 at v2
 generalize hk2 : 2 * n + 2 = k2 at v3
 generalize hk0 : 2 * n = k0 at v1 v2 v3
 obtain ⟨z1, z2, l1, l2, d1⟩ := least_look (n := n) (k := k1) (j := 0) (K0 := .int .i64 k1) (K1 := .int .i64 k2) gq gh ga lt ok hn (.inl ⟨rfl, rfl⟩)
  [undef, .int .i64 0, undef, undef, .int .i64 n, .int .i64 k0, .int .i64 k1, .int .i64 n, .int .i64 k0, .int .i64 k2] rfl (List.replicate 30 undef) rfl
 obtain ⟨w1, w2, m1, m2, d2⟩ := least_look (n := less1 L n k1) (k := k2) (j := 1) (K0 := .int .i64 k1) (K1 := .int .i64 k2) gq gh ga lt ok (less1_lt hn) (.inr ⟨rfl, rfl⟩) z1 l1 z2 l2
 have hle : less1 L (less1 L n k1) k2 = leastL L n := by unfold leastL; rw [← hk1, ← hk2, hk0]
 rw [hle] at d2
 obtain ⟨x2, x3, x4, x5, x6, x7, x8, x9, x10, x11, rfl⟩ : ∃ x2 x3 x4 x5 x6 x7 x8 x9 x10 x11, w1 = [x2, x3, x4, x5, x6, x7, x8, x9, x10, x11] := by
  match w1, m1 with
  | [x2, x3, x4, x5, x6, x7, x8, x9, x10, x11], _ => exact ⟨_, _, _, _, _, _, _, _, _, _, rfl⟩
 obtain ⟨y14, y15, y16, y17, y18, y19, y20, y21, y22, y23, y24, y25, y26, y27, y28, y29, y30, y31, y32, y33, y34, y35, y36, y37, y38, y39, y40, y41, y42, y43, rfl⟩ : ∃ y14 y15 y16 y17 y18 y19 y20 y21 y22 y23 y24 y25 y26 y27 y28 y29 y30 y31 y32 y33 y34 y35 y36 y37 y38 y39 y40 y41 y42 y43, w2 = [y14, y15, y16, y17, y18, y19, y20, y21, y22, y23, y24, y25, y26, y27, y28, y29, y30, y31, y32, y33, y34, y35, y36, y37, y38, y39, y40, y41, y42, y43] := by
  match w2, m2 with
  | [y14, y15, y16, y17, y18, y19, y20, y21, y22, y23, y24, y25, y26, y27, y28, y29, y30, y31, y32, y33, y34, y35, y36, y37, y38, y39, y40, y41, y42, y43], _ => exact ⟨_, _, _, _, _, _, _, _, _, _, _, _, _, _, _, _, _, _, _, _, _, _, _, _, _, _, _, _, _, _, rfl⟩
 refine callsD Try.func81 rfl (DC.seq (runs Orc.none_ok 20 nobt (by kernel_rfl) (r := ⟨.norm, ⟨_, []⟩, σ, []⟩) (by simp only [go_sem, seval, if_pos rfl, Try.f81] <;> rfl)) rfl
  (DC.seq (DC.seq (runs Orc.none_ok 20 nobt (by kernel_rfl) (r := ⟨.norm, ⟨.int .i64 n :: .pointer (some ⟨q, 0, none⟩) :: ([undef, .int .i64 0, undef, undef, .int .i64 n, .int .i64 k0, .int .i64 k1, .int .i64 n, .int .i64 k0, .int .i64 k2] ++ .agg ⟨[.int .i64 k1, .int .i64 k2]⟩ :: .int .i64 0 :: List.replicate 30 undef), []⟩, σ, []⟩)
    (by simp only [go_sem, seval, if_pos rfl, v1, v2, v3, zerosN, Try.underlying3, info3, Try.t3, Try.underlying49, info49, Try.t49] <;> rfl)) rfl
   (DC.block (DC.loop (DL.next d1 rfl (DL.next d2 rfl (DL.out (runs Orc.none_ok 20 bt81 (by kernel_rfl) (r := ⟨.exit 0, ⟨_, []⟩, σ, []⟩) (by simp only [go_sem, seval, if_pos rfl, Int.reduceLT, Try.underlying3, info3, Try.t3] <;> rfl)) rfl)))))) rfl
   (runs Orc.none_ok 20 nobt (by kernel_rfl) (r := ⟨.ret, ⟨_, []⟩, σ, []⟩) (by simp only [go_sem, seval, if_pos rfl] <;> rfl)))) (by simp only [go_sem, seval, if_pos rfl, Try.f81]) rfl rfl
end Go.Ab
namespace Go.Ab
open Go.Proofs
def sinkL : Nat → List Item → Nat → List Item
 | 0, L, _ => L
 | f + 1, L, n => if leastL L n = n then L else
  match L[leastL L n]?, L[n]? with
  | some x, some y => sinkL f (swapL L (leastL L n) n x y) (leastL L n)
  | _, _ => L
theorem less1_ge {L : List Item} {n k : Nat} : less1 L n k = n ∨ less1 L n k = k := by
 unfold less1
 split
 ·split
  ·exact .inr rfl
  ·exact .inl rfl
 ·exact .inl rfl
theorem leastL_ge {L : List Item} {n : Nat} (h : leastL L n ≠ n) : n < leastL L n := by
 unfold leastL at h ⊢
 rcases less1_ge (L := L) (n := less1 L n (2 * n + 1)) (k := 2 * n + 2) with e | e
 ·rw [e] at h ⊢
  rcases less1_ge (L := L) (n := n) (k := 2 * n + 1) with e2 | e2
  ·exact absurd e2 h
  ·omega
 ·omega
theorem leastL_lt {L : List Item} {n : Nat} (h : n < L.length) : leastL L n < L.length := less1_lt (less1_lt h)
theorem sink_loop {h a m q : Nat} {cap : Nat} {t : Int} (hqa : q ≠ a) (hqm : q ≠ m) : ∀ (k n : Nat) (L : List Item) (σ : St) (z3 : Value) (z : List Value), L.length - n < k → z.length = 13 → HI σ h a m L cap t → n < L.length → q < σ.next → σ.get q = some (.cells [.pointer (some ⟨h, 0, none⟩)] false) →
  ∃ σ' lg y1 y3 y, DL Try.prog false (loopOf (Try.f48.body.getD .skip)) ⟨.pointer (some ⟨h, 0, none⟩) :: .int .i64 n :: .pointer (some ⟨q, 0, none⟩) :: z3 :: .func (.func 81) ⟨[]⟩ ⟨[.pointer (some ⟨q, 0, none⟩)]⟩ :: z, []⟩ σ
    ⟨.exit 0, ⟨.pointer (some ⟨h, 0, none⟩) :: y1 :: .pointer (some ⟨q, 0, none⟩) :: y3 :: .func (.func 81) ⟨[]⟩ ⟨[.pointer (some ⟨q, 0, none⟩)]⟩ :: y, []⟩, σ', lg⟩ ∧ (∀ c ∈ lg, c ∈ [a, m]) ∧
   HI σ' h a m (sinkL k L n) cap t ∧ σ'.next = σ.next ∧ ∀ c, c ≠ a → c ≠ m → σ'.get c = σ.get c := by
 intro k
 induction k with
 | zero => intro n L σ z3 z hk; omega
 | succ k ih =>
  intro n L σ z3 z hk hz H hn hq gq
  obtain ⟨x5, x6, x7, x8, x9, x10, x11, x12, x13, x14, x15, x16, x17, rfl⟩ : ∃ x5 x6 x7 x8 x9 x10 x11 x12 x13 x14 x15 x16 x17, z = [x5, x6, x7, x8, x9, x10, x11, x12, x13, x14, x15, x16, x17] := by
   match z, hz with
   | [x5, x6, x7, x8, x9, x10, x11, x12, x13, x14, x15, x16, x17], _ => exact ⟨_, _, _, _, _, _, _, _, _, _, _, _, _, rfl⟩
  obtain ⟨f, H1, hi⟩ := H.hs
  obtain ⟨G, ga, hG⟩ := H1.ga
  have hs := sink1_call (n := n) gq H1.gh ga ⟨hq, H1.lt.1, H1.lt.2.1⟩ H.ok hn H.small
  have hb : (cP Try.prog).bodies 81 = true := body81
  by_cases he : leastL L n = n
  ·have e : (((leastL L n : Nat) : Int) == (n : Int)) = true := by rw [he]; simp
   refine ⟨σ, [], _, _, _, DL.out (runs (one_ok' Orc.none_ok hs) 30 nobt (by kernel_rfl) (r := ⟨.exit 0, ⟨_, []⟩, σ, []⟩) (by simp only [go_sem, seval, if_pos rfl, loopOf, Option.getD, Orc.one_call, e, hb, Try.f48, Try.underlying3, info3, Try.t3] <;> rfl)) rfl, by simp, by simpa [sinkL, he] using H, rfl, fun _ _ _ => rfl⟩
  ·have e : (((leastL L n : Nat) : Int) == (n : Int)) = false := by simp; omega
   obtain ⟨x, hx⟩ : ∃ x, L[leastL L n]? = some x := ⟨_, List.getElem?_eq_getElem (leastL_lt hn)⟩
   obtain ⟨y, hy⟩ : ∃ y, L[n]? = some y := ⟨_, List.getElem?_eq_getElem hn⟩
   obtain ⟨σ1, d, HS1, nx, kp⟩ := H.swap hx hy
   have hgt := leastL_ge he
   obtain ⟨z3', z', hz', hr⟩ : ∃ z3' z', z'.length = 13 ∧ DC Try.prog false (loopOf (Try.f48.body.getD .skip)) ⟨.pointer (some ⟨h, 0, none⟩) :: .int .i64 n :: .pointer (some ⟨q, 0, none⟩) :: z3 :: .func (.func 81) ⟨[]⟩ ⟨[.pointer (some ⟨q, 0, none⟩)]⟩ :: [x5, x6, x7, x8, x9, x10, x11, x12, x13, x14, x15, x16, x17], []⟩ σ
     ⟨.norm, ⟨.pointer (some ⟨h, 0, none⟩) :: .int .i64 (leastL L n : Nat) :: .pointer (some ⟨q, 0, none⟩) :: z3' :: .func (.func 81) ⟨[]⟩ ⟨[.pointer (some ⟨q, 0, none⟩)]⟩ :: z', []⟩, σ1, [a, m]⟩ :=
    ⟨_, [_, _, _, _, _, _, _, _, _, _, _, _, _], rfl, runs (one_ok' (one_ok' Orc.none_ok hs) d) 30 nobt (by kernel_rfl) (by simp only [go_sem, seval, if_pos rfl, loopOf, Option.getD, one_other, Orc.one_call, e, hb, gq, Try.f48, Try.underlying3, info3, Try.t3, Try.underlying26, info26, Try.t26, body80] <;> rfl)⟩
   have gq1 : σ1.get q = some (.cells [.pointer (some ⟨h, 0, none⟩)] false) := by rw [kp q hqa hqm]; exact gq
   obtain ⟨σ', lg, y1, y3, yy, hl, hlg, HF, nx', kp'⟩ := ih (leastL L n) (swapL L (leastL L n) n x y) σ1 z3' z' (by rw [swapL_length]; omega) hz' HS1 (by rw [swapL_length]; exact leastL_lt hn) (by omega) gq1
   refine ⟨σ', [a, m] ++ lg, y1, y3, yy, DL.next hr rfl hl, ?_, ?_, by rw [nx', nx], fun c h1 h2 => by rw [kp' c h1 h2, kp c h1 h2]⟩
   ·intro c hc2
    rcases List.mem_append.1 hc2 with h3 | h3
    ·exact h3
    ·exact hlg c h3
   ·simpa [sinkL, he, hx, hy] using HF
theorem HS.grow {σ σ' : St} {h a m : Nat} {L : List Item} {cap : Nat} {t : Int} {f : Int → Option Int} (H : HS σ h a m L cap t f) (hn : σ.next ≤ σ'.next) (hg : ∀ c, c < σ.next → σ'.get c = σ.get c) : HS σ' h a m L cap t f := by
 obtain ⟨G, ga, hG⟩ := H.ga
 obtain ⟨es, ck, gm, hkv, hlk⟩ := H.gm
 have l := H.lt
 exact ⟨by rw [hg h l.1]; exact H.gh, ⟨G, by rw [hg a l.2.1]; exact ga, hG⟩, ⟨es, ck, by rw [hg m l.2.2]; exact gm, hkv, hlk⟩, H.ne, by omega⟩
theorem HI.grow {σ σ' : St} {h a m : Nat} {L : List Item} {cap : Nat} {t : Int} (H : HI σ h a m L cap t) (hn : σ.next ≤ σ'.next) (hg : ∀ c, c < σ.next → σ'.get c = σ.get c) : HI σ' h a m L cap t :=
 let ⟨f, h1, h2⟩ := H.hs
 ⟨⟨f, h1.grow hn hg, h2⟩, H.ok, H.small⟩
theorem sink_call {σ : St} {h a m : Nat} {L : List Item} {cap : Nat} {t : Int} (H : HI σ h a m L cap t) {n : Nat} (hn : n < L.length) :
  ∃ σ', DCall Try.prog 48 [.pointer (some ⟨h, 0, none⟩), .int .i64 n] σ (.ret (.tuple ⟨[]⟩)) σ' [a, m] ∧ HI σ' h a m (sinkL (L.length + 1) L n) cap t ∧ σ.next ≤ σ'.next ∧ ∀ c, c < σ.next → c ≠ a → c ≠ m → σ'.get c = σ.get c := by
 obtain ⟨f, H1, _⟩ := H.hs
 have l := H1.lt
 have HG : HI (σ.new (.cells [.pointer (some ⟨h, 0, none⟩)] false)) h a m L cap t := H.grow (by simp) fun c hc => by rw [St.get_new, if_neg (by omega)]
 obtain ⟨σ', lg, y1, y3, y, hl, hlg, HF, nx, kp⟩ := sink_loop (q := σ.next) (by omega) (by omega) (L.length + 1) n L (σ.new (.cells [.pointer (some ⟨h, 0, none⟩)] false)) undef
  (undef :: .func (.func 81) ⟨[]⟩ ⟨[.pointer (some ⟨σ.next, 0, none⟩)]⟩ :: List.replicate 11 undef) (by omega) rfl HG hn (by simp) (by rw [St.get_new, if_pos rfl])
 refine ⟨σ', DCall.weaken (l := [] ++ ([] ++ ([] ++ lg))) (callsD Try.func48 rfl (DC.seq (runs Orc.none_ok 20 nobt (by kernel_rfl) (r := ⟨.norm, ⟨_, []⟩, σ.new (.cells [.pointer (some ⟨h, 0, none⟩)] false), []⟩) (by simp only [go_sem, seval, if_pos rfl, Try.f48] <;> rfl)) rfl
  (DC.scope (DS.out (DC.seq (runs Orc.none_ok 20 nobt (by kernel_rfl) (r := ⟨.norm, ⟨.pointer (some ⟨h, 0, none⟩) :: .int .i64 n :: .pointer (some ⟨σ.next, 0, none⟩) :: undef :: .func (.func 81) ⟨[]⟩ ⟨[.pointer (some ⟨σ.next, 0, none⟩)]⟩ :: (undef :: .func (.func 81) ⟨[]⟩ ⟨[.pointer (some ⟨σ.next, 0, none⟩)]⟩ :: List.replicate 11 undef), []⟩, σ.new (.cells [.pointer (some ⟨h, 0, none⟩)] false), []⟩) (by simp only [go_sem, seval, if_pos rfl] <;> rfl)) rfl
   (DC.seq (DC.label _ _ _ _) rfl (DC.block (DC.loop hl)))) (fun l h => by simp [RR.pre, AX.inBlock] at h)))) (by simp only [go_sem, seval, if_pos rfl, Try.f48]) rfl rfl) (by simpa using hlg), HF, by rw [nx]; simp, fun c hc h1 h2 => by rw [kp c h1 h2, St.get_new, if_neg (by omega)]⟩
end Go.Ab
namespace Go.Ab
open Go.Proofs
theorem none_call {σ : St} {h m : Nat} {s T : Value} (gh : σ.get h = some (.cells [.map (some m), s, T] false)) : DCall Try.prog 44 [.pointer (some ⟨h, 0, none⟩)] σ (.ret (.bool false)) σ [] := by
 refine calls Orc.none_ok Try.func44 rfl 20 nobt (by kernel_rfl) ?_
 exact ⟨_, by simp only [go_sem, seval, if_pos rfl, gh, Try.f44, Option.isNone_some, Try.underlying4, info4, Try.t4, Try.underlying26, info26, Try.t26, Try.underlying96, info96, Try.t96, Try.underlying97, info97, Try.t97, Try.underlying98, info98, Try.t98, Try.underlying99, info99, Try.t99, Try.underlying100, info100, Try.t100] <;> rfl, by simp only [go_sem, seval, if_pos rfl, Try.f44], rfl, rfl⟩
theorem len_call {σ : St} {h m b : Nat} {n cap k : Nat} {T : Value} (gh : σ.get h = some (.cells [.map (some m), .slice (some ⟨b, 0, some k⟩) n cap, T] false)) : DCall Try.prog 17 [.pointer (some ⟨h, 0, none⟩)] σ (.ret (.int .i64 n)) σ [] := by
 refine calls (one_ok' Orc.none_ok (none_call gh)) Try.func17 rfl 20 nobt (by kernel_rfl) ?_
 exact ⟨_, by simp only [go_sem, seval, if_pos rfl, Orc.one_call, opLen, gh, Try.f17, Try.underlying3, info3, Try.t3, Try.underlying26, info26, Try.t26, Try.underlying37, info37, Try.t37, Try.underlying99, info99, Try.t99, Try.underlying100, info100, Try.t100, body44] <;> rfl, by simp only [go_sem, seval, if_pos rfl, Try.f17], rfl, rfl⟩
theorem len_call0 {σ : St} {h m : Nat} {T : Value} (gh : σ.get h = some (.cells [.map (some m), .slice none 0 0, T] false)) : DCall Try.prog 17 [.pointer (some ⟨h, 0, none⟩)] σ (.ret (.int .i64 0)) σ [] := by
 refine calls (one_ok' Orc.none_ok (none_call gh)) Try.func17 rfl 20 nobt (by kernel_rfl) ?_
 exact ⟨_, by simp only [go_sem, seval, if_pos rfl, Orc.one_call, opLen, gh, Try.f17, Try.underlying3, info3, Try.t3, Try.underlying26, info26, Try.t26, Try.underlying37, info37, Try.t37, Try.underlying99, info99, Try.t99, Try.underlying100, info100, Try.t100, body44] <;> rfl, by simp only [go_sem, seval, if_pos rfl, Try.f17], rfl, rfl⟩
theorem new_call (σ : St) : DCall Try.prog 13 [] σ (.ret (.pointer (some ⟨σ.next + 1, 0, none⟩))) ((σ.new (.map [] 0)).new (.cells [.map (some σ.next), .slice none 0 0, .int .i64 0] false)) [] := by
 refine calls Orc.none_ok Try.func13 rfl 20 nobt (by kernel_rfl) ?_
 exact ⟨_, by simp only [go_sem, seval, if_pos rfl, opMakeMap, isMapD, Try.f13, Try.underlying2, info2, Try.t2, Try.underlying3, info3, Try.t3, Try.underlying26, info26, Try.t26, Try.underlying37, info37, Try.t37, Try.underlying96, info96, Try.t96, Try.underlying97, info97, Try.t97, Try.underlying98, info98, Try.t98, Try.underlying99, info99, Try.t99, Try.underlying100, info100, Try.t100] <;> rfl, by simp only [go_sem, seval, if_pos rfl, Try.f13], rfl, rfl⟩
end Go.Ab
namespace Go.Ab
open Go.Proofs
theorem DCall.weaken2 {P : Program} {f : FuncId} {args : List Value} {σ σ' : St} {e : AE} {l l' : Log} (h : DCall P f args σ e σ' l) (hs : ∀ c ∈ l, c < σ.next → c ∈ l') : DCall P f args σ e σ' l' :=
 ⟨⟨h.1.1, fun c hc hn => h.1.2 c hc fun hm => hn (hs c hm hc)⟩, h.2⟩
theorem cellsL_take {L : List Item} {k : Nat} {x : Item} (hk : L[k]? = some x) (hl : L.length = k + 1) : cellsL L = cellsL (L.take k) ++ x.cells := by
 induction L generalizing k with
 | nil => simp at hk
 | cons y L ih =>
  cases k with
  | zero =>
   simp only [List.getElem?_cons_zero, Option.some.injEq] at hk
   subst hk
   have : L = [] := by simpa using hl
   subst this
   simp [cellsL]
  | succ k =>
   simp only [List.getElem?_cons_succ] at hk
   simp only [List.length_cons, Nat.add_right_cancel_iff] at hl
   rw [List.take_succ_cons]
   simp only [cellsL]
   rw [ih hk hl, List.append_assoc]
theorem map_del {σ : St} {m : Nat} {es : List MapEntry} {ck : Nat} {f : Int → Option Int} {k v : Int} (hg : σ.get m = some (.map es ck)) (hk : KV es) (hf : ∀ k, lk es k = f k) (hv : f k = some v) :
  ∃ es', opDelete (cP Try.prog).T σ 96 (.map (some m)) (.int .i64 k) = some (.eff (.tuple #[]) (σ.set m (.map es' ck)) [m]) ∧ KV es' ∧ ∀ k', lk es' k' = if k' = k then none else f k' := by
 have hu : (cP Try.prog).T.und 2 = some (.int .i64) := (cx_und 2).trans Try.underlying2
 have h96 : (cP Try.prog).T.und 96 = some (.map 2 3) := (cx_und 96).trans Try.underlying96
 obtain ⟨j, e, a1, a2, a3, a4⟩ := find_some (i := 0) ⟨_, hu⟩ hk ((hf k).trans hv)
 obtain ⟨b1, b2⟩ := del_KV hk a3 a4
 refine ⟨delE es j, ?_, b1, fun k' => by rw [b2, hf]⟩
 simp only [opDelete, h96, hg, keyOk, hu, if_true, a1, Nat.zero_add]
theorem Idx.drop {L : List Item} {f : Int → Option Int} {k : Nat} {x : Item} (h : Idx L f) (hk : L[k]? = some x) (hl : L.length = k + 1) : Idx (L.take k) (fun i => if i = x.id then none else f i) := by
 constructor
 ·intro i z hz
  rw [List.getElem?_take] at hz
  split at hz
  ·rename_i hik
   have hne : z.id ≠ x.id := fun e => by have := h.inj hz hk e; omega
   simp only [if_neg hne]
   exact h.fwd i z hz
  ·cases hz
 ·intro i v hv
  have hv : (if i = x.id then none else f i) = some v := hv
  split at hv
  ·cases hv
  ·rename_i hne
   obtain ⟨j, z, a1, a2, a3⟩ := h.bwd i v hv
   have hj : j < L.length := (List.getElem?_eq_some_iff.1 a1).1
   have hjk : j ≠ k := fun e => by
    subst e
    rw [hk] at a1; cases a1
    exact hne a2.symm
   exact ⟨j, z, by rw [List.getElem?_take, if_pos (by omega)]; exact a1, a2, a3⟩
def outL (L : List Item) (n : Nat) : List Item :=
 match L[n]?, L[L.length - 1]? with
 | some x, some y =>
  if n < L.length - 1 then sinkL L.length (riseL (n + 1) ((swapL L n (L.length - 1) x y).take (L.length - 1)) n) n
  else (swapL L n (L.length - 1) x y).take (L.length - 1)
 | _, _ => L
theorem riseL_length : ∀ (k : Nat) (L : List Item) (n : Nat), (riseL k L n).length = L.length
 | 0, _, _ => rfl
 | k + 1, L, n => by
  simp only [riseL]
  split
  ·rfl
  ·split
   ·split
    ·rfl
    ·rw [riseL_length, swapL_length]
   ·rfl
def bt49 : Nat → List Nat
 | 1 => [0, 1, 3, 7, 0, 31, 63, 0, 128, 384, 896, 1920, 3968, 0, 8319, 32767]
 | 4 => [0, 1, 3, 7, 15, 0, 32, 127]
 | _ => []
theorem HI.set {σ : St} {h a m : Nat} {L : List Item} {cap : Nat} {t : Int} (H : HI σ h a m L cap t) {c : Nat} (o : AObj) (h1 : c ≠ h) (h2 : c ≠ a) (h3 : c ≠ m) : HI (σ.set c o) h a m L cap t := by
 obtain ⟨f, H1, hi⟩ := H.hs
 obtain ⟨G, ga, hG⟩ := H1.ga
 obtain ⟨es, ck, gm, hkv, hlk⟩ := H1.gm
 exact ⟨⟨f, ⟨by rw [St.get_set, if_neg h1]; exact H1.gh, ⟨G, by rw [St.get_set, if_neg h2]; exact ga, hG⟩, ⟨es, ck, by rw [St.get_set, if_neg h3]; exact gm, hkv, hlk⟩, H1.ne, H1.lt⟩, hi⟩, H.ok, H.small⟩
theorem out_call {σ : St} {h a m : Nat} {L : List Item} {cap : Nat} {t : Int} (H : HI σ h a m L cap t) {n : Nat} {x : Item} (hx : L[n]? = some x) :
  ∃ σ', DCall Try.prog 49 [.pointer (some ⟨h, 0, none⟩), .int .i64 n] σ (.ret (.agg ⟨x.cells⟩)) σ' [h, a, m] ∧ HI σ' h a m (outL L n) cap t ∧ σ.next ≤ σ'.next ∧ ∀ c, c < σ.next → c ≠ h → c ≠ a → c ≠ m → σ'.get c = σ.get c := by
 have hn : n < L.length := (List.getElem?_eq_some_iff.1 hx).1
 obtain ⟨last, hlast⟩ : ∃ last, L.length = last + 1 := ⟨L.length - 1, by omega⟩
 obtain ⟨y, hy⟩ : ∃ y, L[last]? = some y := ⟨_, List.getElem?_eq_getElem (by omega)⟩
 obtain ⟨f, H1, hi⟩ := H.hs
 obtain ⟨G, ga, hG⟩ := H1.ga
 have gh := H1.gh
 have lt := H1.lt
 have sm := H.small
 let Z : AObj := .cells [.int .i64 0, .int .i64 0, .int .i64 0, .int .i64 0] false
 let σb := ((σ.new Z).new Z).set (σ.next + 1) (.cells x.cells false)
 have gb : ∀ c, c < σ.next → σb.get c = σ.get c := fun c hc => by
  rw [St.get_set, if_neg (by omega), St.get_new, if_neg (by simp; omega), St.get_new, if_neg (by omega)]
 have HB : HI σb h a m L cap t := H.grow (by simp [σb]; omega) gb
 obtain ⟨σ1, d1, HS1, nx1, kp1⟩ := HB.swap hx hy
 obtain ⟨f1, HH1, hi1⟩ := HS1.hs
 have hl1 : (swapL L n last x y).length = last + 1 := by rw [swapL_length, hlast]
 have hx1 : (swapL L n last x y)[last]? = some x := by rw [swapL_get hx hy, if_pos rfl]
 have gx1 : σ1.get (σ.next + 1) = some (.cells x.cells false) := by
  rw [kp1 _ (by omega) (by omega)]
  show σb.get (σ.next + 1) = _
  rw [St.get_set, if_pos rfl]
 let σ2 := σ1.set h (.cells [.map (some m), .slice (some ⟨a, 0, some 6⟩) last cap, .int .i64 t] false)
 obtain ⟨es, ck, gm, hkv, hlk⟩ := HH1.gm
 obtain ⟨G1, ga1, hG1⟩ := HH1.ga
 obtain ⟨q1, q2, q3⟩ := HH1.ne
 have gm2 : σ2.get m = some (.map es ck) := by rw [St.get_set, if_neg q2]; exact gm
 obtain ⟨es', hdel, kv', lk'⟩ := map_del (k := x.id) gm2 hkv hlk (hi1.fwd last x hx1)
 let σ3 := σ2.set m (.map es' ck)
 have nx3 : σ3.next = σ.next + 2 := by show σ1.next = _; rw [nx1]; rfl
 have H3 : HI σ3 h a m ((swapL L n last x y).take last) cap t := by
  refine ⟨⟨_, ⟨?_, ⟨x.cells ++ G1, ?_, ?_⟩, ⟨es', ck, by rw [St.get_set, if_pos rfl], kv', fun k => by rw [lk' k]⟩, HH1.ne, HH1.lt⟩, hi1.drop hx1 hl1⟩, fun z hz => HS1.ok z (List.mem_of_mem_take hz), by rw [List.length_take]; omega⟩
  ·rw [St.get_set, if_neg (Ne.symm q2), St.get_set, if_pos rfl, List.length_take, hl1, Nat.min_eq_left (by omega)]
  ·rw [St.get_set, if_neg (Ne.symm q3), St.get_set, if_neg q1, ga1, cellsL_take hx1 hl1, List.append_assoc]
  ·rw [List.length_take, hl1, Nat.min_eq_left (by omega), List.length_append, Item.cells_length]
   rw [hl1] at hG1; omega
 have gx3 : σ3.get (σ.next + 1) = some (.cells x.cells false) := by
  rw [St.get_set, if_neg (by omega), St.get_set, if_neg (by omega)]; exact gx1
 have gx2 : σ2.get (σ.next + 1) = some (.cells x.cells false) := by rw [St.get_set, if_neg (by omega)]; exact gx1
 have gr3 : σ3.get σ.next = some Z := by
  rw [St.get_set, if_neg (by omega), St.get_set, if_neg (by omega), kp1 _ (by omega) (by omega)]
  show σb.get σ.next = _
  rw [St.get_set, if_neg (by omega), St.get_new, if_neg (by simp), St.get_new, if_pos rfl]
 have gh1 := HH1.gh
 rw [hl1] at gh1
 have gh2 : σ2.get h = some (.cells [.map (some m), .slice (some ⟨a, 0, some 6⟩) last cap, .int .i64 t] false) := by rw [St.get_set, if_pos rfl]
 have c1 : (0 : Int) ≤ (n : Int) ∧ (n : Int) < ((last + 1 : Nat) : Int) := by omega
 have cb : (0 : Int) ≤ (last : Int) ∧ (last : Int) ≤ (cap : Int) := by omega
 have cc : 0 < cap := by omega
 have e1 := cells_at (G := G) hx
 have l1 : n * 4 + 4 ≤ (cellsL L ++ G).length := by simp [cellsL_length]; omega
 have w1 : IntKind.i64.wrap (((last + 1 : Nat) : Int) - 1) = (last : Int) := by rw [IntKind.wrap_i64]; omega
 have n1 : ¬ σ.next = h := by omega
 have n2 : ¬ σ.next = a := by omega
 have n3 : ¬ σ.next + 1 = h := by omega
 have n4 : ¬ σ.next + 1 = a := by omega
 have n5 : ¬ σ.next + 1 ≤ h := by omega
 have n6 : ¬ σ.next + 1 ≤ a := by omega
 have n7 : (h == σ.next + 1) = false := by simp; omega
 have n8 : (a == σ.next + 1) = false := by simp; omega
 rw [hlast] at gh
 simp only [Item.cells] at e1
 have hbnd : bnd cap (.int .i64 (last : Int)) = some last := by simp only [bnd]; rw [if_pos cb]; simp
 have hsb : sbA (last + 1) cap none (some (.int .i64 last)) none = some (0, last, cap) := by
  delta sbA
  simp only [hbnd]
 have hsl : opSlice (cP Try.prog).T 37 (.slice (some ⟨a, 0, some 6⟩) (last + 1) cap) none (some (.int .i64 last)) none = some (.val (.slice (some ⟨a, 0, some 6⟩) last cap) []) := by
  simp only [opSlice, cx_und, cx_info, Try.underlying37, info37, Try.t37, Try.underlying31, info31, Try.t31, hsb]
  simp [cc]
 have n9 : ¬ σ2.next ≤ σ.next + 1 := by
  have : σ2.next = σ.next + 2 := nx1
  omega
 by_cases hb : n < last
 ·obtain ⟨σ4, d4, H4, nx4, kp4⟩ := rise_call H3 (n := n) (by rw [List.length_take]; omega)
  have hl4 : (riseL (n + 1) ((swapL L n last x y).take last) n).length = last := by rw [riseL_length, List.length_take, hl1, Nat.min_eq_left (by omega)]
  obtain ⟨σ5, d5, H5, nx5, kp5⟩ := sink_call H4 (n := n) (by rw [hl4]; exact hb)
  have gx5 : σ5.get (σ.next + 1) = some (.cells x.cells false) := by rw [kp5 (σ.next + 1) (by omega) (by omega) (by omega), kp4 _ (by omega) (by omega)]; exact gx3
  have gr5 : σ5.get σ.next = some Z := by rw [kp5 σ.next (by omega) (by omega) (by omega), kp4 _ (by omega) (by omega)]; exact gr3
  have b1 : (n : Int) < (last : Int) := by omega
  have b0 : (0 : Int) ≤ (last : Int) := by omega
  let σ6 := σ5.set σ.next (.cells x.cells false)
  refine ⟨σ6, DCall.weaken2 (l := [] ++ ([σ.next + 1] ++ ([a, m] ++ ([h] ++ ([m] ++ (([] ++ ([a, m] ++ [a, m])) ++ ([σ.next] ++ []))))))) (callsD Try.func49 rfl (DC.seq (runs Orc.none_ok 20 bt49 (by kernel_rfl) (r := ⟨.norm, ⟨_, []⟩, σ.new Z, []⟩) (by simp only [go_sem, seval, if_pos rfl, Try.f49, Try.underlying31, info31, Try.t31] <;> rfl)) rfl
   (DC.seq (runs Orc.none_ok 20 bt49 (by kernel_rfl) (r := ⟨.norm, ⟨_, []⟩, σb, [σ.next + 1]⟩) (by simp only [go_sem, seval, if_pos rfl, Z, σb, bt49, opLen, gh, ga, c1, e1, l1, w1, n1, n2, n3, n4, n5, n6, n7, n8, Int.toNat_natCast, Item.cells, Try.underlying3, info3, Try.t3, Try.underlying30, info30, Try.t30, Try.underlying31, info31, Try.t31, Try.underlying37, info37, Try.t37, Try.underlying99, info99, Try.t99, Try.underlying100, info100, Try.t100] <;> rfl)) rfl
   (DC.seq (runs (one_ok' Orc.none_ok d1) 20 bt49 (by kernel_rfl) (r := ⟨.norm, ⟨_, []⟩, σ1, [a, m]⟩) (by simp only [go_sem, seval, if_pos rfl, Orc.one_call, body80] <;> rfl)) rfl
   (DC.seq (runs Orc.none_ok 20 bt49 (by kernel_rfl) (r := ⟨.norm, ⟨_, []⟩, σ2, [h]⟩) (by simp only [go_sem, seval, if_pos rfl, σ2, hsl, gh1, Try.underlying3, info3, Try.t3, Try.underlying31, info31, Try.t31, Try.underlying37, info37, Try.t37, Try.underlying99, info99, Try.t99, Try.underlying100, info100, Try.t100] <;> rfl)) rfl
   (DC.seq (runs Orc.none_ok 20 bt49 (by kernel_rfl) (r := ⟨.norm, ⟨_, []⟩, σ3, [m]⟩) (by simp only [go_sem, seval, if_pos rfl, σ3, bt49, n9, gh2, gx2, hdel, Item.cells, Try.underlying2, info2, Try.t2, Try.underlying3, info3, Try.t3, Try.underlying30, info30, Try.t30, Try.underlying31, info31, Try.t31, Try.underlying96, info96, Try.t96, Try.underlying97, info97, Try.t97, Try.underlying98, info98, Try.t98, Try.underlying99, info99, Try.t99, Try.underlying100, info100, Try.t100] <;> rfl)) rfl
   (DC.seq (DC.seq (runs Orc.none_ok 20 bt49 (by kernel_rfl) (r := ⟨.norm, ⟨_, []⟩, σ3, []⟩) (by simp only [go_sem, seval, if_pos rfl, b1, Try.underlying3, info3, Try.t3] <;> rfl)) rfl (DC.cond (t := true) (by simp only [go_sem, seval, if_pos rfl]) (DC.seq (runs (one_ok' Orc.none_ok d4) 20 bt49 (by kernel_rfl) (r := ⟨.norm, ⟨_, []⟩, σ4, [a, m]⟩) (by simp only [go_sem, seval, if_pos rfl, Orc.one_call, body47] <;> rfl)) rfl
     (runs (one_ok' Orc.none_ok d5) 20 bt49 (by kernel_rfl) (r := ⟨.norm, ⟨_, []⟩, σ5, [a, m]⟩) (by simp only [go_sem, seval, if_pos rfl, Orc.one_call, body48] <;> rfl))))) rfl
    (DC.seq (runs Orc.none_ok 20 bt49 (by kernel_rfl) (r := ⟨.norm, ⟨_, []⟩, σ6, [σ.next]⟩) (by simp only [go_sem, seval, if_pos rfl, σ6, Z, gx5, gr5, Item.cells, Try.underlying30, info30, Try.t30, Try.underlying31, info31, Try.t31] <;> rfl)) rfl (DC.ret _ _ _))))))))
   (by simp only [go_sem, seval, if_pos rfl, Try.f49, σ6, Item.cells, Try.underlying30, info30, Try.t30, Try.underlying31, info31, Try.t31]) rfl rfl) ?_, ?_, ?_, ?_⟩
  ·intro c hc hcn
   simp at hc ⊢
   omega
  ·have : outL L n = sinkL L.length (riseL (n + 1) ((swapL L n last x y).take last) n) n := by
    unfold outL
    rw [hx, show L.length - 1 = last by omega, hy]
    simp [hb]
   rw [this]
   have H5' := H5
   rw [hl4, ← hlast] at H5'
   exact H5'.set _ (by omega) (by omega) (by omega)
  ·show σ.next ≤ σ5.next; omega
  ·intro c hc h1 h2 h3
   rw [St.get_set, if_neg (by omega), kp5 c (by omega) h2 h3, kp4 c h2 h3, St.get_set, if_neg (Ne.symm h3), St.get_set, if_neg (Ne.symm h1), kp1 c h2 h3]
   exact gb c hc
 ·have b1 : ¬ (n : Int) < (last : Int) := by omega
  let σ6 := σ3.set σ.next (.cells x.cells false)
  refine ⟨σ6, DCall.weaken2 (l := [] ++ ([σ.next + 1] ++ ([a, m] ++ ([h] ++ ([m] ++ (([] ++ []) ++ ([σ.next] ++ []))))))) (callsD Try.func49 rfl (DC.seq (runs Orc.none_ok 20 bt49 (by kernel_rfl) (r := ⟨.norm, ⟨_, []⟩, σ.new Z, []⟩) (by simp only [go_sem, seval, if_pos rfl, Try.f49, Try.underlying31, info31, Try.t31] <;> rfl)) rfl
   (DC.seq (runs Orc.none_ok 20 bt49 (by kernel_rfl) (r := ⟨.norm, ⟨_, []⟩, σb, [σ.next + 1]⟩) (by simp only [go_sem, seval, if_pos rfl, Z, σb, bt49, opLen, gh, ga, c1, e1, l1, w1, n1, n2, n3, n4, n5, n6, n7, n8, Int.toNat_natCast, Item.cells, Try.underlying3, info3, Try.t3, Try.underlying30, info30, Try.t30, Try.underlying31, info31, Try.t31, Try.underlying37, info37, Try.t37, Try.underlying99, info99, Try.t99, Try.underlying100, info100, Try.t100] <;> rfl)) rfl
   (DC.seq (runs (one_ok' Orc.none_ok d1) 20 bt49 (by kernel_rfl) (r := ⟨.norm, ⟨_, []⟩, σ1, [a, m]⟩) (by simp only [go_sem, seval, if_pos rfl, Orc.one_call, body80] <;> rfl)) rfl
   (DC.seq (runs Orc.none_ok 20 bt49 (by kernel_rfl) (r := ⟨.norm, ⟨_, []⟩, σ2, [h]⟩) (by simp only [go_sem, seval, if_pos rfl, σ2, hsl, gh1, Try.underlying3, info3, Try.t3, Try.underlying31, info31, Try.t31, Try.underlying37, info37, Try.t37, Try.underlying99, info99, Try.t99, Try.underlying100, info100, Try.t100] <;> rfl)) rfl
   (DC.seq (runs Orc.none_ok 20 bt49 (by kernel_rfl) (r := ⟨.norm, ⟨_, []⟩, σ3, [m]⟩) (by simp only [go_sem, seval, if_pos rfl, σ3, bt49, n9, gh2, gx2, hdel, Item.cells, Try.underlying2, info2, Try.t2, Try.underlying3, info3, Try.t3, Try.underlying30, info30, Try.t30, Try.underlying31, info31, Try.t31, Try.underlying96, info96, Try.t96, Try.underlying97, info97, Try.t97, Try.underlying98, info98, Try.t98, Try.underlying99, info99, Try.t99, Try.underlying100, info100, Try.t100] <;> rfl)) rfl
   (DC.seq (DC.seq (runs Orc.none_ok 20 bt49 (by kernel_rfl) (r := ⟨.norm, ⟨_, []⟩, σ3, []⟩) (by simp only [go_sem, seval, if_pos rfl, b1, Try.underlying3, info3, Try.t3] <;> rfl)) rfl (DC.cond (t := false) (by simp only [go_sem, seval, if_pos rfl]) (DC.skip _ _ _))) rfl
    (DC.seq (runs Orc.none_ok 20 bt49 (by kernel_rfl) (r := ⟨.norm, ⟨_, []⟩, σ6, [σ.next]⟩) (by simp only [go_sem, seval, if_pos rfl, σ6, Z, gx3, gr3, Item.cells, Try.underlying30, info30, Try.t30, Try.underlying31, info31, Try.t31] <;> rfl)) rfl (DC.ret _ _ _))))))))
   (by simp only [go_sem, seval, if_pos rfl, Try.f49, σ6, Item.cells, Try.underlying30, info30, Try.t30, Try.underlying31, info31, Try.t31]) rfl rfl) ?_, ?_, ?_, ?_⟩
  ·intro c hc hcn
   simp at hc ⊢
   omega
  ·have : outL L n = (swapL L n last x y).take last := by
    unfold outL
    rw [hx, show L.length - 1 = last by omega, hy]
    simp [hb]
   rw [this]
   exact H3.set _ (by omega) (by omega) (by omega)
  ·show σ.next ≤ σ3.next; omega
  ·intro c hc h1 h2 h3
   rw [St.get_set, if_neg (by omega), St.get_set, if_neg (Ne.symm h3), St.get_set, if_neg (Ne.symm h1), kp1 c h2 h3]
   exact gb c hc
end Go.Ab
namespace Go.Ab
open Go.Proofs
theorem take_call {σ : St} {h a m : Nat} {L : List Item} {cap : Nat} {t : Int} (H : HI σ h a m L cap t) {x : Item} (hx : L[0]? = some x) :
  ∃ σ', DCall Try.prog 16 [.pointer (some ⟨h, 0, none⟩)] σ (.ret (.tuple ⟨[.agg ⟨x.cells⟩, .bool true]⟩)) σ' [h, a, m] ∧ HI σ' h a m (outL L 0) cap t ∧ σ.next ≤ σ'.next ∧ ∀ c, c < σ.next → c ≠ h → c ≠ a → c ≠ m → σ'.get c = σ.get c := by
 obtain ⟨f, H1, hi⟩ := H.hs
 have lt := H1.lt
 have hn : 0 < L.length := (List.getElem?_eq_some_iff.1 hx).1
 let Z : AObj := .cells [.int .i64 0, .int .i64 0, .int .i64 0, .int .i64 0] false
 have HZ : HI (σ.new Z) h a m L cap t := H.grow (by simp) fun c hc => by rw [St.get_new, if_neg (by omega)]
 obtain ⟨f', H1', _⟩ := HZ.hs
 have hl := len_call H1'.gh
 obtain ⟨σ1, d, HO, nx, kp⟩ := out_call HZ hx
 have nx' : σ.next + 1 ≤ σ1.next := nx
 have gz : σ1.get σ.next = some Z := by
  rw [kp σ.next (by simp) (by omega) (by omega) (by omega), St.get_new, if_pos rfl]
 have e : ((L.length : Int) == 0) = false := by rw [beq_eq_false_iff_ne]; omega
 let σ2 := σ1.set σ.next (.cells x.cells false)
 refine ⟨σ2, DCall.weaken2 (l := [] ++ (([] ++ []) ++ (([h, a, m] ++ [σ.next]) ++ []))) (callsD Try.func16 rfl (DC.seq (runs Orc.none_ok 20 nobt (by kernel_rfl) (r := ⟨.norm, ⟨_, []⟩, σ.new Z, []⟩) (by simp only [go_sem, seval, if_pos rfl, Try.f16, Try.underlying31, info31, Try.t31] <;> rfl)) rfl
   (DC.seq (DC.seq (runs (one_ok' Orc.none_ok hl) 20 nobt (by kernel_rfl) (r := ⟨.norm, ⟨_, []⟩, σ.new Z, []⟩) (by simp only [go_sem, seval, if_pos rfl, Orc.one_call, e, Try.underlying3, info3, Try.t3, body17] <;> rfl)) rfl (DC.cond (t := false) (by simp only [go_sem, seval, if_pos rfl]) (DC.skip _ _ _))) rfl
    (DC.seq (runs (one_ok' Orc.none_ok d) 20 nobt (by kernel_rfl) (r := ⟨.norm, ⟨_, []⟩, σ2, [h, a, m] ++ [σ.next]⟩) (by simp only [go_sem, seval, if_pos rfl, σ2, Z, Orc.one_call, gz, Item.cells, Int.natCast_zero, Try.underlying30, info30, Try.t30, Try.underlying31, info31, Try.t31, body49] <;> rfl)) rfl (DC.ret _ _ _))))
   (by simp only [go_sem, seval, if_pos rfl, Try.f16, σ2, Item.cells, Try.underlying30, info30, Try.t30, Try.underlying31, info31, Try.t31]) rfl rfl) ?_, ?_, ?_, ?_⟩
 ·intro c hc hcn
  simp at hc ⊢
  omega
 ·exact HO.set _ (by omega) (by omega) (by omega)
 ·show σ.next ≤ σ1.next; omega
 ·intro c hc h1 h2 h3
  rw [St.get_set, if_neg (by omega), kp c (by simp; omega) h1 h2 h3, St.get_new, if_neg (by omega)]
end Go.Ab
namespace Go.Ab
open Go.Proofs
def bt15 : Nat → List Nat
 | 8 => [0, 1, 3, 7, 0, 0, 63, 127, 255]
 | _ => []
theorem map_get {σ : St} {m : Nat} {es : List MapEntry} {ck : Nat} {f : Int → Option Int} {k v : Int} {ok : Bool} (hg : σ.get m = some (.map es ck)) (hk : KV es) (hf : ∀ k, lk es k = f k) (hv : f k = some v) :
  opLookup (cP Try.prog).T σ 96 ok (.map (some m)) (.int .i64 k) = some (.val (if ok then .tuple ⟨[.int .i64 v, .bool true]⟩ else .int .i64 v) [m]) := by
 have hu : (cP Try.prog).T.und 2 = some (.int .i64) := (cx_und 2).trans Try.underlying2
 have h96 : (cP Try.prog).T.und 96 = some (.map 2 3) := (cx_und 96).trans Try.underlying96
 have h3 : (cP Try.prog).T.info 3 = some Try.t3 := (cx_info 3).trans info3
 obtain ⟨j, e, a1, a2, a3, a4⟩ := find_some (i := 0) ⟨_, hu⟩ hk ((hf k).trans hv)
 simp only [opLookup, h96, h3, Try.t3, keyOk, hu, plain, and_self, if_true, hg, a1, a2]
theorem map_not {σ : St} {m : Nat} {es : List MapEntry} {ck : Nat} {f : Int → Option Int} {k : Int} {ok : Bool} (hg : σ.get m = some (.map es ck)) (hk : KV es) (hf : ∀ k, lk es k = f k) (hv : f k = none) :
  opLookup (cP Try.prog).T σ 96 ok (.map (some m)) (.int .i64 k) = some (.val (if ok then .tuple ⟨[.int .i64 0, .bool false]⟩ else .int .i64 0) [m]) := by
 have hu : (cP Try.prog).T.und 2 = some (.int .i64) := (cx_und 2).trans Try.underlying2
 have h96 : (cP Try.prog).T.und 96 = some (.map 2 3) := (cx_und 96).trans Try.underlying96
 have h3 : (cP Try.prog).T.info 3 = some Try.t3 := (cx_info 3).trans info3
 simp only [opLookup, h96, h3, Try.t3, keyOk, hu, plain, and_self, if_true, hg, find_none ⟨_, hu⟩ hk ((hf k).trans hv)]
end Go.Ab
namespace Go.Ab
open Go.Proofs
def Item.key (x : Item) (n d : Int) : Item := { x with n := n, d := d }
theorem over_key {G : List Value} {n d : Int} : ∀ {L : List Item} {i : Nat} {x : Item}, L[i]? = some x → over (cellsL L ++ G) (i * 4 + 1) [.int .i64 n, .int .i64 d] = cellsL (L.set i (x.key n d)) ++ G
 | [], _, _, h => by simp at h
 | y :: L, 0, x, h => by
  simp only [List.getElem?_cons_zero, Option.some.injEq] at h
  subst h
  simp [over, cellsL, Item.cells, Item.key]
 | y :: L, i + 1, x, h => by
  simp only [List.getElem?_cons_succ] at h
  have := over_key (G := G) (n := n) (d := d) h
  have e : (i + 1) * 4 + 1 = i * 4 + 1 + 4 := by omega
  rw [e, List.set_cons_succ]
  simp only [cellsL, Item.cells, List.cons_append, List.nil_append, over] at this ⊢
  rw [this]
theorem swapL_mem {L : List Item} {i j : Nat} {x y z : Item} (hi : L[i]? = some x) (hj : L[j]? = some y) (hz : z ∈ L) : z ∈ swapL L i j x y := by
 obtain ⟨k, hk⟩ := List.getElem?_of_mem hz
 by_cases e : k = j
 ·subst e
  rw [hj] at hk; cases hk
  by_cases e2 : i = k
  ·subst e2
   rw [hi] at hj; cases hj
   exact List.mem_of_getElem? (i := i) (by rw [swapL_get hi hi, if_pos rfl])
  ·exact List.mem_of_getElem? (i := i) (by rw [swapL_get hi hj, if_neg e2, if_pos rfl])
 ·by_cases e2 : k = i
  ·subst e2
   rw [hi] at hk; cases hk
   exact List.mem_of_getElem? (i := j) (by rw [swapL_get hi hj, if_pos rfl])
  ·exact List.mem_of_getElem? (i := k) (by rw [swapL_get hi hj, if_neg e, if_neg e2]; exact hk)
theorem riseL_mem {z : Item} : ∀ (k : Nat) (L : List Item) (n : Nat), z ∈ L → z ∈ riseL k L n
 | 0, _, _, h => h
 | k + 1, L, n, h => by
  simp only [riseL]
  split
  ·exact h
  ·split
   ·rename_i h1 h2
    split
    ·exact h
    ·exact riseL_mem k _ _ (swapL_mem h1 h2 h)
   ·exact h
theorem Idx.key {L : List Item} {f : Int → Option Int} (h : Idx L f) {i : Nat} {x : Item} (hx : L[i]? = some x) (n d : Int) : Idx (L.set i (x.key n d)) f := by
 have hil : i < L.length := (List.getElem?_eq_some_iff.1 hx).1
 constructor
 ·intro k z hz
  by_cases e : k = i
  ·subst e
   rw [List.getElem?_set_self hil] at hz; cases hz
   exact h.fwd k x hx
  ·rw [List.getElem?_set_ne (Ne.symm e)] at hz
   exact h.fwd k z hz
 ·intro k v hv
  obtain ⟨j, z, a1, a2, a3⟩ := h.bwd k v hv
  by_cases e : j = i
  ·subst e
   rw [hx] at a1; cases a1
   exact ⟨j, x.key n d, List.getElem?_set_self hil, a2, a3⟩
  ·exact ⟨j, z, by rw [List.getElem?_set_ne (Ne.symm e)]; exact a1, a2, a3⟩
theorem set_ok {σ : St} {h a m : Nat} {L : List Item} {cap : Nat} {t : Int} (H : HI σ h a m L cap t) {n : Nat} {x : Item} (hx : L[n]? = some x) (kn kd : Int) (h0 : 0 ≤ x.id) (h1 : x.id ≤ 4611686018427387904) (hk : okR kn kd = true) :
  ∃ σ' n2 z, DCall Try.prog 15 [.pointer (some ⟨h, 0, none⟩), .int .i64 x.id, .agg ⟨[.int .i64 kn, .int .i64 kd]⟩] σ (.ret (.int .i64 0)) σ' [h, a, m] ∧
   (riseL (n + 1) (L.set n (x.key kn kd)) n)[n2]? = some z ∧ z.id = x.id ∧
   HI σ' h a m (sinkL (L.length + 1) (riseL (n + 1) (L.set n (x.key kn kd)) n) n2) cap t ∧ σ.next ≤ σ'.next ∧ ∀ c, c < σ.next → c ≠ h → c ≠ a → c ≠ m → σ'.get c = σ.get c := by
 have hn : n < L.length := (List.getElem?_eq_some_iff.1 hx).1
 obtain ⟨f, H1, hi⟩ := H.hs
 have lt := H1.lt
 obtain ⟨q1, q2, q3⟩ := H1.ne
 obtain ⟨G, ga, hG⟩ := H1.ga
 obtain ⟨es, ck, gm, hkv, hlk⟩ := H1.gm
 have hk' := hk
 simp only [okR, Bool.and_eq_true, decide_eq_true_eq] at hk'
 let σ1 := σ.new (.cells [.int .i64 kn, .int .i64 kd] false)
 have gm1 : σ1.get m = some (.map es ck) := by rw [St.get_new, if_neg (by omega)]; exact gm
 have gh1 : σ1.get h = some (.cells [.map (some m), .slice (some ⟨a, 0, some 6⟩) L.length cap, .int .i64 t] false) := by rw [St.get_new, if_neg (by omega)]; exact H1.gh
 have ga1 : σ1.get a = some (.cells (cellsL L ++ G) false) := by rw [St.get_new, if_neg (by omega)]; exact ga
 have gk1 : σ1.get σ.next = some (.cells [.int .i64 kn, .int .i64 kd] false) := by rw [St.get_new, if_pos rfl]
 have hno := none_call gh1
 have hlo := map_get (ok := true) gm1 hkv hlk (hi.fwd n x hx)
 let σ2 := σ1.set a (.cells (cellsL (L.set n (x.key kn kd)) ++ G) false)
 have hok1 : (x.key kn kd).ok = true := by
  have := H.ok x (List.mem_of_getElem? hx)
  simp only [Item.ok, Bool.and_eq_true] at this ⊢
  exact ⟨⟨this.1.1, hk⟩, this.2⟩
 have H2 : HI σ2 h a m (L.set n (x.key kn kd)) cap t := by
  refine ⟨⟨f, ⟨?_, ⟨G, by rw [St.get_set, if_pos rfl], by rw [List.length_set]; exact hG⟩, ⟨es, ck, ?_, hkv, hlk⟩, H1.ne, ?_⟩, hi.key hx kn kd⟩, fun z hz => ?_, by rw [List.length_set]; exact H.small⟩
  ·rw [St.get_set, if_neg (Ne.symm q1), List.length_set]; exact gh1
  ·rw [St.get_set, if_neg q3]; exact gm1
  ·show h < σ.next + 1 ∧ a < σ.next + 1 ∧ m < σ.next + 1; omega
  ·rcases List.mem_or_eq_of_mem_set hz with h2 | h2
   ·exact H.ok z h2
   ·rw [h2]; exact hok1
 obtain ⟨σ3, d3, H3, nx3, kp3⟩ := rise_call H2 (n := n) (by rw [List.length_set]; exact hn)
 obtain ⟨n2, hn2⟩ := List.getElem?_of_mem (riseL_mem (z := x.key kn kd) (n + 1) (L.set n (x.key kn kd)) n (List.mem_of_getElem? (List.getElem?_set_self hn)))
 obtain ⟨f3, H31, hi3⟩ := H3.hs
 obtain ⟨es3, ck3, gm3, hkv3, hlk3⟩ := H31.gm
 have hlo3 := map_get (k := x.id) (v := n2) (ok := false) gm3 hkv3 hlk3 (hi3.fwd n2 (x.key kn kd) hn2)
 simp only [Bool.false_eq_true, if_false] at hlo3
 have hlen : (riseL (n + 1) (L.set n (x.key kn kd)) n).length = L.length := by rw [riseL_length, List.length_set]
 obtain ⟨σ4, d4, H4, nx4, kp4⟩ := sink_call H3 (n := n2) (List.getElem?_eq_some_iff.1 hn2).1
 rw [hlen] at H4
 have gh3 := H31.gh
 have c1 : (0 : Int) ≤ (n : Int) ∧ (n : Int) < (L.length : Int) := by omega
 have ov := over_key (G := G) (n := kn) (d := kd) hx
 have l1 : n * 4 + 3 ≤ (cellsL L ++ G).length := by simp [cellsL_length]; omega
 have n2' : ¬ x.id < 0 := by omega
 have n3 : ¬ 4611686018427387904 < x.id := by omega
 have e2 : ((0 : Int) != 0) = false := by decide
 have nh : ¬ σ1.next ≤ h := by show ¬ σ.next + 1 ≤ h; omega
 have nk : ¬ σ1.next ≤ σ.next := by show ¬ σ.next + 1 ≤ σ.next; omega
 refine ⟨σ4, n2, x.key kn kd, DCall.weaken2 (l := [] ++ (([] ++ []) ++ ([] ++ ([] ++ ([a] ++ ([a, m] ++ ([a, m] ++ ([] ++ [])))))))) (callsD Try.func15 rfl
  (DC.seq (runs Orc.none_ok 20 bt15 (by kernel_rfl) (r := ⟨.norm, ⟨_, []⟩, σ1, []⟩) (by simp only [go_sem, seval, if_pos rfl, Try.f15] <;> rfl)) rfl
  (DC.seq (DC.seq (runs (one_ok' Orc.none_ok hno) 20 bt15 (by kernel_rfl) (r := ⟨.norm, ⟨_, []⟩, σ1, []⟩) (by simp only [go_sem, seval, if_pos rfl, Orc.one_call, body44] <;> rfl)) rfl (DC.cond (t := false) (by simp only [go_sem, seval, if_pos rfl]) (DC.skip _ _ _))) rfl
  (DC.seq (runs Orc.none_ok 20 bt15 (by kernel_rfl) (r := ⟨.norm, ⟨_, []⟩, σ1, []⟩) (by simp only [go_sem, seval, if_pos rfl, hlo, gh1, Try.underlying96, info96, Try.t96, Try.underlying97, info97, Try.t97, Try.underlying98, info98, Try.t98, Try.underlying99, info99, Try.t99, Try.underlying100, info100, Try.t100] <;> rfl)) rfl
  (DC.seq (runs p8_ok 20 bt15 (by kernel_rfl) (r := ⟨.norm, ⟨_, []⟩, σ1, []⟩) (by simp only [go_sem, seval, if_pos rfl, p8, p7, p6, p5, p4, p3, hk'.1.1, hk'.1.2, hk'.2, n2', n3, e2, gk1, Try.underlying2, info2, Try.t2, Try.underlying4, info4, Try.t4, Try.underlying24, info24, Try.t24, Try.underlying28, info28, Try.t28, body45] <;> rfl)) rfl
  (DC.seq (runs Orc.none_ok 20 bt15 (by kernel_rfl) (r := ⟨.norm, ⟨_, []⟩, σ2, [a]⟩) (by simp only [go_sem, seval, if_pos rfl, σ2, bt15, gh1, ga1, gk1, c1, ov, l1, nh, nk, Int.toNat_natCast, Try.underlying24, info24, Try.t24, Try.underlying30, info30, Try.t30, Try.underlying31, info31, Try.t31, Try.underlying37, info37, Try.t37, Try.underlying99, info99, Try.t99, Try.underlying100, info100, Try.t100] <;> rfl)) rfl
  (DC.seq (runs (one_ok' Orc.none_ok d3) 20 bt15 (by kernel_rfl) (r := ⟨.norm, ⟨_, []⟩, σ3, [a, m]⟩) (by simp only [go_sem, seval, if_pos rfl, Orc.one_call, body47] <;> rfl)) rfl
  (DC.seq (runs (one_ok' Orc.none_ok d4) 20 bt15 (by kernel_rfl) (r := ⟨.norm, ⟨_, []⟩, σ4, [a, m]⟩) (by simp only [go_sem, seval, if_pos rfl, Orc.one_call, hlo3, gh3, Try.underlying96, info96, Try.t96, Try.underlying97, info97, Try.t97, Try.underlying98, info98, Try.t98, Try.underlying99, info99, Try.t99, Try.underlying100, info100, Try.t100, body48] <;> rfl)) rfl
  (DC.seq (runs Orc.none_ok 20 bt15 (by kernel_rfl) (r := ⟨.norm, ⟨_, []⟩, σ4, []⟩) (by simp only [go_sem, seval, if_pos rfl] <;> rfl)) rfl (DC.ret _ _ _)))))))))
  (by simp only [go_sem, seval, if_pos rfl, Try.f15]) rfl rfl) ?_, hn2, rfl, H4, ?_, ?_⟩
 ·intro c hc _
  simp at hc ⊢
  omega
 ·have : σ3.next = σ.next + 1 := nx3
  omega
 ·intro c hc b1 b2 b3
  have e3 : σ3.next = σ.next + 1 := nx3
  rw [kp4 c (by omega) b2 b3, kp3 c b2 b3, St.get_set, if_neg (Ne.symm b2), St.get_new, if_neg (by omega)]
end Go.Ab
namespace Go.Ab
open Go.Proofs
def bt14 : Nat → List Nat
 | 11 => [0, 0, 2, 6, 14, 0, 0, 0, 128, 384, 896, 2016, 4064, 8190, 16383, 32767, 65535]
 | _ => []
structure HE (σ : St) (h m : Nat) (t : Int) : Prop where
 gh : σ.get h = some (.cells [.map (some m), .slice none 0 0, .int .i64 t] false)
 gm : ∃ ck, σ.get m = some (.map [] ck)
 ne : h ≠ m
 lt : h < σ.next ∧ m < σ.next
theorem KV.nil : KV [] := ⟨by simp, List.Pairwise.nil⟩
theorem cellsL_append (L M : List Item) : cellsL (L ++ M) = cellsL L ++ cellsL M := by
 induction L with
 | nil => rfl
 | cons x L ih => simp [cellsL, ih]
theorem over_end {G : List Value} {x : Item} : ∀ {L : List Item}, 4 ≤ G.length → over (cellsL L ++ G) (L.length * 4) x.cells = cellsL (L ++ [x]) ++ G.drop 4
 | [], h => by
  match G, h with
  | a :: b :: c :: d :: G, _ => simp [over, cellsL, Item.cells]
 | y :: L, h => by
  have := over_end (x := x) (L := L) h
  have e : (y :: L).length * 4 = L.length * 4 + 4 := by simp; omega
  rw [e]
  simp only [cellsL, Item.cells, List.cons_append, List.nil_append, over] at this ⊢
  rw [this]
theorem Idx.add {L : List Item} {f : Int → Option Int} (h : Idx L f) {x : Item} (hx : f x.id = none) : Idx (L ++ [x]) (upd f x.id L.length) := by
 constructor
 ·intro i z hz
  rw [List.getElem?_append] at hz
  unfold upd
  split at hz
  ·have := h.fwd i z hz
   rw [if_neg (fun e => by rw [e, hx] at this; cases this)]
   exact this
  ·rename_i hi
   have : i - L.length = 0 := by
    cases hd : i - L.length with
    | zero => rfl
    | succ k => rw [hd] at hz; simp at hz
   rw [this] at hz
   simp only [List.getElem?_cons_zero, Option.some.injEq] at hz
   subst hz
   rw [if_pos rfl]
   congr 1
   omega
 ·intro k v hv
  unfold upd at hv
  split at hv
  ·rename_i e
   cases hv
   exact ⟨L.length, x, by simp, e.symm, rfl⟩
  ·obtain ⟨i, z, a1, a2, a3⟩ := h.bwd k v hv
   have hi : i < L.length := (List.getElem?_eq_some_iff.1 a1).1
   exact ⟨i, z, by rw [List.getElem?_append_left hi]; exact a1, a2, a3⟩
end Go.Ab
namespace Go.Ab
open Go.Proofs
theorem append_nil {σ : St} {b : Nat} {x : Item} (hg : σ.get b = some (.cells x.cells false)) :
  opAppend (cP Try.prog).T σ 37 37 (.slice none 0 0) (.slice (some ⟨b, 0, some 0⟩) 1 1) = some (.new (.cells x.cells false) (.slice (some ⟨σ.next, 0, some 6⟩) 1 1) [b]) := by
 have h37 : (cP Try.prog).T.und 37 = some (.slice 31) := (cx_und 37).trans Try.underlying37
 have h31 : (cP Try.prog).T.info 31 = some Try.t31 := (cx_info 31).trans info31
 simp only [opAppend, h37, h31, srcLen, Try.t31, srcCells, hg]
 simp [isSeqD, Item.cells, oneCells, plain, plainL, vcells]
theorem put_first {σ : St} {h m : Nat} {t : Int} (H : HE σ h m t) (id kn kd : Int) (h0 : 0 ≤ id) (h1 : id ≤ 4611686018427387904) (hk : okR kn kd = true) (ht : 0 ≤ t) (ht1 : t < 1000000) :
  ∃ σ' a, DCall Try.prog 14 [.pointer (some ⟨h, 0, none⟩), .int .i64 id, .agg ⟨[.int .i64 kn, .int .i64 kd]⟩] σ (.ret (.int .i64 0)) σ' [h, m] ∧ HI σ' h a m [⟨id, kn, kd, t + 1⟩] 1 (t + 1) ∧ σ.next ≤ a := by
 obtain ⟨ck, gm⟩ := H.gm
 have gh := H.gh
 have lt := H.lt
 have ne := H.ne
 have hk' := hk
 simp only [okR, Bool.and_eq_true, decide_eq_true_eq] at hk'
 let x : Item := ⟨id, kn, kd, t + 1⟩
 let σ1 := σ.new (.cells [.int .i64 kn, .int .i64 kd] false)
 have gm1 : σ1.get m = some (.map [] ck) := by rw [St.get_new, if_neg (by omega)]; exact gm
 have gh1 : σ1.get h = some (.cells [.map (some m), .slice none 0 0, .int .i64 t] false) := by rw [St.get_new, if_neg (by omega)]; exact gh
 have gk1 : σ1.get σ.next = some (.cells [.int .i64 kn, .int .i64 kd] false) := by rw [St.get_new, if_pos rfl]
 have hno := none_call gh1
 have hlo := map_not (ok := true) (k := id) (f := fun _ => none) gm1 KV.nil (fun _ => rfl) rfl
 let σ2 := σ1.set h (.cells [.map (some m), .slice none 0 0, .int .i64 (t + 1)] false)
 have gh2 : σ2.get h = some (.cells [.map (some m), .slice none 0 0, .int .i64 (t + 1)] false) := by rw [St.get_set, if_pos rfl]
 have gk2 : σ2.get σ.next = some (.cells [.int .i64 kn, .int .i64 kd] false) := by rw [St.get_set, if_neg (by omega)]; exact gk1
 let σ3 := ((σ2.new (.cells x.cells false)).new (.cells x.cells false)).set h (.cells [.map (some m), .slice (some ⟨σ.next + 2, 0, some 6⟩) 1 1, .int .i64 (t + 1)] false)
 have hap := append_nil (σ := σ2.new (.cells x.cells false)) (b := σ.next + 1) (x := x) (by rw [St.get_new, if_pos (show σ2.next = σ.next + 1 from rfl)])
 have H3 : HS σ3 h (σ.next + 2) m [x] 1 (t + 1) (fun _ => none) := by
  refine ⟨by rw [St.get_set, if_pos rfl]; rfl, ⟨[], ?_, rfl⟩, ⟨[], ck, ?_, KV.nil, fun _ => rfl⟩, ⟨by omega, ne, by omega⟩, ?_⟩
  ·rw [St.get_set, if_neg (by omega), St.get_new, if_pos (show (σ2.new (.cells x.cells false)).next = σ.next + 2 from rfl)]; simp [cellsL]
  ·rw [St.get_set, if_neg ne, St.get_new, if_neg (by show ¬ σ.next + 2 = m; omega), St.get_new, if_neg (by show ¬ σ.next + 1 = m; omega), St.get_set, if_neg ne]; exact gm1
  ·show h < σ.next + 3 ∧ σ.next + 2 < σ.next + 3 ∧ m < σ.next + 3; omega
 obtain ⟨σ4, d4, H4, nx4, kp4⟩ := lay_call H3 (i := 0) (x := x) rfl
 have hxo : x.ok = true := by
  simp only [Item.ok, Bool.and_eq_true, okI, decide_eq_true_eq]
  exact ⟨⟨by show _ ≤ id ∧ id < _; omega, hk⟩, by show _ ≤ t + 1 ∧ t + 1 < _; omega⟩
 have I4 : HI σ4 h (σ.next + 2) m [x] 1 (t + 1) := by
  refine ⟨⟨_, H4, ?_⟩, fun z hz => by simp only [List.mem_singleton] at hz; rw [hz]; exact hxo, by simp⟩
  have := Idx.add (L := []) (f := fun _ => none) ⟨fun i z h => by simp at h, fun k v h => by cases h⟩ (x := x) rfl
  exact this
 obtain ⟨σ5, d5, H5, nx5, kp5⟩ := rise_call I4 (n := 0) (by simp)
 have gh3 := H3.gh
 have gh4 := H4.gh
 have n2' : ¬ id < 0 := by omega
 have n3 : ¬ 4611686018427387904 < id := by omega
 have e2 : ((0 : Int) != 0) = false := by decide
 have w1 : IntKind.i64.wrap (t + 1) = t + 1 := by rw [IntKind.wrap_i64]; omega
 have w0 : IntKind.i64.wrap 0 = 0 := by decide
 refine ⟨σ5, σ.next + 2, ?_, H5, by omega⟩
 have nh2 : ¬ σ2.next ≤ h := by show ¬ σ.next + 1 ≤ h; omega
 have nk2 : ¬ σ2.next ≤ σ.next := by show ¬ σ.next + 1 ≤ σ.next; omega
 have ns : ¬ σ2.next = h := by show ¬ σ.next + 1 = h; omega
 refine DCall.weaken2 (l := [] ++ (([] ++ []) ++ ([] ++ ([] ++ ([h] ++ ([h] ++ ([m] ++ ([σ.next + 2, m] ++ ([] ++ []))))))))) (callsD Try.func14 rfl
  (DC.seq (runs Orc.none_ok 20 bt14 (by kernel_rfl) (r := ⟨.norm, ⟨_, []⟩, σ1, []⟩) (by simp only [go_sem, seval, if_pos rfl, Try.f14] <;> rfl)) rfl
  (DC.seq (DC.seq (runs (one_ok' Orc.none_ok hno) 20 bt14 (by kernel_rfl) (r := ⟨.norm, ⟨_, []⟩, σ1, []⟩) (by simp only [go_sem, seval, if_pos rfl, Orc.one_call, body44] <;> rfl)) rfl (DC.cond (t := false) (by simp only [go_sem, seval, if_pos rfl]) (DC.skip _ _ _))) rfl
  (DC.seq (runs Orc.none_ok 20 bt14 (by kernel_rfl) (r := ⟨.norm, ⟨_, []⟩, σ1, []⟩) (by simp only [go_sem, seval, if_pos rfl, hlo, gh1, Try.underlying96, info96, Try.t96, Try.underlying97, info97, Try.t97, Try.underlying98, info98, Try.t98, Try.underlying99, info99, Try.t99, Try.underlying100, info100, Try.t100] <;> rfl)) rfl
  (DC.seq (runs p8_ok 20 bt14 (by kernel_rfl) (r := ⟨.norm, ⟨_, []⟩, σ1, []⟩) (by simp only [go_sem, seval, if_pos rfl, opLen, p8, p7, p6, p5, p4, p3, hk'.1.1, hk'.1.2, hk'.2, n2', n3, e2, gk1, gh1, Try.underlying2, info2, Try.t2, Try.underlying3, info3, Try.t3, Try.underlying4, info4, Try.t4, Try.underlying24, info24, Try.t24, Try.underlying28, info28, Try.t28, Try.underlying37, info37, Try.t37, Try.underlying99, info99, Try.t99, Try.underlying100, info100, Try.t100, body45] <;> rfl)) rfl
  (DC.seq (runs Orc.none_ok 20 bt14 (by kernel_rfl) (r := ⟨.norm, ⟨_, []⟩, σ2, [h]⟩) (by simp only [go_sem, seval, if_pos rfl, σ2, gh1, w1, Try.underlying2, info2, Try.t2, Try.underlying99, info99, Try.t99, Try.underlying100, info100, Try.t100] <;> rfl)) rfl
  (DC.seq (runs Orc.none_ok 20 bt14 (by kernel_rfl) (r := ⟨.norm, ⟨_, []⟩, σ3, [h]⟩) (by
   have hap' := hap
   have nx2 : σ2.next = σ.next + 1 := rfl
   have nhh : ¬ σ.next + 1 ≤ h := by omega
   have nss : ¬ σ.next + 1 = h := by omega
   have nss2 : ¬ σ.next + 2 = h := by omega
   simp only [x, Item.cells, St.next_new, nx2] at hap'
   simp only [go_sem, seval, if_pos rfl, bt14, zerosN, σ3, x, Item.cells, gh2, gk2, hap', nx2, nhh, nss, nss2, Try.underlying2, info2, Try.t2, Try.underlying24, info24, Try.t24, Try.underlying30, info30, Try.t30, Try.underlying31, info31, Try.t31, Try.underlying37, info37, Try.t37, Try.underlying99, info99, Try.t99, Try.underlying100, info100, Try.t100] <;> rfl)) rfl
  (DC.seq (runs (one_ok' Orc.none_ok d4) 20 bt14 (by kernel_rfl) (r := ⟨.norm, ⟨_, []⟩, σ4, [m]⟩) (by simp only [go_sem, seval, if_pos rfl, opLen, Orc.one_call, gh3, w0, Int.natCast_zero, Int.natCast_one, Try.underlying3, info3, Try.t3, Try.underlying37, info37, Try.t37, Try.underlying99, info99, Try.t99, Try.underlying100, info100, Try.t100, body46] <;> rfl)) rfl
  (DC.seq (runs (one_ok' Orc.none_ok d5) 20 bt14 (by kernel_rfl) (r := ⟨.norm, ⟨_, []⟩, σ5, [σ.next + 2, m]⟩) (by simp only [go_sem, seval, if_pos rfl, opLen, Orc.one_call, gh4, w0, Int.natCast_zero, Int.natCast_one, Try.underlying3, info3, Try.t3, Try.underlying37, info37, Try.t37, Try.underlying99, info99, Try.t99, Try.underlying100, info100, Try.t100, body47] <;> rfl)) rfl
  (DC.seq (runs Orc.none_ok 20 bt14 (by kernel_rfl) (r := ⟨.norm, ⟨_, []⟩, σ5, []⟩) (by simp only [go_sem, seval, if_pos rfl] <;> rfl)) rfl (DC.ret _ _ _))))))))))
  (by simp only [go_sem, seval, if_pos rfl, Try.f14]) rfl rfl) ?_
 intro c hc hcn
 simp at hc ⊢
 omega
end Go.Ab
namespace Go.Ab
open Go.Proofs
theorem append_in {σ : St} {a b : Nat} {L : List Item} {G : List Value} {cap : Nat} {x : Item} (hab : σ.get a = some (.cells (cellsL L ++ G) false)) (hg : σ.get b = some (.cells x.cells false)) (hG : L.length * 4 + G.length = cap * 4) (hl : L.length + 1 ≤ cap) (sm : L.length ≤ 1000000) :
  opAppend (cP Try.prog).T σ 37 37 (.slice (some ⟨a, 0, some 6⟩) L.length cap) (.slice (some ⟨b, 0, some 0⟩) 1 1) =
   some (.eff (.slice (some ⟨a, 0, some 6⟩) (L.length + 1) cap) (σ.set a (.cells (cellsL (L ++ [x]) ++ G.drop 4) false)) [a]) := by
 have h37 : (cP Try.prog).T.und 37 = some (.slice 31) := (cx_und 37).trans Try.underlying37
 have h31 : (cP Try.prog).T.info 31 = some Try.t31 := (cx_info 31).trans info31
 have ov := over_end (G := G) (x := x) (L := L) (by omega)
 have l1 : L.length * 4 ≤ (cellsL L ++ G).length := by simp [cellsL_length]; omega
 have l2 : (L.length + 1) * 4 ≤ (cellsL L ++ G).length := by simp [cellsL_length]; omega
 have l3 : ¬ 4294967296 ≤ L.length := by omega
 simp only [Item.cells] at ov hg
 simp only [opAppend, h37, h31, srcLen, Try.t31, srcCells, hg, hab]
 simp only [List.length_append] at l1 l2
 simp [isSeqD, oneCells, plain, plainL, vcells, hl, l3, ov, Item.cells, cellsL_length]
 omega
theorem append_move {σ : St} {a b : Nat} {L : List Item} {G : List Value} {x : Item} (hab : σ.get a = some (.cells (cellsL L ++ G) false)) (hg : σ.get b = some (.cells x.cells false)) (sm : L.length ≤ 1000000) :
  opAppend (cP Try.prog).T σ 37 37 (.slice (some ⟨a, 0, some 6⟩) L.length L.length) (.slice (some ⟨b, 0, some 0⟩) 1 1) =
   some (.eff (.slice (some ⟨σ.next, 0, some 6⟩) (L.length + 1) (L.length + 1)) ((σ.new (.cells (cellsL (L ++ [x])) false)).put a none) [a]) := by
 have h37 : (cP Try.prog).T.und 37 = some (.slice 31) := (cx_und 37).trans Try.underlying37
 have h31 : (cP Try.prog).T.info 31 = some Try.t31 := (cx_info 31).trans info31
 have l3 : ¬ 4294967296 ≤ L.length := by omega
 have tk : (cellsL L ++ G).take (L.length * 4) = cellsL L := by
  rw [List.take_append_of_le_length (by rw [cellsL_length]; omega), List.take_of_length_le (by rw [cellsL_length]; omega)]
 have ap : cellsL (L ++ [x]) = cellsL L ++ x.cells := by rw [cellsL_append]; simp [cellsL]
 rw [ap]
 simp only [Item.cells] at hg ⊢
 simp only [opAppend, h37, h31, srcLen, Try.t31, srcCells, hg, hab]
 simp [isSeqD, oneCells, plain, plainL, vcells, l3, tk, cellsL_length]
 omega
end Go.Ab
namespace Go.Ab
open Go.Proofs
theorem put_in {σ : St} {h a m : Nat} {L : List Item} {cap : Nat} {t : Int} (H : HI σ h a m L cap t) (id kn kd : Int) (h0 : 0 ≤ id) (h1 : id ≤ 4611686018427387904) (hk : okR kn kd = true) (ht : 0 ≤ t) (ht1 : t < 1000000) (hnew : ∀ y ∈ L, y.id ≠ id) (hsm : L.length < 1000) (hcap : L.length + 1 ≤ cap) :
  ∃ σ', DCall Try.prog 14 [.pointer (some ⟨h, 0, none⟩), .int .i64 id, .agg ⟨[.int .i64 kn, .int .i64 kd]⟩] σ (.ret (.int .i64 0)) σ' [h, a, m] ∧ HI σ' h a m (riseL (L.length + 1) (L ++ [⟨id, kn, kd, t + 1⟩]) L.length) cap (t + 1) ∧ σ.next ≤ σ'.next ∧ ∀ c, c < σ.next → c ≠ h → c ≠ a → c ≠ m → σ'.get c = σ.get c := by
 obtain ⟨f, H1, hi⟩ := H.hs
 obtain ⟨G, ga, hG⟩ := H1.ga
 obtain ⟨es, ck, gm, hkv, hlk⟩ := H1.gm
 have gh := H1.gh
 have lt := H1.lt
 obtain ⟨q1, q2, q3⟩ := H1.ne
 have hk' := hk
 simp only [okR, Bool.and_eq_true, decide_eq_true_eq] at hk'
 let x : Item := ⟨id, kn, kd, t + 1⟩
 have hfn : f id = none := by
  cases hv : f id with
  | none => rfl
  | some v =>
   obtain ⟨i, z, a1, a2, _⟩ := hi.bwd id v hv
   exact absurd a2 (hnew z (List.mem_of_getElem? a1))
 let σ1 := σ.new (.cells [.int .i64 kn, .int .i64 kd] false)
 have gm1 : σ1.get m = some (.map es ck) := by rw [St.get_new, if_neg (by omega)]; exact gm
 have ga1 : σ1.get a = some (.cells (cellsL L ++ G) false) := by rw [St.get_new, if_neg (by omega)]; exact ga
 have gh1 : σ1.get h = some (.cells [.map (some m), .slice (some ⟨a, 0, some 6⟩) L.length cap, .int .i64 t] false) := by rw [St.get_new, if_neg (by omega)]; exact gh
 have gk1 : σ1.get σ.next = some (.cells [.int .i64 kn, .int .i64 kd] false) := by rw [St.get_new, if_pos rfl]
 have hno := none_call gh1
 have hlo := map_not (ok := true) (k := id) gm1 hkv hlk hfn
 let σ2 := σ1.set h (.cells [.map (some m), .slice (some ⟨a, 0, some 6⟩) L.length cap, .int .i64 (t + 1)] false)
 have gh2 : σ2.get h = some (.cells [.map (some m), .slice (some ⟨a, 0, some 6⟩) L.length cap, .int .i64 (t + 1)] false) := by rw [St.get_set, if_pos rfl]
 have gk2 : σ2.get σ.next = some (.cells [.int .i64 kn, .int .i64 kd] false) := by rw [St.get_set, if_neg (by omega)]; exact gk1
 let σ2n := σ2.new (.cells x.cells false)
 have ga2 : σ2n.get a = some (.cells (cellsL L ++ G) false) := by rw [St.get_new, if_neg (by show ¬ σ.next + 1 = a; omega), St.get_set, if_neg q1]; exact ga1
 have gm2 : σ2n.get m = some (.map es ck) := by rw [St.get_new, if_neg (by show ¬ σ.next + 1 = m; omega), St.get_set, if_neg q2]; exact gm1
 have gx2 : σ2n.get (σ.next + 1) = some (.cells x.cells false) := by rw [St.get_new, if_pos (show σ2.next = σ.next + 1 from rfl)]
 have hap := append_in (b := σ.next + 1) (x := x) ga2 gx2 hG hcap H.small
 let σ3 := (σ2n.set a (.cells (cellsL (L ++ [x]) ++ G.drop 4) false)).set h (.cells [.map (some m), .slice (some ⟨a, 0, some 6⟩) (L.length + 1) cap, .int .i64 (t + 1)] false)
 have H3 : HS σ3 h a m (L ++ [x]) cap (t + 1) f := by
  refine ⟨by rw [St.get_set, if_pos rfl, List.length_append]; rfl, ⟨G.drop 4, ?_, by simp; omega⟩, ⟨es, ck, ?_, hkv, hlk⟩, ⟨q1, q2, q3⟩, ?_⟩
  ·rw [St.get_set, if_neg q1, St.get_set, if_pos rfl]
  ·rw [St.get_set, if_neg q2, St.get_set, if_neg q3]; exact gm2
  ·show h < σ.next + 2 ∧ a < σ.next + 2 ∧ m < σ.next + 2; omega
 have hln : (L ++ [x]).length = L.length + 1 := by simp
 have hgx : (L ++ [x])[L.length]? = some x := by simp
 obtain ⟨σ4, d4, H4, nx4, kp4⟩ := lay_call H3 hgx
 have hxo : x.ok = true := by
  simp only [Item.ok, Bool.and_eq_true, okI, decide_eq_true_eq]
  exact ⟨⟨by show _ ≤ id ∧ id < _; omega, hk⟩, by show _ ≤ t + 1 ∧ t + 1 < _; omega⟩
 have I4 : HI σ4 h a m (L ++ [x]) cap (t + 1) := by
  refine ⟨⟨_, H4, hi.add (x := x) hfn⟩, fun z hz => ?_, by rw [hln]; omega⟩
  rcases List.mem_append.1 hz with hz | hz
  ·exact H.ok z hz
  ·simp only [List.mem_singleton] at hz; rw [hz]; exact hxo
 obtain ⟨σ5, d5, H5, nx5, kp5⟩ := rise_call I4 (n := L.length) (by rw [hln]; omega)
 have gh3 := H3.gh
 have gh4 := H4.gh
 rw [hln] at gh3 gh4
 have n2' : ¬ id < 0 := by omega
 have n3 : ¬ 4611686018427387904 < id := by omega
 have n4 : ¬ (100000 : Int) ≤ (L.length : Int) := by omega
 have e2 : ((0 : Int) != 0) = false := by decide
 have w1 : IntKind.i64.wrap (t + 1) = t + 1 := by rw [IntKind.wrap_i64]; omega
 have w2 : IntKind.i64.wrap (((L.length + 1 : Nat) : Int) - 1) = (L.length : Int) := by rw [IntKind.wrap_i64]; omega
 refine ⟨σ5, ?_, H5, ?_, ?_⟩
 ·refine DCall.weaken2 (l := [] ++ (([] ++ []) ++ ([] ++ ([] ++ ([h] ++ ([a, h] ++ ([m] ++ ([a, m] ++ ([] ++ []))))))))) (callsD Try.func14 rfl
   (DC.seq (runs Orc.none_ok 20 bt14 (by kernel_rfl) (r := ⟨.norm, ⟨_, []⟩, σ1, []⟩) (by simp only [go_sem, seval, if_pos rfl, Try.f14] <;> rfl)) rfl
   (DC.seq (DC.seq (runs (one_ok' Orc.none_ok hno) 20 bt14 (by kernel_rfl) (r := ⟨.norm, ⟨_, []⟩, σ1, []⟩) (by simp only [go_sem, seval, if_pos rfl, Orc.one_call, body44] <;> rfl)) rfl (DC.cond (t := false) (by simp only [go_sem, seval, if_pos rfl]) (DC.skip _ _ _))) rfl
   (DC.seq (runs Orc.none_ok 20 bt14 (by kernel_rfl) (r := ⟨.norm, ⟨_, []⟩, σ1, []⟩) (by simp only [go_sem, seval, if_pos rfl, hlo, gh1, Try.underlying96, info96, Try.t96, Try.underlying97, info97, Try.t97, Try.underlying98, info98, Try.t98, Try.underlying99, info99, Try.t99, Try.underlying100, info100, Try.t100] <;> rfl)) rfl
   (DC.seq (runs p8_ok 20 bt14 (by kernel_rfl) (r := ⟨.norm, ⟨_, []⟩, σ1, []⟩) (by simp only [go_sem, seval, if_pos rfl, opLen, p8, p7, p6, p5, p4, p3, hk'.1.1, hk'.1.2, hk'.2, n2', n3, n4, e2, gk1, gh1, Try.underlying2, info2, Try.t2, Try.underlying3, info3, Try.t3, Try.underlying4, info4, Try.t4, Try.underlying24, info24, Try.t24, Try.underlying28, info28, Try.t28, Try.underlying37, info37, Try.t37, Try.underlying99, info99, Try.t99, Try.underlying100, info100, Try.t100, body45] <;> rfl)) rfl
   (DC.seq (runs Orc.none_ok 20 bt14 (by kernel_rfl) (r := ⟨.norm, ⟨_, []⟩, σ2, [h]⟩) (by simp only [go_sem, seval, if_pos rfl, σ2, gh1, w1, Try.underlying2, info2, Try.t2, Try.underlying99, info99, Try.t99, Try.underlying100, info100, Try.t100] <;> rfl)) rfl
   (DC.seq (runs Orc.none_ok 20 bt14 (by kernel_rfl) (r := ⟨.norm, ⟨_, []⟩, σ3, [a, h]⟩) (by
    have hap' := hap
    have nx2 : σ2.next = σ.next + 1 := rfl
    have m1 : ¬ σ.next + 1 ≤ h := by omega
    have m2 : ¬ σ.next + 1 = h := by omega
    have m3 : ¬ σ.next + 2 = h := by omega
    have m4 : ¬ σ.next + 1 ≤ a := by omega
    have m5 : ¬ a = h := by omega
    have m6 : (h == a) = false := by simp; omega
    have m7 : (σ.next == a) = false := by simp; omega
    simp only [σ2n, x, Item.cells, St.next_new, nx2] at hap'
    simp only [go_sem, seval, if_pos rfl, bt14, zerosN, σ3, σ2n, x, Item.cells, gh2, gk2, hap', nx2, m1, m2, m3, m4, m5, m6, m7, Try.underlying2, info2, Try.t2, Try.underlying24, info24, Try.t24, Try.underlying30, info30, Try.t30, Try.underlying31, info31, Try.t31, Try.underlying37, info37, Try.t37, Try.underlying99, info99, Try.t99, Try.underlying100, info100, Try.t100] <;> rfl)) rfl
   (DC.seq (runs (one_ok' Orc.none_ok d4) 20 bt14 (by kernel_rfl) (r := ⟨.norm, ⟨_, []⟩, σ4, [m]⟩) (by simp only [go_sem, seval, if_pos rfl, opLen, Orc.one_call, gh3, w2, Try.underlying3, info3, Try.t3, Try.underlying37, info37, Try.t37, Try.underlying99, info99, Try.t99, Try.underlying100, info100, Try.t100, body46] <;> rfl)) rfl
   (DC.seq (runs (one_ok' Orc.none_ok d5) 20 bt14 (by kernel_rfl) (r := ⟨.norm, ⟨_, []⟩, σ5, [a, m]⟩) (by simp only [go_sem, seval, if_pos rfl, opLen, Orc.one_call, gh4, w2, Try.underlying3, info3, Try.t3, Try.underlying37, info37, Try.t37, Try.underlying99, info99, Try.t99, Try.underlying100, info100, Try.t100, body47] <;> rfl)) rfl
   (DC.seq (runs Orc.none_ok 20 bt14 (by kernel_rfl) (r := ⟨.norm, ⟨_, []⟩, σ5, []⟩) (by simp only [go_sem, seval, if_pos rfl] <;> rfl)) rfl (DC.ret _ _ _))))))))))
   (by simp only [go_sem, seval, if_pos rfl, Try.f14]) rfl rfl) ?_
  intro c hc hcn
  simp at hc ⊢
  omega
 ·rw [nx5, nx4]; show σ.next ≤ σ.next + 2; omega
 ·intro c hc b1 b2 b3
  rw [kp5 c b2 b3, kp4 c b3, St.get_set, if_neg (Ne.symm b1), St.get_set, if_neg (Ne.symm b2), St.get_new, if_neg (by show ¬ σ.next + 1 = c; omega), St.get_set, if_neg (Ne.symm b1), St.get_new, if_neg (by omega)]
end Go.Ab
namespace Go.Ab
open Go.Proofs
theorem put_move {σ : St} {h a m : Nat} {L : List Item} {cap : Nat} {t : Int} (H : HI σ h a m L cap t) (id kn kd : Int) (h0 : 0 ≤ id) (h1 : id ≤ 4611686018427387904) (hk : okR kn kd = true) (ht : 0 ≤ t) (ht1 : t < 1000000) (hnew : ∀ y ∈ L, y.id ≠ id) (hsm : L.length < 1000) (hcap : cap = L.length) :
  ∃ σ', DCall Try.prog 14 [.pointer (some ⟨h, 0, none⟩), .int .i64 id, .agg ⟨[.int .i64 kn, .int .i64 kd]⟩] σ (.ret (.int .i64 0)) σ' [h, a, m] ∧ HI σ' h (σ.next + 2) m (riseL (L.length + 1) (L ++ [⟨id, kn, kd, t + 1⟩]) L.length) (L.length + 1) (t + 1) ∧ σ.next ≤ σ'.next ∧ ∀ c, c < σ.next → c ≠ h → c ≠ a → c ≠ m → σ'.get c = σ.get c := by
 subst hcap
 obtain ⟨f, H1, hi⟩ := H.hs
 obtain ⟨G, ga, hG⟩ := H1.ga
 obtain ⟨es, ck, gm, hkv, hlk⟩ := H1.gm
 have gh := H1.gh
 have lt := H1.lt
 obtain ⟨q1, q2, q3⟩ := H1.ne
 have hk' := hk
 simp only [okR, Bool.and_eq_true, decide_eq_true_eq] at hk'
 let x : Item := ⟨id, kn, kd, t + 1⟩
 have hfn : f id = none := by
  cases hv : f id with
  | none => rfl
  | some v =>
   obtain ⟨i, z, a1, a2, _⟩ := hi.bwd id v hv
   exact absurd a2 (hnew z (List.mem_of_getElem? a1))
 let σ1 := σ.new (.cells [.int .i64 kn, .int .i64 kd] false)
 have gm1 : σ1.get m = some (.map es ck) := by rw [St.get_new, if_neg (by omega)]; exact gm
 have ga1 : σ1.get a = some (.cells (cellsL L ++ G) false) := by rw [St.get_new, if_neg (by omega)]; exact ga
 have gh1 : σ1.get h = some (.cells [.map (some m), .slice (some ⟨a, 0, some 6⟩) L.length L.length, .int .i64 t] false) := by rw [St.get_new, if_neg (by omega)]; exact gh
 have gk1 : σ1.get σ.next = some (.cells [.int .i64 kn, .int .i64 kd] false) := by rw [St.get_new, if_pos rfl]
 have hno := none_call gh1
 have hlo := map_not (ok := true) (k := id) gm1 hkv hlk hfn
 let σ2 := σ1.set h (.cells [.map (some m), .slice (some ⟨a, 0, some 6⟩) L.length L.length, .int .i64 (t + 1)] false)
 have gh2 : σ2.get h = some (.cells [.map (some m), .slice (some ⟨a, 0, some 6⟩) L.length L.length, .int .i64 (t + 1)] false) := by rw [St.get_set, if_pos rfl]
 have gk2 : σ2.get σ.next = some (.cells [.int .i64 kn, .int .i64 kd] false) := by rw [St.get_set, if_neg (by omega)]; exact gk1
 let σ2n := σ2.new (.cells x.cells false)
 have ga2 : σ2n.get a = some (.cells (cellsL L ++ G) false) := by rw [St.get_new, if_neg (by show ¬ σ.next + 1 = a; omega), St.get_set, if_neg q1]; exact ga1
 have gm2 : σ2n.get m = some (.map es ck) := by rw [St.get_new, if_neg (by show ¬ σ.next + 1 = m; omega), St.get_set, if_neg q2]; exact gm1
 have gx2 : σ2n.get (σ.next + 1) = some (.cells x.cells false) := by rw [St.get_new, if_pos (show σ2.next = σ.next + 1 from rfl)]
 have hap := append_move (b := σ.next + 1) (x := x) ga2 gx2 H.small
 let σ3 := ((σ2n.new (.cells (cellsL (L ++ [x])) false)).put a none).set h (.cells [.map (some m), .slice (some ⟨σ.next + 2, 0, some 6⟩) (L.length + 1) (L.length + 1), .int .i64 (t + 1)] false)
 have H3 : HS σ3 h (σ.next + 2) m (L ++ [x]) (L.length + 1) (t + 1) f := by
  refine ⟨by rw [St.get_set, if_pos rfl, List.length_append]; rfl, ⟨[], ?_, by simp⟩, ⟨es, ck, ?_, hkv, hlk⟩, ⟨by omega, q2, by omega⟩, ?_⟩
  ·rw [St.get_set, if_neg (by omega), St.get_put, if_neg (by omega), St.get_new, if_pos (show σ2n.next = σ.next + 2 from rfl), List.append_nil]
  ·rw [St.get_set, if_neg q2, St.get_put, if_neg q3, St.get_new, if_neg (by show ¬ σ.next + 2 = m; omega)]; exact gm2
  ·show h < σ.next + 3 ∧ σ.next + 2 < σ.next + 3 ∧ m < σ.next + 3; omega
 have hln : (L ++ [x]).length = L.length + 1 := by simp
 have hgx : (L ++ [x])[L.length]? = some x := by simp
 obtain ⟨σ4, d4, H4, nx4, kp4⟩ := lay_call H3 hgx
 have hxo : x.ok = true := by
  simp only [Item.ok, Bool.and_eq_true, okI, decide_eq_true_eq]
  exact ⟨⟨by show _ ≤ id ∧ id < _; omega, hk⟩, by show _ ≤ t + 1 ∧ t + 1 < _; omega⟩
 have I4 : HI σ4 h (σ.next + 2) m (L ++ [x]) (L.length + 1) (t + 1) := by
  refine ⟨⟨_, H4, hi.add (x := x) hfn⟩, fun z hz => ?_, by rw [hln]; omega⟩
  rcases List.mem_append.1 hz with hz | hz
  ·exact H.ok z hz
  ·simp only [List.mem_singleton] at hz; rw [hz]; exact hxo
 obtain ⟨σ5, d5, H5, nx5, kp5⟩ := rise_call I4 (n := L.length) (by rw [hln]; omega)
 have gh3 := H3.gh
 have gh4 := H4.gh
 rw [hln] at gh3 gh4
 have n2' : ¬ id < 0 := by omega
 have n3 : ¬ 4611686018427387904 < id := by omega
 have n4 : ¬ (100000 : Int) ≤ (L.length : Int) := by omega
 have e2 : ((0 : Int) != 0) = false := by decide
 have w1 : IntKind.i64.wrap (t + 1) = t + 1 := by rw [IntKind.wrap_i64]; omega
 have w2 : IntKind.i64.wrap (((L.length + 1 : Nat) : Int) - 1) = (L.length : Int) := by rw [IntKind.wrap_i64]; omega
 refine ⟨σ5, ?_, H5, ?_, ?_⟩
 ·refine DCall.weaken2 (l := [] ++ (([] ++ []) ++ ([] ++ ([] ++ ([h] ++ ([a, h] ++ ([m] ++ ([σ.next + 2, m] ++ ([] ++ []))))))))) (callsD Try.func14 rfl
   (DC.seq (runs Orc.none_ok 20 bt14 (by kernel_rfl) (r := ⟨.norm, ⟨_, []⟩, σ1, []⟩) (by simp only [go_sem, seval, if_pos rfl, Try.f14] <;> rfl)) rfl
   (DC.seq (DC.seq (runs (one_ok' Orc.none_ok hno) 20 bt14 (by kernel_rfl) (r := ⟨.norm, ⟨_, []⟩, σ1, []⟩) (by simp only [go_sem, seval, if_pos rfl, Orc.one_call, body44] <;> rfl)) rfl (DC.cond (t := false) (by simp only [go_sem, seval, if_pos rfl]) (DC.skip _ _ _))) rfl
   (DC.seq (runs Orc.none_ok 20 bt14 (by kernel_rfl) (r := ⟨.norm, ⟨_, []⟩, σ1, []⟩) (by simp only [go_sem, seval, if_pos rfl, hlo, gh1, Try.underlying96, info96, Try.t96, Try.underlying97, info97, Try.t97, Try.underlying98, info98, Try.t98, Try.underlying99, info99, Try.t99, Try.underlying100, info100, Try.t100] <;> rfl)) rfl
   (DC.seq (runs p8_ok 20 bt14 (by kernel_rfl) (r := ⟨.norm, ⟨_, []⟩, σ1, []⟩) (by simp only [go_sem, seval, if_pos rfl, opLen, p8, p7, p6, p5, p4, p3, hk'.1.1, hk'.1.2, hk'.2, n2', n3, n4, e2, gk1, gh1, Try.underlying2, info2, Try.t2, Try.underlying3, info3, Try.t3, Try.underlying4, info4, Try.t4, Try.underlying24, info24, Try.t24, Try.underlying28, info28, Try.t28, Try.underlying37, info37, Try.t37, Try.underlying99, info99, Try.t99, Try.underlying100, info100, Try.t100, body45] <;> rfl)) rfl
   (DC.seq (runs Orc.none_ok 20 bt14 (by kernel_rfl) (r := ⟨.norm, ⟨_, []⟩, σ2, [h]⟩) (by simp only [go_sem, seval, if_pos rfl, σ2, gh1, w1, Try.underlying2, info2, Try.t2, Try.underlying99, info99, Try.t99, Try.underlying100, info100, Try.t100] <;> rfl)) rfl
   (DC.seq (runs Orc.none_ok 20 bt14 (by kernel_rfl) (r := ⟨.norm, ⟨_, []⟩, σ3, [a, h]⟩) (by
    have hap' := hap
    have nx2 : σ2.next = σ.next + 1 := rfl
    have m1 : ¬ σ.next + 1 ≤ h := by omega
    have m2 : ¬ σ.next + 1 = h := by omega
    have m3 : ¬ σ.next + 2 = h := by omega
    have m4 : ¬ σ.next + 1 ≤ a := by omega
    have m5 : ¬ a = h := by omega
    have m6 : (h == a) = false := by simp; omega
    have m7 : (σ.next == a) = false := by simp; omega
    have m8 : ¬ a = σ.next := by omega
    simp only [σ2n, x, Item.cells, St.next_new, nx2] at hap'
    simp only [go_sem, seval, if_pos rfl, bt14, zerosN, σ3, σ2n, x, Item.cells, gh2, gk2, hap', nx2, m1, m2, m3, m4, m5, m6, m7, Try.underlying2, info2, Try.t2, Try.underlying24, info24, Try.t24, Try.underlying30, info30, Try.t30, Try.underlying31, info31, Try.t31, Try.underlying37, info37, Try.t37, Try.underlying99, info99, Try.t99, Try.underlying100, info100, Try.t100] <;> rfl)) rfl
   (DC.seq (runs (one_ok' Orc.none_ok d4) 20 bt14 (by kernel_rfl) (r := ⟨.norm, ⟨_, []⟩, σ4, [m]⟩) (by simp only [go_sem, seval, if_pos rfl, opLen, Orc.one_call, gh3, w2, Try.underlying3, info3, Try.t3, Try.underlying37, info37, Try.t37, Try.underlying99, info99, Try.t99, Try.underlying100, info100, Try.t100, body46] <;> rfl)) rfl
   (DC.seq (runs (one_ok' Orc.none_ok d5) 20 bt14 (by kernel_rfl) (r := ⟨.norm, ⟨_, []⟩, σ5, [σ.next + 2, m]⟩) (by simp only [go_sem, seval, if_pos rfl, opLen, Orc.one_call, gh4, w2, Try.underlying3, info3, Try.t3, Try.underlying37, info37, Try.t37, Try.underlying99, info99, Try.t99, Try.underlying100, info100, Try.t100, body47] <;> rfl)) rfl
   (DC.seq (runs Orc.none_ok 20 bt14 (by kernel_rfl) (r := ⟨.norm, ⟨_, []⟩, σ5, []⟩) (by simp only [go_sem, seval, if_pos rfl] <;> rfl)) rfl (DC.ret _ _ _))))))))))
   (by simp only [go_sem, seval, if_pos rfl, Try.f14]) rfl rfl) ?_
  intro c hc hcn
  simp at hc ⊢
  omega
 ·rw [nx5, nx4]; show σ.next ≤ σ.next + 3; omega
 ·intro c hc b1 b2 b3
  rw [kp5 c (by omega) b3, kp4 c b3, St.get_set, if_neg (Ne.symm b1), St.get_put, if_neg (Ne.symm b2), St.get_new, if_neg (by show ¬ σ.next + 2 = c; omega), St.get_new, if_neg (by show ¬ σ.next + 1 = c; omega), St.get_set, if_neg (Ne.symm b1), St.get_new, if_neg (by omega)]
end Go.Ab
namespace Go.Ab
open Go.Proofs
structure HE2 (σ : St) (h e m : Nat) (t : Int) : Prop where
 gh : σ.get h = some (.cells [.map (some m), .slice (some ⟨e, 0, some 0⟩) 0 0, .int .i64 t] false)
 ge : σ.get e = some (.cells [] false)
 gm : ∃ ck, σ.get m = some (.map [] ck)
 ne : h ≠ m ∧ e ≠ h ∧ e ≠ m
 lt : h < σ.next ∧ m < σ.next ∧ e < σ.next
theorem append_none0 {σ : St} {e b : Nat} {x : Item} (he : σ.get e = some (.cells [] false)) (hg : σ.get b = some (.cells x.cells false)) :
  opAppend (cP Try.prog).T σ 37 37 (.slice (some ⟨e, 0, some 0⟩) 0 0) (.slice (some ⟨b, 0, some 0⟩) 1 1) = some (.new (.cells x.cells false) (.slice (some ⟨σ.next, 0, some 6⟩) 1 1) [e, b]) := by
 have h37 : (cP Try.prog).T.und 37 = some (.slice 31) := (cx_und 37).trans Try.underlying37
 have h31 : (cP Try.prog).T.info 31 = some Try.t31 := (cx_info 31).trans info31
 simp only [opAppend, h37, h31, srcLen, Try.t31, srcCells, hg, he]
 simp [isSeqD, Item.cells, oneCells, plain, plainL, vcells]
theorem put_first2 {σ : St} {h e m : Nat} {t : Int} (H : HE2 σ h e m t) (id kn kd : Int) (h0 : 0 ≤ id) (h1 : id ≤ 4611686018427387904) (hk : okR kn kd = true) (ht : 0 ≤ t) (ht1 : t < 1000000) :
  ∃ σ' a, DCall Try.prog 14 [.pointer (some ⟨h, 0, none⟩), .int .i64 id, .agg ⟨[.int .i64 kn, .int .i64 kd]⟩] σ (.ret (.int .i64 0)) σ' [h, m] ∧ HI σ' h a m [⟨id, kn, kd, t + 1⟩] 1 (t + 1) ∧ σ.next ≤ a := by
 obtain ⟨ck, gm⟩ := H.gm
 have gh := H.gh
 have lt := H.lt
 have ne := H.ne.1
 have ge := H.ge
 have hk' := hk
 simp only [okR, Bool.and_eq_true, decide_eq_true_eq] at hk'
 let x : Item := ⟨id, kn, kd, t + 1⟩
 let σ1 := σ.new (.cells [.int .i64 kn, .int .i64 kd] false)
 have gm1 : σ1.get m = some (.map [] ck) := by rw [St.get_new, if_neg (by omega)]; exact gm
 have gh1 : σ1.get h = some (.cells [.map (some m), .slice (some ⟨e, 0, some 0⟩) 0 0, .int .i64 t] false) := by rw [St.get_new, if_neg (by omega)]; exact gh
 have gk1 : σ1.get σ.next = some (.cells [.int .i64 kn, .int .i64 kd] false) := by rw [St.get_new, if_pos rfl]
 have hno := none_call gh1
 have hlo := map_not (ok := true) (k := id) (f := fun _ => none) gm1 KV.nil (fun _ => rfl) rfl
 let σ2 := σ1.set h (.cells [.map (some m), .slice (some ⟨e, 0, some 0⟩) 0 0, .int .i64 (t + 1)] false)
 have gh2 : σ2.get h = some (.cells [.map (some m), .slice (some ⟨e, 0, some 0⟩) 0 0, .int .i64 (t + 1)] false) := by rw [St.get_set, if_pos rfl]
 have gk2 : σ2.get σ.next = some (.cells [.int .i64 kn, .int .i64 kd] false) := by rw [St.get_set, if_neg (by omega)]; exact gk1
 let σ3 := ((σ2.new (.cells x.cells false)).new (.cells x.cells false)).set h (.cells [.map (some m), .slice (some ⟨σ.next + 2, 0, some 6⟩) 1 1, .int .i64 (t + 1)] false)
 have ge2 : (σ2.new (.cells x.cells false)).get e = some (.cells [] false) := by
  rw [St.get_new, if_neg (show ¬ σ2.next = e from fun h => by have h' : σ.next + 1 = e := h; omega), St.get_set, if_neg (Ne.symm H.ne.2.1), St.get_new, if_neg (by omega)]
  exact ge
 have hap := append_none0 (σ := σ2.new (.cells x.cells false)) (b := σ.next + 1) (x := x) ge2 (by rw [St.get_new, if_pos (show σ2.next = σ.next + 1 from rfl)])
 have H3 : HS σ3 h (σ.next + 2) m [x] 1 (t + 1) (fun _ => none) := by
  refine ⟨by rw [St.get_set, if_pos rfl]; rfl, ⟨[], ?_, rfl⟩, ⟨[], ck, ?_, KV.nil, fun _ => rfl⟩, ⟨by omega, ne, by omega⟩, ?_⟩
  ·rw [St.get_set, if_neg (by omega), St.get_new, if_pos (show (σ2.new (.cells x.cells false)).next = σ.next + 2 from rfl)]; simp [cellsL]
  ·rw [St.get_set, if_neg ne, St.get_new, if_neg (by show ¬ σ.next + 2 = m; omega), St.get_new, if_neg (by show ¬ σ.next + 1 = m; omega), St.get_set, if_neg ne]; exact gm1
  ·show h < σ.next + 3 ∧ σ.next + 2 < σ.next + 3 ∧ m < σ.next + 3; omega
 obtain ⟨σ4, d4, H4, nx4, kp4⟩ := lay_call H3 (i := 0) (x := x) rfl
 have hxo : x.ok = true := by
  simp only [Item.ok, Bool.and_eq_true, okI, decide_eq_true_eq]
  exact ⟨⟨by show _ ≤ id ∧ id < _; omega, hk⟩, by show _ ≤ t + 1 ∧ t + 1 < _; omega⟩
 have I4 : HI σ4 h (σ.next + 2) m [x] 1 (t + 1) := by
  refine ⟨⟨_, H4, ?_⟩, fun z hz => by simp only [List.mem_singleton] at hz; rw [hz]; exact hxo, by simp⟩
  have := Idx.add (L := []) (f := fun _ => none) ⟨fun i z h => by simp at h, fun k v h => by cases h⟩ (x := x) rfl
  exact this
 obtain ⟨σ5, d5, H5, nx5, kp5⟩ := rise_call I4 (n := 0) (by simp)
 have gh3 := H3.gh
 have gh4 := H4.gh
 have n2' : ¬ id < 0 := by omega
 have n3 : ¬ 4611686018427387904 < id := by omega
 have e2 : ((0 : Int) != 0) = false := by decide
 have w1 : IntKind.i64.wrap (t + 1) = t + 1 := by rw [IntKind.wrap_i64]; omega
 have w0 : IntKind.i64.wrap 0 = 0 := by decide
 refine ⟨σ5, σ.next + 2, ?_, H5, by omega⟩
 have nh2 : ¬ σ2.next ≤ h := by show ¬ σ.next + 1 ≤ h; omega
 have nk2 : ¬ σ2.next ≤ σ.next := by show ¬ σ.next + 1 ≤ σ.next; omega
 have ns : ¬ σ2.next = h := by show ¬ σ.next + 1 = h; omega
 refine DCall.weaken2 (l := [] ++ (([] ++ []) ++ ([] ++ ([] ++ ([h] ++ ([h] ++ ([m] ++ ([σ.next + 2, m] ++ ([] ++ []))))))))) (callsD Try.func14 rfl
  (DC.seq (runs Orc.none_ok 20 bt14 (by kernel_rfl) (r := ⟨.norm, ⟨_, []⟩, σ1, []⟩) (by simp only [go_sem, seval, if_pos rfl, Try.f14] <;> rfl)) rfl
  (DC.seq (DC.seq (runs (one_ok' Orc.none_ok hno) 20 bt14 (by kernel_rfl) (r := ⟨.norm, ⟨_, []⟩, σ1, []⟩) (by simp only [go_sem, seval, if_pos rfl, Orc.one_call, body44] <;> rfl)) rfl (DC.cond (t := false) (by simp only [go_sem, seval, if_pos rfl]) (DC.skip _ _ _))) rfl
  (DC.seq (runs Orc.none_ok 20 bt14 (by kernel_rfl) (r := ⟨.norm, ⟨_, []⟩, σ1, []⟩) (by simp only [go_sem, seval, if_pos rfl, hlo, gh1, Try.underlying96, info96, Try.t96, Try.underlying97, info97, Try.t97, Try.underlying98, info98, Try.t98, Try.underlying99, info99, Try.t99, Try.underlying100, info100, Try.t100] <;> rfl)) rfl
  (DC.seq (runs p8_ok 20 bt14 (by kernel_rfl) (r := ⟨.norm, ⟨_, []⟩, σ1, []⟩) (by simp only [go_sem, seval, if_pos rfl, opLen, p8, p7, p6, p5, p4, p3, hk'.1.1, hk'.1.2, hk'.2, n2', n3, e2, gk1, gh1, Try.underlying2, info2, Try.t2, Try.underlying3, info3, Try.t3, Try.underlying4, info4, Try.t4, Try.underlying24, info24, Try.t24, Try.underlying28, info28, Try.t28, Try.underlying37, info37, Try.t37, Try.underlying99, info99, Try.t99, Try.underlying100, info100, Try.t100, body45] <;> rfl)) rfl
  (DC.seq (runs Orc.none_ok 20 bt14 (by kernel_rfl) (r := ⟨.norm, ⟨_, []⟩, σ2, [h]⟩) (by simp only [go_sem, seval, if_pos rfl, σ2, gh1, w1, Try.underlying2, info2, Try.t2, Try.underlying99, info99, Try.t99, Try.underlying100, info100, Try.t100] <;> rfl)) rfl
  (DC.seq (runs Orc.none_ok 20 bt14 (by kernel_rfl) (r := ⟨.norm, ⟨_, []⟩, σ3, [h]⟩) (by
   have hap' := hap
   have nx2 : σ2.next = σ.next + 1 := rfl
   have nhh : ¬ σ.next + 1 ≤ h := by omega
   have nss : ¬ σ.next + 1 = h := by omega
   have nss2 : ¬ σ.next + 2 = h := by omega
   simp only [x, Item.cells, St.next_new, nx2] at hap'
   simp only [go_sem, seval, if_pos rfl, bt14, zerosN, σ3, x, Item.cells, gh2, gk2, hap', nx2, nhh, nss, nss2, Try.underlying2, info2, Try.t2, Try.underlying24, info24, Try.t24, Try.underlying30, info30, Try.t30, Try.underlying31, info31, Try.t31, Try.underlying37, info37, Try.t37, Try.underlying99, info99, Try.t99, Try.underlying100, info100, Try.t100] <;> rfl)) rfl
  (DC.seq (runs (one_ok' Orc.none_ok d4) 20 bt14 (by kernel_rfl) (r := ⟨.norm, ⟨_, []⟩, σ4, [m]⟩) (by simp only [go_sem, seval, if_pos rfl, opLen, Orc.one_call, gh3, w0, Int.natCast_zero, Int.natCast_one, Try.underlying3, info3, Try.t3, Try.underlying37, info37, Try.t37, Try.underlying99, info99, Try.t99, Try.underlying100, info100, Try.t100, body46] <;> rfl)) rfl
  (DC.seq (runs (one_ok' Orc.none_ok d5) 20 bt14 (by kernel_rfl) (r := ⟨.norm, ⟨_, []⟩, σ5, [σ.next + 2, m]⟩) (by simp only [go_sem, seval, if_pos rfl, opLen, Orc.one_call, gh4, w0, Int.natCast_zero, Int.natCast_one, Try.underlying3, info3, Try.t3, Try.underlying37, info37, Try.t37, Try.underlying99, info99, Try.t99, Try.underlying100, info100, Try.t100, body47] <;> rfl)) rfl
  (DC.seq (runs Orc.none_ok 20 bt14 (by kernel_rfl) (r := ⟨.norm, ⟨_, []⟩, σ5, []⟩) (by simp only [go_sem, seval, if_pos rfl] <;> rfl)) rfl (DC.ret _ _ _))))))))))
  (by simp only [go_sem, seval, if_pos rfl, Try.f14]) rfl rfl) ?_
 intro c hc hcn
 simp at hc ⊢
 omega
end Go.Ab
namespace Go.Ab
theorem cross_le {n₁ d₁ n₂ d₂ n₃ d₃ : Int} (h1 : 0 < d₁) (h2 : 0 < d₂) (h3 : 0 < d₃) (a : n₁ * d₂ ≤ n₂ * d₁) (b : n₂ * d₃ ≤ n₃ * d₂) : n₁ * d₃ ≤ n₃ * d₁ := by
 have x := Int.mul_le_mul_of_nonneg_right a (Int.le_of_lt h3)
 have y := Int.mul_le_mul_of_nonneg_right b (Int.le_of_lt h1)
 refine Int.le_of_mul_le_mul_right (a := d₂) ?_ h2
 have e1 : n₁ * d₂ * d₃ = n₁ * d₃ * d₂ := by grind
 have e2 : n₂ * d₁ * d₃ = n₂ * d₃ * d₁ := by grind
 have e3 : n₃ * d₂ * d₁ = n₃ * d₁ * d₂ := by grind
 omega
theorem cmpR_le {n₁ d₁ n₂ d₂ : Int} : cmpR n₁ d₁ n₂ d₂ ≤ 0 ↔ n₁ * d₂ ≤ n₂ * d₁ := by
 unfold cmpR
 split
 ·omega
 ·split <;> omega
theorem cmpR_zero {n₁ d₁ n₂ d₂ : Int} : cmpR n₁ d₁ n₂ d₂ = 0 ↔ n₁ * d₂ = n₂ * d₁ := by
 unfold cmpR
 split
 ·omega
 ·split <;> omega
theorem cmpI_le {x y : Int} : cmpI x y ≤ 0 ↔ x ≤ y := by
 unfold cmpI
 split
 ·omega
 ·split <;> omega
def Item.pos (x : Item) : Prop := 0 < x.d
theorem Item.ok_pos {x : Item} (h : x.ok = true) : x.pos := by
 simp only [Item.ok, okR, Bool.and_eq_true, decide_eq_true_eq] at h
 have := h.1.2.2.1
 show 0 < x.d
 omega
theorem cmpItem_le {x y : Item} : cmpItem x y ≤ 0 ↔ x.n * y.d < y.n * x.d ∨ x.n * y.d = y.n * x.d ∧ x.turn ≤ y.turn := by
 unfold cmpItem
 split
 ·rename_i h
  rw [cmpR_zero] at h
  rw [cmpI_le]; omega
 ·rename_i h
  have h2 := h
  rw [cmpR_zero] at h2
  rw [cmpR_le]; omega
theorem cmpItem_total (x y : Item) : cmpItem x y ≤ 0 ∨ cmpItem y x ≤ 0 := by
 rw [cmpItem_le, cmpItem_le]; omega
theorem cmpItem_trans {x y z : Item} (hx : x.pos) (hy : y.pos) (hz : z.pos) (a : cmpItem x y ≤ 0) (b : cmpItem y z ≤ 0) : cmpItem x z ≤ 0 := by
 rw [cmpItem_le] at *
 have h1 : x.n * z.d ≤ z.n * x.d := cross_le (n₂ := y.n) hx hy hz (by omega) (by omega)
 by_cases e : x.n * z.d = z.n * x.d
 ·refine .inr ⟨e, ?_⟩
  have h2 : y.n * x.d ≤ x.n * y.d := cross_le (n₂ := z.n) hy hz hx (by omega) (by omega)
  have h3 : z.n * y.d ≤ y.n * z.d := cross_le (n₂ := x.n) hz hx hy (by omega) (by omega)
  omega
 ·exact .inl (by omega)
end Go.Ab
namespace Go.Ab
def LeA (L : List Item) (i j : Nat) : Prop := ∀ x y, L[i]? = some x → L[j]? = some y → cmpItem x y ≤ 0
def AllPos (L : List Item) : Prop := ∀ x ∈ L, x.pos
def Hp (L : List Item) : Prop := ∀ i, 0 < i → LeA L ((i - 1) / 2) i
def Over (L : List Item) (n : Nat) : Prop := 0 < n → ∀ i, 0 < i → (i - 1) / 2 = n → LeA L ((n - 1) / 2) i
def HpR (L : List Item) (n : Nat) : Prop := (∀ i, 0 < i → i ≠ n → LeA L ((i - 1) / 2) i) ∧ Over L n
def HpS (L : List Item) (n : Nat) : Prop := (∀ i, 0 < i → (i - 1) / 2 ≠ n → LeA L ((i - 1) / 2) i) ∧ Over L n
def HpX (L : List Item) (n : Nat) : Prop := (∀ i, 0 < i → i ≠ n → (i - 1) / 2 ≠ n → LeA L ((i - 1) / 2) i) ∧ Over L n
theorem swapL_pos {L : List Item} {i j : Nat} {x y : Item} (h : AllPos L) (hi : L[i]? = some x) (hj : L[j]? = some y) : AllPos (swapL L i j x y) := fun z hz => by
 obtain ⟨q, hq⟩ := List.getElem?_of_mem hz
 rw [swapL_get hi hj] at hq
 split at hq
 ·cases hq; exact h _ (List.mem_of_getElem? hi)
 ·split at hq
  ·cases hq; exact h _ (List.mem_of_getElem? hj)
  ·exact h _ (List.mem_of_getElem? hq)
theorem pos_at {L : List Item} {i : Nat} {x : Item} (h : AllPos L) (hi : L[i]? = some x) : x.pos := h _ (List.mem_of_getElem? hi)
theorem HpR.step {L : List Item} {n : Nat} {x y : Item} (hR : HpR L n) (hp : AllPos L) (hn : 0 < n) (hx : L[(n - 1) / 2]? = some x) (hy : L[n]? = some y) (hc : ¬ cmpItem x y ≤ 0) : HpR (swapL L ((n - 1) / 2) n x y) ((n - 1) / 2) := by
 have hyx : cmpItem y x ≤ 0 := (cmpItem_total x y).resolve_left hc
 constructor
 ·intro i hi hne u v hu hv
  rw [swapL_get hx hy] at hu hv
  by_cases e : i = n
  ·subst e
   rw [if_pos rfl] at hv; cases hv
   rw [if_neg (by omega), if_pos rfl] at hu; cases hu
   exact hyx
  ·rw [if_neg e, if_neg hne] at hv
   by_cases e2 : (i - 1) / 2 = (n - 1) / 2
   ·rw [if_neg (by omega), if_pos e2] at hu; cases hu
    exact cmpItem_trans (pos_at hp hy) (pos_at hp hx) (pos_at hp hv) hyx (hR.1 i hi e x v (by rw [e2]; exact hx) hv)
   ·by_cases e3 : (i - 1) / 2 = n
    ·rw [if_pos e3] at hu; cases hu
     exact hR.2 hn i hi e3 x v hx hv
    ·rw [if_neg e3, if_neg e2] at hu
     exact hR.1 i hi e u v hu hv
 ·intro h0 i hi he u v hu hv
  rw [swapL_get hx hy] at hu hv
  rw [if_neg (by omega), if_neg (by omega)] at hu
  have h1 := hR.1 ((n - 1) / 2) h0 (by omega) u x hu hx
  by_cases e : i = n
  ·subst e
   rw [if_pos rfl] at hv; cases hv
   exact h1
  ·rw [if_neg e, if_neg (by omega)] at hv
   exact cmpItem_trans (pos_at hp hu) (pos_at hp hx) (pos_at hp hv) h1 (hR.1 i hi e x v (by rw [he]; exact hx) hv)
theorem rise_heap : ∀ (k n : Nat) (L : List Item), n < k → n < L.length → AllPos L → HpR L n → Hp (riseL k L n)
 | 0, n, L, h, _, _, _ => absurd h (by omega)
 | k + 1, n, L, h, hl, hp, hR => by
  simp only [riseL]
  split
  ·rename_i e
   subst e
   exact fun i hi => hR.1 i hi (by omega)
  ·rename_i e
   split
   ·rename_i x y hx hy
    split
    ·rename_i hc
     intro i hi
     by_cases e2 : i = n
     ·subst e2
      intro u v hu hv
      rw [hx] at hu; rw [hy] at hv; cases hu; cases hv
      exact hc
     ·exact hR.1 i hi e2
    ·rename_i hc
     exact rise_heap k _ _ (by omega) (by rw [swapL_length]; omega) (swapL_pos hp hx hy) (hR.step hp (by omega) hx hy hc)
   ·rename_i hno
    exact absurd (hno _ _ (List.getElem?_eq_getElem (by omega)) (List.getElem?_eq_getElem hl)) id
theorem less1_le {L : List Item} {n k : Nat} : LeA L (less1 L n k) n ∧ LeA L (less1 L n k) k := by
 unfold less1
 split
 ·rename_i y x hy hx
  split
  ·rename_i hc
   refine ⟨fun u v hu hv => ?_, fun u v hu hv => ?_⟩
   ·rw [hy] at hu; rw [hx] at hv; cases hu; cases hv; omega
   ·rw [hu] at hv; cases hv
    rw [cmpItem_le]; omega
  ·rename_i hc
   refine ⟨fun u v hu hv => ?_, fun u v hu hv => ?_⟩
   ·rw [hu] at hv; cases hv
    rw [cmpItem_le]; omega
   ·rw [hx] at hu; rw [hy] at hv; cases hu; cases hv
    rcases cmpItem_total x y with h | h
    ·exact h
    ·have h0 : cmpItem y x = 0 := by omega
     have : cmpItem x y ≤ 0 := by
      unfold cmpItem at h0 ⊢
      unfold cmpR cmpI at *
      split at h0 <;> split <;> split at h0 <;> omega
     exact this
 ·rename_i hno
  refine ⟨fun u v hu hv => ?_, fun u v hu hv => ?_⟩
  ·rw [hu] at hv; cases hv
   rw [cmpItem_le]; omega
  ·exact absurd (hno _ _ hv hu) id
theorem LeA.refl {L : List Item} {i : Nat} : LeA L i i := fun u v hu hv => by
 rw [hu] at hv; cases hv
 rw [cmpItem_le]; omega
theorem leastL_le {L : List Item} {n : Nat} (hp : AllPos L) (hn : n < L.length) : LeA L (leastL L n) n ∧ LeA L (leastL L n) (2 * n + 1) ∧ LeA L (leastL L n) (2 * n + 2) := by
 have a := less1_le (L := L) (n := n) (k := 2 * n + 1)
 have b := less1_le (L := L) (n := less1 L n (2 * n + 1)) (k := 2 * n + 2)
 have hm : less1 L n (2 * n + 1) < L.length := less1_lt hn
 obtain ⟨w, hw⟩ : ∃ w, L[less1 L n (2 * n + 1)]? = some w := ⟨_, List.getElem?_eq_getElem hm⟩
 refine ⟨fun u v hu hv => ?_, fun u v hu hv => ?_, b.2⟩
 ·exact cmpItem_trans (pos_at hp hu) (pos_at hp hw) (pos_at hp hv) (b.1 u w hu hw) (a.1 w v hw hv)
 ·exact cmpItem_trans (pos_at hp hu) (pos_at hp hw) (pos_at hp hv) (b.1 u w hu hw) (a.2 w v hw hv)
theorem leastL_is {L : List Item} {n : Nat} (h : leastL L n ≠ n) : leastL L n = 2 * n + 1 ∨ leastL L n = 2 * n + 2 := by
 unfold leastL at h ⊢
 rcases less1_ge (L := L) (n := less1 L n (2 * n + 1)) (k := 2 * n + 2) with e | e
 ·rw [e] at h ⊢
  rcases less1_ge (L := L) (n := n) (k := 2 * n + 1) with e2 | e2
  ·exact absurd e2 h
  ·exact .inl e2
 ·exact .inr e
theorem sink_heap : ∀ (f n : Nat) (L : List Item), L.length ≤ f + n → AllPos L → HpS L n → Hp (sinkL f L n)
 | 0, n, L, h, hp, hS => by
  simp only [sinkL]
  intro i hi
  by_cases e : (i - 1) / 2 = n
  ·intro u v hu hv
   have : i < L.length := (List.getElem?_eq_some_iff.1 hv).1
   omega
  ·exact hS.1 i hi e
 | f + 1, n, L, h, hp, hS => by
  simp only [sinkL]
  by_cases hn : n < L.length
  ·have hl := leastL_le hp hn
   split
   ·rename_i e
    rw [e] at hl
    intro i hi
    by_cases e2 : (i - 1) / 2 = n
    ·rw [e2]
     rcases (by omega : i = 2 * n + 1 ∨ i = 2 * n + 2) with e3 | e3
     ·rw [e3]; exact hl.2.1
     ·rw [e3]; exact hl.2.2
    ·exact hS.1 i hi e2
   ·rename_i e
    have hm := leastL_lt hn
    have hi2 := leastL_is e
    generalize leastL L n = m at *
    split
    ·rename_i x y hx hy
     refine sink_heap f m _ (by rw [swapL_length]; omega) (swapL_pos hp hx hy) ⟨?_, ?_⟩
     ·intro i hi hne u v hu hv
      rw [swapL_get hx hy] at hu hv
      by_cases e1 : i = m
      ·subst e1
       rw [if_neg (by omega), if_pos rfl] at hv; cases hv
       rw [if_pos (by omega)] at hu; cases hu
       exact hl.1 x y hx hy
      ·by_cases e2 : (i - 1) / 2 = n
       ·rw [if_pos e2] at hu; cases hu
        rw [if_neg (by omega), if_neg e1] at hv
        rcases (by omega : i = 2 * n + 1 ∨ i = 2 * n + 2) with e3 | e3
        ·rw [e3] at hv; exact hl.2.1 x v hx hv
        ·rw [e3] at hv; exact hl.2.2 x v hx hv
       ·rw [if_neg e2, if_neg hne] at hu
        by_cases e3 : i = n
        ·subst e3
         rw [if_pos rfl] at hv; cases hv
         exact hS.2 hi m (by omega) (by omega) u x hu hx
        ·rw [if_neg e3, if_neg e1] at hv
         exact hS.1 i hi e2 u v hu hv
     ·intro h0 i hi he u v hu hv
      rw [swapL_get hx hy] at hu hv
      rw [if_pos (by omega)] at hu; cases hu
      rw [if_neg (by omega), if_neg (by omega)] at hv
      exact hS.1 i hi (by omega) x v (by rw [he]; exact hx) hv
    ·rename_i hno
     exact absurd (hno _ _ (List.getElem?_eq_getElem hm) (List.getElem?_eq_getElem hn)) id
  ·have e : leastL L n = n := by
    have g : L[n]? = none := List.getElem?_eq_none (by omega)
    have e1 : ∀ k, less1 L n k = n := fun k => by
     unfold less1
     rw [g]
     split <;> first | rfl | (rename_i q; cases q)
    unfold leastL
    rw [e1, e1]
   rw [if_pos e]
   intro i hi
   by_cases e : (i - 1) / 2 = n
   ·intro u v hu hv
    have : i < L.length := (List.getElem?_eq_some_iff.1 hv).1
    omega
   ·exact hS.1 i hi e
theorem Hp.over {L : List Item} (h : Hp L) (hp : AllPos L) {n : Nat} (hn : n < L.length) : Over L n := fun h0 i hi he u v hu hv => by
 obtain ⟨w, hw⟩ : ∃ w, L[n]? = some w := ⟨_, List.getElem?_eq_getElem hn⟩
 exact cmpItem_trans (pos_at hp hu) (pos_at hp hw) (pos_at hp hv) (h n h0 u w hu hw) (h i hi w v (by rw [he]; exact hw) hv)
theorem Hp.toS {L : List Item} (h : Hp L) (hp : AllPos L) {n : Nat} (hn : n < L.length) : HpS L n := ⟨fun i hi _ => h i hi, h.over hp hn⟩
theorem Hp.toX {L M : List Item} (h : Hp L) (hp : AllPos L) {n : Nat} (hn : n < L.length) (hM : ∀ i v, i ≠ n → M[i]? = some v → L[i]? = some v) : HpX M n := by
 constructor
 ·intro i hi h1 h2 u v hu hv
  exact h i hi u v (hM _ _ h2 hu) (hM _ _ h1 hv)
 ·intro h0 i hi he u v hu hv
  exact h.over hp hn h0 i hi he u v (hM _ _ (by omega) hu) (hM _ _ (by omega) hv)
theorem fix {L : List Item} {n k : Nat} (hX : HpX L n) (hp : AllPos L) (hn : n < L.length) (hk : n < k) : (riseL k L n = L ∧ HpS L n) ∨ Hp (riseL k L n) := by
 cases k with
 | zero => omega
 | succ k =>
  by_cases h0 : n = 0
  ·subst h0
   refine .inl ⟨by simp [riseL], fun i hi h1 => hX.1 i hi (by omega) h1, fun h => absurd h (by omega)⟩
  ·obtain ⟨x, hx⟩ : ∃ x, L[(n - 1) / 2]? = some x := ⟨_, List.getElem?_eq_getElem (by omega)⟩
   obtain ⟨y, hy⟩ : ∃ y, L[n]? = some y := ⟨_, List.getElem?_eq_getElem hn⟩
   by_cases hc : cmpItem x y ≤ 0
   ·refine .inl ⟨by simp [riseL, h0, hx, hy, hc], fun i hi h1 => ?_, hX.2⟩
    by_cases e : i = n
    ·subst e
     intro u v hu hv
     rw [hx] at hu; rw [hy] at hv; cases hu; cases hv
     exact hc
    ·exact hX.1 i hi e h1
   ·refine .inr (rise_heap (k + 1) n L hk hn hp ⟨fun i hi h1 => ?_, hX.2⟩)
    by_cases e : (i - 1) / 2 = n
    ·intro u v hu hv
     rw [e, hy] at hu; cases hu
     exact cmpItem_trans (pos_at hp hy) (pos_at hp hx) (pos_at hp hv) ((cmpItem_total x y).resolve_left hc) (hX.2 (by omega) i hi e x v hx hv)
    ·exact hX.1 i hi h1 e
theorem riseL_pos : ∀ (k : Nat) (L : List Item) (n : Nat), AllPos L → AllPos (riseL k L n)
 | 0, _, _, h => h
 | k + 1, L, n, h => by
  simp only [riseL]
  split
  ·exact h
  ·split
   ·rename_i h1 h2
    split
    ·exact h
    ·exact riseL_pos k _ _ (swapL_pos h h1 h2)
   ·exact h
theorem Hp.root {L : List Item} (h : Hp L) (hp : AllPos L) : ∀ i, LeA L 0 i := by
 intro i
 induction i using Nat.strongRecOn with
 | _ i ih =>
  by_cases h0 : i = 0
  ·subst h0; exact LeA.refl
  ·intro u v hu hv
   have hi : i < L.length := (List.getElem?_eq_some_iff.1 hv).1
   obtain ⟨w, hw⟩ : ∃ w, L[(i - 1) / 2]? = some w := ⟨_, List.getElem?_eq_getElem (by omega)⟩
   exact cmpItem_trans (pos_at hp hu) (pos_at hp hw) (pos_at hp hv) (ih _ (by omega) u w hu hw) (h i (by omega) w v hw hv)
end Go.Ab
namespace Go.Ab
def Dist (L : List Item) : Prop := ∀ (i j : Nat) (x y : Item), L[i]? = some x → L[j]? = some y → x.id = y.id → i = j
theorem Idx.dist {L : List Item} {f : Int → Option Int} (h : Idx L f) : Dist L := fun _ _ _ _ hi hj e => h.inj hi hj e
theorem swapL_mem_iff {L : List Item} {i j : Nat} {x y z : Item} (hi : L[i]? = some x) (hj : L[j]? = some y) : z ∈ swapL L i j x y ↔ z ∈ L := by
 refine ⟨fun h => ?_, swapL_mem hi hj⟩
 obtain ⟨q, hq⟩ := List.getElem?_of_mem h
 rw [swapL_get hi hj] at hq
 split at hq
 ·cases hq; exact List.mem_of_getElem? hi
 ·split at hq
  ·cases hq; exact List.mem_of_getElem? hj
  ·exact List.mem_of_getElem? hq
theorem riseL_mem_iff {z : Item} : ∀ (k : Nat) (L : List Item) (n : Nat), z ∈ riseL k L n ↔ z ∈ L
 | 0, _, _ => Iff.rfl
 | k + 1, L, n => by
  simp only [riseL]
  split
  ·exact Iff.rfl
  ·split
   ·rename_i h1 h2
    split
    ·exact Iff.rfl
    ·exact (riseL_mem_iff k _ _).trans (swapL_mem_iff h1 h2)
   ·exact Iff.rfl
theorem sinkL_mem_iff {z : Item} : ∀ (k : Nat) (L : List Item) (n : Nat), z ∈ sinkL k L n ↔ z ∈ L
 | 0, _, _ => Iff.rfl
 | k + 1, L, n => by
  simp only [sinkL]
  split
  ·exact Iff.rfl
  ·split
   ·rename_i h1 h2
    exact (sinkL_mem_iff k _ _).trans (swapL_mem_iff h1 h2)
   ·exact Iff.rfl
theorem sinkL_length' : ∀ (k : Nat) (L : List Item) (n : Nat), (sinkL k L n).length = L.length
 | 0, _, _ => rfl
 | k + 1, L, n => by
  simp only [sinkL]
  split
  ·rfl
  ·split
   ·rw [sinkL_length', swapL_length]
   ·rfl
theorem mem_set_iff {L : List Item} (hd : Dist L) {n : Nat} {x y z : Item} (hx : L[n]? = some x) : z ∈ L.set n y ↔ z = y ∨ z ∈ L ∧ z.id ≠ x.id := by
 have hn : n < L.length := (List.getElem?_eq_some_iff.1 hx).1
 constructor
 ·intro h
  obtain ⟨q, hq⟩ := List.getElem?_of_mem h
  by_cases e : q = n
  ·subst e
   rw [List.getElem?_set_self hn] at hq; cases hq
   exact .inl rfl
  ·rw [List.getElem?_set_ne (Ne.symm e)] at hq
   exact .inr ⟨List.mem_of_getElem? hq, fun h => e (hd q n z x hq hx h)⟩
 ·rintro (rfl | ⟨h, hne⟩)
  ·exact List.mem_of_getElem? (i := n) (List.getElem?_set_self hn)
  ·obtain ⟨q, hq⟩ := List.getElem?_of_mem h
   have e : q ≠ n := fun e => by
    subst e; rw [hx] at hq; cases hq; exact hne rfl
   exact List.mem_of_getElem? (i := q) (by rw [List.getElem?_set_ne (Ne.symm e)]; exact hq)
theorem AllPos.set {L : List Item} (h : AllPos L) {n : Nat} {y : Item} (hy : y.pos) : AllPos (L.set n y) := fun z hz => by
 rcases List.mem_or_eq_of_mem_set hz with h1 | h1
 ·exact h z h1
 ·rw [h1]; exact hy
theorem set_heap {L : List Item} (h : Hp L) (hp : AllPos L) (hd : Dist L) {n n2 : Nat} {x y z : Item} (hx : L[n]? = some x) (hid : y.id = x.id) (hy : y.pos) (hz : (riseL (n + 1) (L.set n y) n)[n2]? = some z) (hzi : z.id = x.id) :
  Hp (sinkL (L.length + 1) (riseL (n + 1) (L.set n y) n) n2) := by
 have hn : n < L.length := (List.getElem?_eq_some_iff.1 hx).1
 have hp1 := hp.set (n := n) hy
 have hX : HpX (L.set n y) n := h.toX hp hn fun i v hi hv => by rw [List.getElem?_set_ne (Ne.symm hi)] at hv; exact hv
 have hl : (riseL (n + 1) (L.set n y) n).length = L.length := by rw [riseL_length, List.length_set]
 have hp2 := riseL_pos (n + 1) _ n hp1
 rcases fix hX hp1 (by rw [List.length_set]; exact hn) (Nat.lt_succ_self n) with ⟨e, hS⟩ | hH
 ·rw [e] at hz ⊢
  have e2 : n2 = n := by
   by_cases e3 : n2 = n
   ·exact e3
   ·rw [List.getElem?_set_ne (Ne.symm e3)] at hz
    exact hd _ _ _ _ hz hx hzi
  subst e2
  exact sink_heap _ _ _ (by rw [List.length_set]; omega) hp1 hS
 ·exact sink_heap _ _ _ (by omega) hp2 (hH.toS hp2 (List.getElem?_eq_some_iff.1 hz).1)
theorem put_heap {L : List Item} (h : Hp L) (hp : AllPos L) {y : Item} (hy : y.pos) : Hp (riseL (L.length + 1) (L ++ [y]) L.length) := by
 refine rise_heap _ _ _ (by omega) (by simp) (fun z hz => ?_) ⟨fun i hi hne u v hu hv => ?_, fun _ i hi he u v hu hv => ?_⟩
 ·rcases List.mem_append.1 hz with h1 | h1
  ·exact hp z h1
  ·simp only [List.mem_singleton] at h1
   rw [h1]; exact hy
 ·have hl := (List.getElem?_eq_some_iff.1 hv).1
  simp only [List.length_append, List.length_singleton] at hl
  rw [List.getElem?_append_left (by omega)] at hu hv
  exact h i hi u v hu hv
 ·have hl := (List.getElem?_eq_some_iff.1 hv).1
  simp only [List.length_append, List.length_singleton] at hl
  omega
theorem out_heap {L : List Item} (h : Hp L) (hp : AllPos L) {n : Nat} {x : Item} (hx : L[n]? = some x) : Hp (outL L n) := by
 have hn : n < L.length := (List.getElem?_eq_some_iff.1 hx).1
 obtain ⟨y, hy⟩ : ∃ y, L[L.length - 1]? = some y := ⟨_, List.getElem?_eq_getElem (by omega)⟩
 simp only [outL, hx, hy]
 have hM : ∀ i v, i ≠ n → ((swapL L n (L.length - 1) x y).take (L.length - 1))[i]? = some v → L[i]? = some v := fun i v hi hv => by
  have hl := (List.getElem?_eq_some_iff.1 hv).1
  rw [List.length_take, swapL_length] at hl
  rw [List.getElem?_take_of_lt (by omega), swapL_get hx hy, if_neg (by omega), if_neg hi] at hv
  exact hv
 have hp1 : AllPos ((swapL L n (L.length - 1) x y).take (L.length - 1)) := fun z hz => swapL_pos hp hx hy z (List.mem_of_mem_take hz)
 have hX := h.toX hp hn hM
 split
 ·rename_i hlt
  have hl1 : ((swapL L n (L.length - 1) x y).take (L.length - 1)).length = L.length - 1 := by rw [List.length_take, swapL_length]; omega
  have hp2 := riseL_pos (n + 1) _ n hp1
  rcases fix hX hp1 (by omega) (Nat.lt_succ_self n) with ⟨e, hS⟩ | hH
  ·rw [e]
   exact sink_heap _ _ _ (by omega) hp1 hS
  ·exact sink_heap _ _ _ (by rw [riseL_length]; omega) hp2 (hH.toS hp2 (by rw [riseL_length]; omega))
 ·rename_i hlt
  intro i hi u v hu hv
  have hl := (List.getElem?_eq_some_iff.1 hv).1
  rw [List.length_take, swapL_length] at hl
  exact h i hi u v (hM _ _ (by omega) hu) (hM _ _ (by omega) hv)
theorem outL_length {L : List Item} {n : Nat} {x : Item} (hx : L[n]? = some x) : (outL L n).length = L.length - 1 := by
 have hn : n < L.length := (List.getElem?_eq_some_iff.1 hx).1
 obtain ⟨y, hy⟩ : ∃ y, L[L.length - 1]? = some y := ⟨_, List.getElem?_eq_getElem (by omega)⟩
 simp only [outL, hx, hy]
 split
 ·rw [sinkL_length', riseL_length, List.length_take, swapL_length]; omega
 ·rw [List.length_take, swapL_length]; omega
theorem outL_mem {L : List Item} (hd : Dist L) {n : Nat} {x z : Item} (hx : L[n]? = some x) : z ∈ outL L n ↔ z ∈ L ∧ z.id ≠ x.id := by
 have hn : n < L.length := (List.getElem?_eq_some_iff.1 hx).1
 obtain ⟨y, hy⟩ : ∃ y, L[L.length - 1]? = some y := ⟨_, List.getElem?_eq_getElem (by omega)⟩
 have key : z ∈ (swapL L n (L.length - 1) x y).take (L.length - 1) ↔ z ∈ L ∧ z.id ≠ x.id := by
  constructor
  ·intro h
   obtain ⟨q, hq⟩ := List.getElem?_of_mem h
   have hl := (List.getElem?_eq_some_iff.1 hq).1
   rw [List.length_take, swapL_length] at hl
   rw [List.getElem?_take_of_lt (by omega), swapL_get hx hy, if_neg (by omega)] at hq
   split at hq
   ·cases hq
    refine ⟨List.mem_of_getElem? hy, fun e => ?_⟩
    have := hd _ _ _ _ hy hx e
    omega
   ·rename_i hne
    exact ⟨List.mem_of_getElem? hq, fun e => hne (hd _ _ _ _ hq hx e)⟩
  ·rintro ⟨h, hne⟩
   obtain ⟨q, hq⟩ := List.getElem?_of_mem h
   have hql := (List.getElem?_eq_some_iff.1 hq).1
   have e : q ≠ n := fun e => by
    subst e; rw [hx] at hq; cases hq; exact hne rfl
   by_cases e2 : q = L.length - 1
   ·subst e2
    rw [hy] at hq; cases hq
    refine List.mem_of_getElem? (i := n) ?_
    rw [List.getElem?_take_of_lt (by omega), swapL_get hx hy, if_neg (Ne.symm e), if_pos rfl]
   ·refine List.mem_of_getElem? (i := q) ?_
    rw [List.getElem?_take_of_lt (by omega), swapL_get hx hy, if_neg e2, if_neg e]
    exact hq
 simp only [outL, hx, hy]
 split
 ·rw [sinkL_mem_iff, riseL_mem_iff]; exact key
 ·exact key
end Go.Ab
namespace Go.Ab
structure I1 (L : List Item) (n : Nat) : Prop where
 hp : Hp L
 len : L.length = n
 mem : ∀ x ∈ L, 0 ≤ x.id ∧ x.id < n ∧ x.turn = x.id + 1
 all : ∀ j : Nat, j < n → ∃ x ∈ L, x.id = j
def setL (L : List Item) (n n2 : Nat) (y : Item) : List Item := sinkL (L.length + 1) (riseL (n + 1) (L.set n y) n) n2
theorem setL_mem {L : List Item} (hd : Dist L) {n n2 : Nat} {x y z : Item} (hx : L[n]? = some x) : z ∈ setL L n n2 y ↔ z = y ∨ z ∈ L ∧ z.id ≠ x.id := by
 unfold setL
 rw [sinkL_mem_iff, riseL_mem_iff, mem_set_iff hd hx]
theorem setL_length {L : List Item} {n n2 : Nat} {y : Item} : (setL L n n2 y).length = L.length := by
 unfold setL
 rw [sinkL_length', riseL_length, List.length_set]
end Go.Ab
namespace Go.Ab
end Go.Ab
namespace Go.Ab
open Go.Proofs
end Go.Ab
namespace Go.Ab
open Go.Proofs
structure I4 (L : List Item) (t : Int) (k : Nat) : Prop where
 hp : Hp L
 len : L.length ≤ k
 turn : ∀ x ∈ L, x.turn ≤ t
 one : ∀ x ∈ L, ∀ y ∈ L, x.turn = y.turn → x.id = y.id
 t0 : 0 ≤ t
 tk : t ≤ k
theorem I4.nil : I4 [] 0 0 := ⟨fun i hi u v hu _ => by simp at hu, by simp, fun x hx => by simp at hx, fun x hx => by simp at hx, by omega, by omega⟩
theorem I4.more {L : List Item} {t : Int} {k : Nat} (h : I4 L t k) : I4 L t (k + 1) := ⟨h.hp, by have := h.len; omega, h.turn, h.one, h.t0, by have := h.tk; omega⟩
theorem I4.put {L : List Item} {t : Int} {k : Nat} (h : I4 L t k) (hp : AllPos L) (id kn kd : Int) (hk : 0 < kd) : I4 (riseL (L.length + 1) (L ++ [⟨id, kn, kd, t + 1⟩]) L.length) (t + 1) (k + 1) where
 hp := put_heap h.hp hp hk
 len := by rw [riseL_length, List.length_append]; have := h.len; show L.length + 1 ≤ k + 1; omega
 turn := fun x hx => by
  rw [riseL_mem_iff, List.mem_append, List.mem_singleton] at hx
  rcases hx with hx | rfl
  ·have := h.turn x hx; omega
  ·exact Int.le_refl _
 one := fun x hx y hy e => by
  rw [riseL_mem_iff, List.mem_append, List.mem_singleton] at hx hy
  rcases hx with hx | rfl <;> rcases hy with hy | rfl
  ·exact h.one x hx y hy e
  ·have := h.turn x hx; replace e : x.turn = t + 1 := e; omega
  ·have := h.turn y hy; replace e : t + 1 = y.turn := e; omega
  ·rfl
 t0 := by have := h.t0; omega
 tk := by have := h.tk; omega
theorem I4.set {L : List Item} {t : Int} {k : Nat} (h : I4 L t k) (hp : AllPos L) (hd : Dist L) {n n2 : Nat} {x z : Item} (hx : L[n]? = some x) (kn kd : Int) (hk : 0 < kd) (hz : (riseL (n + 1) (L.set n (x.key kn kd)) n)[n2]? = some z) (hzi : z.id = x.id) :
  I4 (setL L n n2 (x.key kn kd)) t (k + 1) where
 hp := set_heap h.hp hp hd hx rfl hk hz hzi
 len := by rw [setL_length]; have := h.len; omega
 turn := fun y hy => by
  rw [setL_mem hd hx] at hy
  rcases hy with rfl | ⟨hy, _⟩
  ·exact h.turn x (List.mem_of_getElem? hx)
  ·exact h.turn y hy
 one := fun y hy z hz e => by
  rw [setL_mem hd hx] at hy hz
  have xm := List.mem_of_getElem? hx
  rcases hy with rfl | ⟨hy, _⟩ <;> rcases hz with rfl | ⟨hz, _⟩
  ·rfl
  ·exact h.one x xm z hz e
  ·exact h.one y hy x xm e
  ·exact h.one y hy z hz e
 t0 := h.t0
 tk := by have := h.tk; omega
theorem I4.out {L : List Item} {t : Int} {k : Nat} (h : I4 L t k) (hp : AllPos L) (hd : Dist L) {n : Nat} {x : Item} (hx : L[n]? = some x) : I4 (outL L n) t (k + 1) where
 hp := out_heap h.hp hp hx
 len := by rw [outL_length hx]; have := h.len; omega
 turn := fun y hy => h.turn y ((outL_mem hd hx).1 hy).1
 one := fun y hy z hz e => h.one y ((outL_mem hd hx).1 hy).1 z ((outL_mem hd hx).1 hz).1 e
 t0 := h.t0
 tk := by have := h.tk; omega
end Go.Ab
namespace Go.Ab
open Go.Proofs
def HV (σ : St) (lo h m : Nat) (L : List Item) (t : Int) : Prop :=
 lo ≤ h ∧ lo ≤ m ∧ lo ≤ σ.next ∧ ((L = [] ∧ HE σ h m t) ∨ ∃ a cap, lo ≤ a ∧ HI σ h a m L cap t)
def From (lo : Nat) (lg : Log) : Prop := ∀ c ∈ lg, lo ≤ c
theorem From.nil {lo : Nat} : From lo [] := fun c hc => by simp at hc
theorem From.append {lo : Nat} {a b : Log} (ha : From lo a) (hb : From lo b) : From lo (a ++ b) := fun c hc => by
 rcases List.mem_append.1 hc with h | h
 ·exact ha c h
 ·exact hb c h
theorem HI.dist {σ : St} {h a m : Nat} {L : List Item} {cap : Nat} {t : Int} (H : HI σ h a m L cap t) : Dist L := by
 obtain ⟨f, _, hi⟩ := H.hs
 exact hi.dist
theorem len_hv {σ : St} {lo h m : Nat} {L : List Item} {t : Int} (H : HV σ lo h m L t) : DCall Try.prog 17 [.pointer (some ⟨h, 0, none⟩)] σ (.ret (.int .i64 L.length)) σ [] := by
 obtain ⟨a1, a2, a3, H⟩ := H
 rcases H with ⟨rfl, H⟩ | ⟨a, cap, a4, H⟩
 ·exact len_call0 H.gh
 ·obtain ⟨f, H1, _⟩ := H.hs
  exact len_call H1.gh
theorem HV.grow {σ σ' : St} {lo h m : Nat} {L : List Item} {t : Int} (H : HV σ lo h m L t) (hn : σ.next ≤ σ'.next) (hg : ∀ c, c < σ.next → σ'.get c = σ.get c) : HV σ' lo h m L t := by
 obtain ⟨a1, a2, a3, H⟩ := H
 refine ⟨a1, a2, by omega, ?_⟩
 rcases H with ⟨rfl, H⟩ | ⟨a, cap, a4, H⟩
 ·obtain ⟨ck, gm⟩ := H.gm
  exact .inl ⟨rfl, ⟨(hg _ H.lt.1).trans H.gh, ⟨ck, (hg _ H.lt.2).trans gm⟩, H.ne, by have := H.lt; omega⟩⟩
 ·exact .inr ⟨a, cap, a4, H.grow hn hg⟩
theorem flat31 : flats Try.prog 31 = some [.int, .int, .int, .int] := by kernel_rfl
theorem lget_put (ts : List Value) (i : Nat) (v : Value) (j : Nat) : lget (ts.set i v) j = if i = j then (if i < ts.length then v else undef) else lget ts j := by
 induction ts generalizing i j with
 | nil => simp [lget]
 | cons x ts ih =>
  cases i with
  | zero => cases j <;> simp [lget]
  | succ i =>
   cases j with
   | zero => simp [lget]
   | succ j => simp [lget, ih]
theorem lgetq_put (ts : List Value) (i : Nat) (v : Value) (j : Nat) : lget? (ts.set i v) j = if i = j then (if i < ts.length then some v else none) else lget? ts j := by
 rw [lget?_eq, lget?_eq, List.getElem?_set]
def nthC : Nat → Code → Code
 | 0, .seq a _ => a
 | n + 1, .seq _ b => nthC n b
 | _, c => c
end Go.Ab
namespace Go.Ab
def Bef (x y : Item) : Prop := 0 < cmpItem y x
theorem bef_iff {x y : Item} : Bef x y ↔ ¬ cmpItem y x ≤ 0 := by unfold Bef; omega
theorem cmpItem_lt {x y : Item} : cmpItem x y < 0 ↔ x.n * y.d < y.n * x.d ∨ x.n * y.d = y.n * x.d ∧ x.turn < y.turn := by
 unfold cmpItem
 split
 ·rename_i h
  rw [cmpR_zero] at h
  unfold cmpI
  split
  ·omega
  ·split <;> omega
 ·rename_i h
  have h2 := h
  rw [cmpR_zero] at h2
  unfold cmpR
  split
  ·omega
  ·split <;> omega
theorem cmpItem_neg {x y : Item} : cmpItem x y < 0 ↔ Bef x y := by
 rw [bef_iff, cmpItem_lt, cmpItem_le]; omega
theorem Bef.le {x y : Item} (h : Bef x y) : cmpItem x y ≤ 0 := by rw [← cmpItem_neg] at h; omega
theorem Bef.asymm {x y : Item} (h : Bef x y) : ¬ Bef y x := fun h' => by
 have := h'.le
 unfold Bef at h
 omega
theorem Bef.irrefl {x : Item} : ¬ Bef x x := fun h => h.asymm h
theorem Bef.trans {x y z : Item} (hx : x.pos) (hy : y.pos) (hz : z.pos) (a : Bef x y) (b : Bef y z) : Bef x z := by
 have la := a.le
 rw [bef_iff] at b ⊢
 intro h
 exact b (cmpItem_trans hz hx hy h la)
theorem bef_of_le {x y : Item} (h : cmpItem x y ≤ 0) (ht : x.turn ≠ y.turn) : Bef x y := by
 rw [← cmpItem_neg, cmpItem_lt]
 rw [cmpItem_le] at h
 omega
def findI (id : Int) : List Item → Nat → Int
 | [], _ => -1
 | x :: L, i => if x.id = id then (i : Int) else findI id L (i + 1)
theorem findI_none {id : Int} : ∀ {L : List Item} {i : Nat}, findI id L i = -1 ↔ ∀ x ∈ L, x.id ≠ id
 | [], i => by simp [findI]
 | x :: L, i => by
  simp only [findI]
  split
  ·rename_i h
   constructor
   ·intro hh; omega
   ·intro hh; exact absurd h (hh x (by simp))
  ·rename_i h
   rw [findI_none]
   simp [h]
theorem findI_some {id : Int} : ∀ {L : List Item} {i : Nat}, findI id L i ≠ -1 → ∃ j x, findI id L i = ((i + j : Nat) : Int) ∧ L[j]? = some x ∧ x.id = id
 | [], i, h => absurd rfl h
 | x :: L, i, h => by
  simp only [findI] at h ⊢
  split at h
  ·rename_i hx
   rw [if_pos hx]
   exact ⟨0, x, rfl, rfl, hx⟩
  ·rename_i hx
   rw [if_neg hx]
   obtain ⟨j, y, h1, h2, h3⟩ := findI_some h
   exact ⟨j + 1, y, by rw [h1]; congr 1; omega, h2, h3⟩
def layPos (x : Item) : List Item → Nat
 | [] => 0
 | y :: L => if 0 < cmpItem y x then 0 else layPos x L + 1
def layL (x : Item) (L : List Item) : List Item := L.take (layPos x L) ++ x :: L.drop (layPos x L)
theorem layPos_le {x : Item} : ∀ L : List Item, layPos x L ≤ L.length
 | [] => Nat.le_refl _
 | y :: L => by
  have := layPos_le (x := x) L
  simp only [layPos, List.length_cons]
  split <;> omega
theorem layL_cons {x y : Item} {L : List Item} : layL x (y :: L) = if 0 < cmpItem y x then x :: y :: L else y :: layL x L := by
 simp only [layL, layPos]
 split <;> simp
theorem layL_mem {x z : Item} : ∀ L : List Item, z ∈ layL x L ↔ z = x ∨ z ∈ L
 | [] => by simp [layL, layPos]
 | y :: L => by
  rw [layL_cons]
  split
  ·simp
  ·rw [List.mem_cons, layL_mem L, List.mem_cons]
   exact or_left_comm
theorem layL_ord {x : Item} (hx : x.pos) : ∀ L : List Item, AllPos L → (∀ y ∈ L, y.turn ≠ x.turn) → L.Pairwise Bef → (layL x L).Pairwise Bef
 | [], _, _, _ => by simp [layL, layPos]
 | y :: L, hp, hne, h => by
  have hy : y.pos := hp y (by simp)
  have h' := List.pairwise_cons.1 h
  rw [layL_cons]
  split
  ·rename_i hc
   refine List.pairwise_cons.2 ⟨fun z hz => ?_, h⟩
   rcases List.mem_cons.1 hz with rfl | hz
   ·exact hc
   ·exact Bef.trans hx hy (hp z (by simp [hz])) hc (h'.1 z hz)
  ·rename_i hc
   refine List.pairwise_cons.2 ⟨fun z hz => ?_, layL_ord hx L (fun z hz => hp z (by simp [hz])) (fun z hz => hne z (by simp [hz])) h'.2⟩
   rcases (layL_mem L).1 hz with rfl | hz
   ·exact bef_of_le (by omega) (hne y (by simp))
   ·exact h'.1 z hz
theorem ord_eq : ∀ A B : List Item, A.Pairwise Bef → B.Pairwise Bef → (∀ z, z ∈ A ↔ z ∈ B) → A = B
 | [], [], _, _, _ => rfl
 | [], b :: B, _, _, h => by have := (h b).2 (by simp); simp at this
 | a :: A, [], _, _, h => by have := (h a).1 (by simp); simp at this
 | a :: A, b :: B, hA, hB, h => by
  have hA' := List.pairwise_cons.1 hA
  have hB' := List.pairwise_cons.1 hB
  have e : a = b := by
   rcases List.mem_cons.1 ((h a).1 (by simp)) with e | e
   ·exact e
   ·rcases List.mem_cons.1 ((h b).2 (by simp)) with e' | e'
    ·exact e'.symm
    ·exact absurd (hB'.1 a e) (hA'.1 b e').asymm
  subst e
  rw [ord_eq A B hA'.2 hB'.2 fun z => ⟨fun hz => ?_, fun hz => ?_⟩]
  ·rcases List.mem_cons.1 ((h z).1 (List.mem_cons_of_mem _ hz)) with e | e
   ·exact absurd (e ▸ hA'.1 z hz) Bef.irrefl
   ·exact e
  ·rcases List.mem_cons.1 ((h z).2 (List.mem_cons_of_mem _ hz)) with e | e
   ·exact absurd (e ▸ hB'.1 z hz) Bef.irrefl
   ·exact e
structure Mir (L R : List Item) : Prop where
 mem : ∀ z, z ∈ R ↔ z ∈ L
 ord : R.Pairwise Bef
structure Turns (L : List Item) (t : Int) : Prop where
 le : ∀ x ∈ L, x.turn ≤ t
 inj : ∀ x ∈ L, ∀ y ∈ L, x.turn = y.turn → x.id = y.id
theorem Mir.nil : Mir [] [] := ⟨fun z => Iff.rfl, .nil⟩
theorem Mir.eq {L R R' : List Item} (h : Mir L R) (h' : Mir L R') : R = R' := ord_eq R R' h.ord h'.ord fun z => (h.mem z).trans (h'.mem z).symm
theorem Mir.pos {L R : List Item} (h : Mir L R) (hp : AllPos L) : AllPos R := fun z hz => hp z ((h.mem z).1 hz)
theorem dist_mem {L : List Item} (hd : Dist L) {x y : Item} (hx : x ∈ L) (hy : y ∈ L) (e : x.id = y.id) : x = y := by
 obtain ⟨i, hi⟩ := List.getElem?_of_mem hx
 obtain ⟨j, hj⟩ := List.getElem?_of_mem hy
 obtain rfl := hd i j x y hi hj e
 rw [hi] at hj
 exact Option.some.inj hj
theorem ord_at {R : List Item} (h : R.Pairwise Bef) {i j : Nat} {x y : Item} (hi : R[i]? = some x) (hj : R[j]? = some y) (hij : i < j) : Bef x y := by
 obtain ⟨h1, rfl⟩ := List.getElem?_eq_some_iff.1 hi
 obtain ⟨h2, rfl⟩ := List.getElem?_eq_some_iff.1 hj
 exact List.pairwise_iff_getElem.1 h i j h1 h2 hij
theorem Mir.dist {L R : List Item} (h : Mir L R) (hd : Dist L) : Dist R := fun i j x y hi hj e => by
 obtain rfl := dist_mem hd ((h.mem x).1 (List.mem_of_getElem? hi)) ((h.mem y).1 (List.mem_of_getElem? hj)) e
 rcases Nat.lt_trichotomy i j with h1 | h1 | h1
 ·exact absurd (ord_at h.ord hi hj h1) Bef.irrefl
 ·exact h1
 ·exact absurd (ord_at h.ord hj hi h1) Bef.irrefl
theorem erase_mem {R : List Item} (hd : Dist R) {j : Nat} {x z : Item} (hx : R[j]? = some x) : z ∈ R.eraseIdx j ↔ z ∈ R ∧ z.id ≠ x.id := by
 rw [List.mem_eraseIdx_iff_getElem?]
 constructor
 ·rintro ⟨i, hi, hz⟩
  exact ⟨List.mem_of_getElem? hz, fun e => hi (hd i j z x hz hx e)⟩
 ·rintro ⟨hz, he⟩
  obtain ⟨i, hi⟩ := List.getElem?_of_mem hz
  refine ⟨i, fun e => he ?_, hi⟩
  subst e
  rw [hi] at hx
  rw [Option.some.inj hx]
theorem erase_ord {R : List Item} (h : R.Pairwise Bef) (j : Nat) : (R.eraseIdx j).Pairwise Bef := h.sublist (List.eraseIdx_sublist ..)
theorem Mir.put {L R : List Item} {t : Int} (h : Mir L R) (hp : AllPos L) (ht : Turns L t) {x : Item} (hx : x.pos) (hxt : x.turn = t + 1) : Mir (riseL (L.length + 1) (L ++ [x]) L.length) (layL x R) where
 mem z := by rw [layL_mem, riseL_mem_iff, List.mem_append, List.mem_singleton, h.mem]; exact or_comm
 ord := layL_ord hx R (h.pos hp) (fun y hy => by have := ht.le y ((h.mem y).1 hy); omega) h.ord
theorem Mir.set {L R : List Item} {t : Int} (h : Mir L R) (hp : AllPos L) (hd : Dist L) (ht : Turns L t) {n n2 j : Nat} {x y : Item} (hx : L[n]? = some x) (hj : R[j]? = some x) (hid : y.id = x.id) (hyt : y.turn = x.turn) (hy : y.pos) : Mir (setL L n n2 y) (layL y (R.eraseIdx j)) where
 mem z := by rw [layL_mem, setL_mem hd hx, erase_mem (h.dist hd) hj, h.mem]
 ord := layL_ord hy _ (fun z hz => hp z ((h.mem z).1 ((erase_mem (h.dist hd) hj).1 hz).1)) (fun z hz => fun e => by
  obtain ⟨h1, h2⟩ := (erase_mem (h.dist hd) hj).1 hz
  exact h2 (ht.inj z ((h.mem z).1 h1) x (List.mem_of_getElem? hx) (e.trans hyt))) (erase_ord h.ord j)
theorem Mir.out {L R : List Item} (h : Mir L R) (hd : Dist L) {n j : Nat} {x : Item} (hx : L[n]? = some x) (hj : R[j]? = some x) : Mir (outL L n) (R.eraseIdx j) where
 mem z := by rw [outL_mem hd hx, erase_mem (h.dist hd) hj, h.mem]
 ord := erase_ord h.ord j
theorem Mir.least {L R : List Item} (h : Mir L R) (hp : AllPos L) (hh : Hp L) {x : Item} (hx : L[0]? = some x) : R[0]? = some x := by
 have hm := (h.mem x).2 (List.mem_of_getElem? hx)
 cases R with
 | nil => simp at hm
 | cons a R =>
  rcases List.mem_cons.1 hm with rfl | hm
  ·rfl
  ·have ho := (List.pairwise_cons.1 h.ord).1 x hm
   obtain ⟨i, hi⟩ := List.getElem?_of_mem ((h.mem a).1 (by simp))
   have := hh.root hp i x a hx hi
   unfold Bef at ho
   omega
theorem Mir.empty {L R : List Item} (h : Mir L R) : L = [] ↔ R = [] := by
 rw [List.eq_nil_iff_forall_not_mem, List.eq_nil_iff_forall_not_mem]
 exact forall_congr' fun z => not_congr (h.mem z).symm
def ltI (x y : Item) : Bool := x.ok && (!y.ok || decide (cmpItem x y < 0))
theorem swo_ltI : Sort.SWO ltI where
 irrefl x := by
  have h : ¬ cmpItem x x < 0 := by rw [cmpItem_neg]; exact Bef.irrefl
  cases hx : x.ok <;> simp [ltI, hx, h]
 trans x y z h1 h2 := by
  simp only [ltI, Bool.and_eq_true, Bool.or_eq_true, Bool.not_eq_true', decide_eq_true_eq] at h1 h2 ⊢
  obtain ⟨hx, h1⟩ := h1
  obtain ⟨hy, h2⟩ := h2
  refine ⟨hx, ?_⟩
  rcases h2 with h2 | h2
  ·exact .inl h2
  ·cases hz : z.ok with
   | false => exact .inl rfl
   | true =>
    refine .inr ?_
    rcases h1 with h1 | h1
    ·rw [hy] at h1; cases h1
    ·rw [cmpItem_neg] at h1 h2 ⊢
     exact h1.trans (Item.ok_pos hx) (Item.ok_pos hy) (Item.ok_pos hz) h2
 ntrans x y z h1 h2 := by
  cases hx : x.ok with
  | false => simp [ltI, hx]
  | true =>
   cases hy : y.ok with
   | false => simp [ltI, hx, hy] at h1
   | true =>
    cases hz : z.ok with
    | false => simp [ltI, hy, hz] at h2
    | true =>
     simp only [ltI, hx, hy, hz, Bool.not_true, Bool.false_or, Bool.true_and, decide_eq_false_iff_not] at h1 h2 ⊢
     rw [cmpItem_neg, bef_iff, Decidable.not_not] at h1 h2 ⊢
     exact cmpItem_trans (Item.ok_pos hz) (Item.ok_pos hy) (Item.ok_pos hx) h2 h1
theorem dist_nodup {L : List Item} (hd : Dist L) : L.Nodup := List.pairwise_iff_getElem.2 fun i j hi hj hij e => by
 have := hd i j L[i] L[j] (List.getElem?_eq_getElem hi) (List.getElem?_eq_getElem hj) (by rw [e])
 omega
end Go.Ab
namespace Go.Ab
open Go.Proofs
structure HM (σ : St) (h m : Nat) (s T : Value) (f : Int → Option Int) : Prop where
 gh : σ.get h = some (.cells [.map (some m), s, T] false)
 gm : ∃ es ck, σ.get m = some (.map es ck) ∧ KV es ∧ ∀ k, lk es k = f k
 lt : h < σ.next ∧ m < σ.next
theorem HV.hm {σ : St} {lo h m : Nat} {L : List Item} {t : Int} (H : HV σ lo h m L t) : ∃ s f, HM σ h m s (.int .i64 t) f ∧ ∀ id, f id = none ↔ ∀ x ∈ L, x.id ≠ id := by
 obtain ⟨a1, a2, a3, H⟩ := H
 rcases H with ⟨rfl, H⟩ | ⟨a, cap, a4, H⟩
 ·obtain ⟨ck, gm⟩ := H.gm
  exact ⟨_, fun _ => none, ⟨H.gh, ⟨[], ck, gm, KV.nil, fun _ => rfl⟩, H.lt⟩, fun id => by simp⟩
 ·obtain ⟨f, H1, hi⟩ := H.hs
  refine ⟨_, f, ⟨H1.gh, H1.gm, ⟨H1.lt.1, H1.lt.2.2⟩⟩, fun id => ⟨fun hn x hx e => ?_, fun hn => ?_⟩⟩
  ·obtain ⟨i, hi'⟩ := List.getElem?_of_mem hx
   have := hi.fwd i x hi'
   rw [e, hn] at this
   cases this
  ·cases hf : f id with
   | none => rfl
   | some v =>
    obtain ⟨i, x, h1, h2, _⟩ := hi.bwd id v hf
    exact absurd h2 (hn x (List.mem_of_getElem? h1))
theorem put_refused {σ : St} {h m : Nat} {s T : Value} {f : Int → Option Int} (H : HM σ h m s T f) (id kn kd : Int) (hkn : okI kn = true) (hkd : okI kd = true) (hc : (id < 0 ∨ 4611686018427387904 < id) ∨ ¬ chk kn kd) :
  DCall Try.prog 14 [.pointer (some ⟨h, 0, none⟩), .int .i64 id, .agg ⟨[.int .i64 kn, .int .i64 kd]⟩] σ (.ret (.int .i64 2)) σ [] := by
 obtain ⟨es, ck, gm, hkv, hlk⟩ := H.gm
 have lt := H.lt
 let σ1 := σ.new (.cells [.int .i64 kn, .int .i64 kd] false)
 have gm1 : σ1.get m = some (.map es ck) := by rw [St.get_new, if_neg (by omega)]; exact gm
 have gh1 : σ1.get h = some (.cells [.map (some m), s, T] false) := by rw [St.get_new, if_neg (by omega)]; exact H.gh
 have hno := none_call gh1
 have n1 : ¬ σ.next = h := by omega
 have e2 : ((2 : Int) != 0) = true := by decide
 refine DCall.forget (σ' := σ1) ?_ rfl
 refine callsL (one_ok' p8_ok hno) Try.func14 rfl 40 bt14 (by kernel_rfl) ?_
 have fin : ∀ c, c < σ.next → σ1.get c = σ.get c := fun c hc => by rw [St.get_new, if_neg (by omega)]
 obtain ⟨lv, hlo⟩ : ∃ lv b, opLookup (cP Try.prog).T σ1 96 true (.map (some m)) (.int .i64 id) = some (.val (.tuple ⟨[.int .i64 lv, .bool b]⟩) [m]) := by
  cases hv : f id with
  | none => exact ⟨0, false, map_not (ok := true) gm1 hkv hlk hv⟩
  | some v => exact ⟨v, true, map_get (ok := true) gm1 hkv hlk hv⟩
 obtain ⟨b, hlo⟩ := hlo
 by_cases r1 : id < 0
 ·exact ⟨_, by simp only [go_sem, seval, if_pos rfl, σ1, one_other, Orc.one_call, hlo, n1, r1, gh1, H.gh, Try.f14, Try.underlying2, info2, Try.t2, Try.underlying3, info3, Try.t3, Try.underlying4, info4, Try.t4, Try.underlying24, info24, Try.t24, Try.underlying26, info26, Try.t26, Try.underlying28, info28, Try.t28, Try.underlying96, info96, Try.t96, Try.underlying97, info97, Try.t97, Try.underlying98, info98, Try.t98, Try.underlying99, info99, Try.t99, Try.underlying100, info100, Try.t100, Try.underlying102, info102, Try.t102, body44, body45] <;> rfl, by simp only [go_sem, seval, if_pos rfl, Try.f14], rfl, fin⟩
 ·by_cases r2 : 4611686018427387904 < id
  ·exact ⟨_, by simp only [go_sem, seval, if_pos rfl, σ1, one_other, Orc.one_call, hlo, n1, r1, r2, gh1, H.gh, Try.f14, Try.underlying2, info2, Try.t2, Try.underlying3, info3, Try.t3, Try.underlying4, info4, Try.t4, Try.underlying24, info24, Try.t24, Try.underlying26, info26, Try.t26, Try.underlying28, info28, Try.t28, Try.underlying96, info96, Try.t96, Try.underlying97, info97, Try.t97, Try.underlying98, info98, Try.t98, Try.underlying99, info99, Try.t99, Try.underlying100, info100, Try.t100, Try.underlying102, info102, Try.t102, body44, body45] <;> rfl, by simp only [go_sem, seval, if_pos rfl, Try.f14], rfl, fin⟩
  ·have hc' : ¬ chk kn kd := hc.resolve_left (by omega)
   exact ⟨_, by simp only [go_sem, seval, if_pos rfl, σ1, one_other, Orc.one_call, p8, p7, p6, p5, p4, p3, hkn, hkd, hc', hlo, n1, r1, r2, e2, gh1, H.gh, Try.f14, Try.underlying2, info2, Try.t2, Try.underlying3, info3, Try.t3, Try.underlying4, info4, Try.t4, Try.underlying24, info24, Try.t24, Try.underlying26, info26, Try.t26, Try.underlying28, info28, Try.t28, Try.underlying96, info96, Try.t96, Try.underlying97, info97, Try.t97, Try.underlying98, info98, Try.t98, Try.underlying99, info99, Try.t99, Try.underlying100, info100, Try.t100, Try.underlying102, info102, Try.t102, body44, body45] <;> rfl, by simp only [go_sem, seval, if_pos rfl, Try.f14], rfl, fin⟩
theorem put_twice {σ : St} {h m : Nat} {s T : Value} {f : Int → Option Int} (H : HM σ h m s T f) (id kn kd v : Int) (h0 : 0 ≤ id) (h1 : id ≤ 4611686018427387904) (hk : okR kn kd = true) (hv : f id = some v) :
  DCall Try.prog 14 [.pointer (some ⟨h, 0, none⟩), .int .i64 id, .agg ⟨[.int .i64 kn, .int .i64 kd]⟩] σ (.ret (.int .i64 210)) σ [] := by
 obtain ⟨es, ck, gm, hkv, hlk⟩ := H.gm
 have lt := H.lt
 simp only [okR, Bool.and_eq_true, decide_eq_true_eq] at hk
 obtain ⟨⟨hkn, hkd⟩, hc⟩ := hk
 let σ1 := σ.new (.cells [.int .i64 kn, .int .i64 kd] false)
 have gm1 : σ1.get m = some (.map es ck) := by rw [St.get_new, if_neg (by omega)]; exact gm
 have gh1 : σ1.get h = some (.cells [.map (some m), s, T] false) := by rw [St.get_new, if_neg (by omega)]; exact H.gh
 have hno := none_call gh1
 have n1 : ¬ σ.next = h := by omega
 have n2 : ¬ id < 0 := by omega
 have n3 : ¬ 4611686018427387904 < id := by omega
 have e2 : ((0 : Int) != 0) = false := by decide
 have hlo := map_get (ok := true) gm1 hkv hlk hv
 refine DCall.forget (σ' := σ1) ?_ rfl
 refine callsL (one_ok' p8_ok hno) Try.func14 rfl 40 bt14 (by kernel_rfl) ?_
 have fin : ∀ c, c < σ.next → σ1.get c = σ.get c := fun c hc => by rw [St.get_new, if_neg (by omega)]
 exact ⟨_, by simp only [go_sem, seval, if_pos rfl, σ1, one_other, Orc.one_call, p8, p7, p6, p5, p4, p3, hkn, hkd, hc, hlo, n1, n2, n3, e2, gh1, H.gh, Try.f14, Try.underlying2, info2, Try.t2, Try.underlying3, info3, Try.t3, Try.underlying4, info4, Try.t4, Try.underlying24, info24, Try.t24, Try.underlying26, info26, Try.t26, Try.underlying28, info28, Try.t28, Try.underlying96, info96, Try.t96, Try.underlying97, info97, Try.t97, Try.underlying98, info98, Try.t98, Try.underlying99, info99, Try.t99, Try.underlying100, info100, Try.t100, Try.underlying102, info102, Try.t102, body44, body45] <;> rfl, by simp only [go_sem, seval, if_pos rfl, Try.f14], rfl, fin⟩
theorem set_refused {σ : St} {h m : Nat} {s T : Value} {f : Int → Option Int} (H : HM σ h m s T f) (id kn kd : Int) (hkn : okI kn = true) (hkd : okI kd = true) (hc : (id < 0 ∨ 4611686018427387904 < id) ∨ ¬ chk kn kd) :
  DCall Try.prog 15 [.pointer (some ⟨h, 0, none⟩), .int .i64 id, .agg ⟨[.int .i64 kn, .int .i64 kd]⟩] σ (.ret (.int .i64 2)) σ [] := by
 obtain ⟨es, ck, gm, hkv, hlk⟩ := H.gm
 have lt := H.lt
 let σ1 := σ.new (.cells [.int .i64 kn, .int .i64 kd] false)
 have gm1 : σ1.get m = some (.map es ck) := by rw [St.get_new, if_neg (by omega)]; exact gm
 have gh1 : σ1.get h = some (.cells [.map (some m), s, T] false) := by rw [St.get_new, if_neg (by omega)]; exact H.gh
 have hno := none_call gh1
 have n1 : ¬ σ.next = h := by omega
 have e2 : ((2 : Int) != 0) = true := by decide
 refine DCall.forget (σ' := σ1) ?_ rfl
 refine callsL (one_ok' p8_ok hno) Try.func15 rfl 40 bt15 (by kernel_rfl) ?_
 have fin : ∀ c, c < σ.next → σ1.get c = σ.get c := fun c hc => by rw [St.get_new, if_neg (by omega)]
 obtain ⟨lv, hlo⟩ : ∃ lv b, opLookup (cP Try.prog).T σ1 96 true (.map (some m)) (.int .i64 id) = some (.val (.tuple ⟨[.int .i64 lv, .bool b]⟩) [m]) := by
  cases hv : f id with
  | none => exact ⟨0, false, map_not (ok := true) gm1 hkv hlk hv⟩
  | some v => exact ⟨v, true, map_get (ok := true) gm1 hkv hlk hv⟩
 obtain ⟨b, hlo⟩ := hlo
 by_cases r1 : id < 0
 ·exact ⟨_, by simp only [go_sem, seval, if_pos rfl, σ1, one_other, Orc.one_call, hlo, n1, r1, gh1, H.gh, Try.f15, Try.underlying2, info2, Try.t2, Try.underlying3, info3, Try.t3, Try.underlying4, info4, Try.t4, Try.underlying24, info24, Try.t24, Try.underlying26, info26, Try.t26, Try.underlying28, info28, Try.t28, Try.underlying96, info96, Try.t96, Try.underlying97, info97, Try.t97, Try.underlying98, info98, Try.t98, Try.underlying99, info99, Try.t99, Try.underlying100, info100, Try.t100, Try.underlying102, info102, Try.t102, body44, body45] <;> rfl, by simp only [go_sem, seval, if_pos rfl, Try.f15], rfl, fin⟩
 ·by_cases r2 : 4611686018427387904 < id
  ·exact ⟨_, by simp only [go_sem, seval, if_pos rfl, σ1, one_other, Orc.one_call, hlo, n1, r1, r2, gh1, H.gh, Try.f15, Try.underlying2, info2, Try.t2, Try.underlying3, info3, Try.t3, Try.underlying4, info4, Try.t4, Try.underlying24, info24, Try.t24, Try.underlying26, info26, Try.t26, Try.underlying28, info28, Try.t28, Try.underlying96, info96, Try.t96, Try.underlying97, info97, Try.t97, Try.underlying98, info98, Try.t98, Try.underlying99, info99, Try.t99, Try.underlying100, info100, Try.t100, Try.underlying102, info102, Try.t102, body44, body45] <;> rfl, by simp only [go_sem, seval, if_pos rfl, Try.f15], rfl, fin⟩
  ·have hc' : ¬ chk kn kd := hc.resolve_left (by omega)
   exact ⟨_, by simp only [go_sem, seval, if_pos rfl, σ1, one_other, Orc.one_call, p8, p7, p6, p5, p4, p3, hkn, hkd, hc', hlo, n1, r1, r2, e2, gh1, H.gh, Try.f15, Try.underlying2, info2, Try.t2, Try.underlying3, info3, Try.t3, Try.underlying4, info4, Try.t4, Try.underlying24, info24, Try.t24, Try.underlying26, info26, Try.t26, Try.underlying28, info28, Try.t28, Try.underlying96, info96, Try.t96, Try.underlying97, info97, Try.t97, Try.underlying98, info98, Try.t98, Try.underlying99, info99, Try.t99, Try.underlying100, info100, Try.t100, Try.underlying102, info102, Try.t102, body44, body45] <;> rfl, by simp only [go_sem, seval, if_pos rfl, Try.f15], rfl, fin⟩
theorem set_missing {σ : St} {h m : Nat} {s T : Value} {f : Int → Option Int} (H : HM σ h m s T f) (id kn kd : Int) (h0 : 0 ≤ id) (h1 : id ≤ 4611686018427387904) (hk : okR kn kd = true) (hv : f id = none) :
  DCall Try.prog 15 [.pointer (some ⟨h, 0, none⟩), .int .i64 id, .agg ⟨[.int .i64 kn, .int .i64 kd]⟩] σ (.ret (.int .i64 5)) σ [] := by
 obtain ⟨es, ck, gm, hkv, hlk⟩ := H.gm
 have lt := H.lt
 simp only [okR, Bool.and_eq_true, decide_eq_true_eq] at hk
 obtain ⟨⟨hkn, hkd⟩, hc⟩ := hk
 let σ1 := σ.new (.cells [.int .i64 kn, .int .i64 kd] false)
 have gm1 : σ1.get m = some (.map es ck) := by rw [St.get_new, if_neg (by omega)]; exact gm
 have gh1 : σ1.get h = some (.cells [.map (some m), s, T] false) := by rw [St.get_new, if_neg (by omega)]; exact H.gh
 have hno := none_call gh1
 have n1 : ¬ σ.next = h := by omega
 have n2 : ¬ id < 0 := by omega
 have n3 : ¬ 4611686018427387904 < id := by omega
 have e2 : ((0 : Int) != 0) = false := by decide
 have hlo := map_not (ok := true) gm1 hkv hlk hv
 refine DCall.forget (σ' := σ1) ?_ rfl
 refine callsL (one_ok' p8_ok hno) Try.func15 rfl 40 bt15 (by kernel_rfl) ?_
 have fin : ∀ c, c < σ.next → σ1.get c = σ.get c := fun c hc => by rw [St.get_new, if_neg (by omega)]
 exact ⟨_, by simp only [go_sem, seval, if_pos rfl, σ1, one_other, Orc.one_call, p8, p7, p6, p5, p4, p3, hkn, hkd, hc, hlo, n1, n2, n3, e2, gh1, H.gh, Try.f15, Try.underlying2, info2, Try.t2, Try.underlying3, info3, Try.t3, Try.underlying4, info4, Try.t4, Try.underlying24, info24, Try.t24, Try.underlying26, info26, Try.t26, Try.underlying28, info28, Try.t28, Try.underlying96, info96, Try.t96, Try.underlying97, info97, Try.t97, Try.underlying98, info98, Try.t98, Try.underlying99, info99, Try.t99, Try.underlying100, info100, Try.t100, Try.underlying102, info102, Try.t102, body44, body45] <;> rfl, by simp only [go_sem, seval, if_pos rfl, Try.f15], rfl, fin⟩
theorem drop_missing {σ : St} {h m : Nat} {s T : Value} {f : Int → Option Int} (H : HM σ h m s T f) (id : Int) (hv : f id = none) :
  DCall Try.prog 43 [.pointer (some ⟨h, 0, none⟩), .int .i64 id] σ (.ret (.int .i64 5)) σ [] := by
 obtain ⟨es, ck, gm, hkv, hlk⟩ := H.gm
 have hno := none_call H.gh
 have hlo := map_not (ok := true) gm hkv hlk hv
 refine callsL (one_ok' p8_ok hno) Try.func43 rfl 40 nobt (by kernel_rfl) ?_
 exact ⟨_, by simp only [go_sem, seval, if_pos rfl, one_other, Orc.one_call, hlo, H.gh, Try.f43, Try.underlying2, info2, Try.t2, Try.underlying3, info3, Try.t3, Try.underlying4, info4, Try.t4, Try.underlying24, info24, Try.t24, Try.underlying26, info26, Try.t26, Try.underlying28, info28, Try.t28, Try.underlying96, info96, Try.t96, Try.underlying97, info97, Try.t97, Try.underlying98, info98, Try.t98, Try.underlying99, info99, Try.t99, Try.underlying100, info100, Try.t100, Try.underlying102, info102, Try.t102, body44] <;> rfl, by simp only [go_sem, seval, if_pos rfl, Try.f43], rfl, fun _ _ => rfl⟩
theorem take_empty {σ : St} {lo h m : Nat} {t : Int} (H : HV σ lo h m [] t) : ∃ σ', DCall Try.prog 16 [.pointer (some ⟨h, 0, none⟩)] σ (.ret (.tuple ⟨[.agg ⟨[.int .i64 0, .int .i64 0, .int .i64 0, .int .i64 0]⟩, .bool false]⟩)) σ' [] := by
 have H1 := H.grow (σ' := σ.new (.cells [.int .i64 0, .int .i64 0, .int .i64 0, .int .i64 0] false)) (by simp) fun c hc => by rw [St.get_new, if_neg (by omega)]
 have dl := len_hv H1
 simp only [List.length_nil, Int.natCast_zero] at dl
 exact ⟨_, callsL (one_ok' Orc.none_ok dl) Try.func16 rfl 40 nobt (by kernel_rfl) ⟨_, by simp only [go_sem, seval, if_pos rfl, Orc.one_call, Try.f16, Try.underlying2, info2, Try.t2, Try.underlying3, info3, Try.t3, Try.underlying4, info4, Try.t4, Try.underlying24, info24, Try.t24, Try.underlying26, info26, Try.t26, Try.underlying28, info28, Try.t28, Try.underlying30, info30, Try.t30, Try.underlying31, info31, Try.t31, body17] <;> rfl, by simp only [go_sem, seval, if_pos rfl, Try.f16, Try.underlying30, info30, Try.t30, Try.underlying31, info31, Try.t31], rfl, fun c hc => by simp only [St.get_set, St.get_new]; rw [if_neg (by omega), if_neg (by omega)]⟩⟩
theorem least_hv {σ : St} {lo h m : Nat} {L : List Item} {t : Int} (H : HV σ lo h m L t) {x : Item} (hx : L[0]? = some x) : DCall Try.prog 19 [.pointer (some ⟨h, 0, none⟩)] σ (.ret (.tuple ⟨[.agg ⟨x.cells⟩, .bool true]⟩)) σ [] := by
 have H1 := H.grow (σ' := σ.new (.cells [.int .i64 0, .int .i64 0, .int .i64 0, .int .i64 0] false)) (by simp) fun c hc => by rw [St.get_new, if_neg (by omega)]
 have dl := len_hv H1
 have hl : 0 < L.length := (List.getElem?_eq_some_iff.1 hx).1
 obtain ⟨a1, a2, a3, H1⟩ := H1
 rcases H1 with ⟨rfl, _⟩ | ⟨a, cap, a4, H1⟩
 ·simp at hx
 ·obtain ⟨f, HS1, hi⟩ := H1.hs
  obtain ⟨G, ga, hG⟩ := HS1.ga
  have gh := HS1.gh
  have e1 := cells_at (G := G) hx
  have l1 : 0 * 4 + 4 ≤ (cellsL L ++ G).length := by simp [cellsL_length]; omega
  have c1 : (0 : Int) < (L.length : Int) := by omega
  have e0 : ((L.length : Int) == 0) = false := by rw [beq_eq_false_iff_ne]; omega
  simp only [Nat.zero_mul, Nat.zero_add, Item.cells, List.drop_zero] at e1 l1 ⊢
  refine DCall.forget (σ' := (σ.new (.cells [.int .i64 0, .int .i64 0, .int .i64 0, .int .i64 0] false)).set σ.next (.cells [.int .i64 x.id, .int .i64 x.n, .int .i64 x.d, .int .i64 x.turn] false)) ?_ rfl
  exact callsL (one_ok' Orc.none_ok dl) Try.func19 rfl 40 nobt (by kernel_rfl) ⟨_, by simp only [go_sem, seval, if_pos rfl, Orc.one_call, gh, ga, e0, e1, l1, c1, Int.toNat_zero, Try.f19, Try.underlying2, info2, Try.t2, Try.underlying3, info3, Try.t3, Try.underlying4, info4, Try.t4, Try.underlying24, info24, Try.t24, Try.underlying26, info26, Try.t26, Try.underlying28, info28, Try.t28, Try.underlying30, info30, Try.t30, Try.underlying31, info31, Try.t31, Try.underlying37, info37, Try.t37, Try.underlying99, info99, Try.t99, Try.underlying100, info100, Try.t100, body17] <;> rfl, by simp only [go_sem, seval, if_pos rfl, Try.f19, Try.underlying30, info30, Try.t30, Try.underlying31, info31, Try.t31], rfl, fun c hc => by simp only [St.get_set, St.get_new]; rw [if_neg (by omega), if_neg (by omega)]⟩
end Go.Ab
namespace Go.Ab
def digF : Nat → Nat → List Nat
 | 0, _ => []
 | f + 1, n => if n = 0 then [] else n % 65536 :: digF f (n / 65536)
def dig (n : Nat) : List Nat := digF n n
theorem digF_more : ∀ (f g n : Nat), n ≤ f → n ≤ g → digF f n = digF g n
 | 0, g, n, h, _ => by
  obtain rfl : n = 0 := by omega
  cases g <;> simp [digF]
 | f + 1, 0, n, _, h => by
  obtain rfl : n = 0 := by omega
  simp [digF]
 | f + 1, g + 1, n, h1, h2 => by
  simp only [digF]
  split
  ·rfl
  ·rw [digF_more f g (n / 65536) (by omega) (by omega)]
theorem dig_zero : dig 0 = [] := rfl
theorem dig_pos {n : Nat} (h : 0 < n) : dig n = n % 65536 :: dig (n / 65536) := by
 unfold dig
 obtain ⟨k, rfl⟩ : ∃ k, n = k + 1 := ⟨n - 1, by omega⟩
 simp only [digF]
 rw [if_neg (by omega), digF_more k ((k + 1) / 65536) _ (by omega) (by omega)]
def val : List Nat → Nat
 | [] => 0
 | d :: ds => d + 65536 * val ds
def Low (D : List Nat) : Prop := ∀ d ∈ D, d < 65536
theorem Low.nil : Low [] := fun d h => by simp at h
theorem Low.tail {d : Nat} {D : List Nat} (h : Low (d :: D)) : Low D := fun x hx => h x (by simp [hx])
theorem Low.cons {d : Nat} {D : List Nat} (hd : d < 65536) (h : Low D) : Low (d :: D) := fun x hx => by
 rcases List.mem_cons.1 hx with rfl | hx
 ·exact hd
 ·exact h x hx
theorem Low.append {D E : List Nat} (h : Low D) (h' : Low E) : Low (D ++ E) := fun x hx => by
 rcases List.mem_append.1 hx with h1 | h1
 ·exact h x h1
 ·exact h' x h1
theorem val_append : ∀ (D E : List Nat), val (D ++ E) = val D + 65536 ^ D.length * val E
 | [], E => by simp [val]
 | d :: D, E => by
  simp only [List.cons_append, val, val_append D E, List.length_cons, Nat.pow_succ]
  rw [Nat.mul_add, ← Nat.add_assoc]
  congr 1
  rw [← Nat.mul_assoc, Nat.mul_comm 65536 (65536 ^ D.length)]
theorem dig_low : ∀ (n : Nat), Low (dig n) := by
 intro n
 induction n using Nat.strongRecOn with
 | _ n ih =>
  by_cases h : n = 0
  ·subst h; exact Low.nil
  ·rw [dig_pos (by omega)]
   exact Low.cons (Nat.mod_lt _ (by omega)) (ih _ (by omega))
theorem val_dig : ∀ (n : Nat), val (dig n) = n := by
 intro n
 induction n using Nat.strongRecOn with
 | _ n ih =>
  by_cases h : n = 0
  ·subst h; rfl
  ·rw [dig_pos (by omega), val, ih _ (by omega)]
   omega
theorem dig_nil {n : Nat} : dig n = [] ↔ n = 0 := by
 constructor
 ·intro h
  have := val_dig n
  rw [h] at this
  simpa [val] using this.symm
 ·rintro rfl; rfl
theorem dig_val : ∀ (D : List Nat), Low D → (∀ d, D.getLast? = some d → d ≠ 0) → dig (val D) = D
 | [], _, _ => rfl
 | [d], h, hl => by
  have h1 := h d (by simp)
  have h2 := hl d rfl
  have e : val [d] = d := by simp [val]
  rw [e, dig_pos (by omega), Nat.mod_eq_of_lt h1, Nat.div_eq_of_lt h1, dig_zero]
 | d :: e :: D, h, hl => by
  have h1 := h d (by simp)
  have ih := dig_val (e :: D) h.tail (fun x hx => hl x (by simpa using hx))
  have hp : 0 < val (e :: D) := by
   rcases Nat.eq_zero_or_pos (val (e :: D)) with h0 | h0
   ·rw [h0] at ih; simp [dig_zero] at ih
   ·exact h0
  have e1 : val (d :: e :: D) = d + 65536 * val (e :: D) := rfl
  have e2 : (d + 65536 * val (e :: D)) % 65536 = d := by omega
  have e3 : (d + 65536 * val (e :: D)) / 65536 = val (e :: D) := by omega
  rw [e1, dig_pos (by omega), e2, e3, ih]
theorem val_cut (D : List Nat) : val (D ++ [0]) = val D := by
 rw [val_append]; simp [val]
theorem dig_length_le {n k : Nat} (h : n < 65536 ^ k) : (dig n).length ≤ k := by
 induction k generalizing n with
 | zero =>
  obtain rfl : n = 0 := by simpa using h
  simp [dig_zero]
 | succ k ih =>
  by_cases h0 : n = 0
  ·subst h0; simp [dig_zero]
  ·rw [dig_pos (by omega), List.length_cons]
   have : n / 65536 < 65536 ^ k := by
    rw [Nat.div_lt_iff_lt_mul (by omega)]
    rwa [Nat.pow_succ] at h
   have := ih this
   omega
theorem val_lt : ∀ (D : List Nat), Low D → val D < 65536 ^ D.length
 | [], _ => by simp [val]
 | d :: D, h => by
  have h1 := h d (by simp)
  have h2 := val_lt D h.tail
  rw [val, List.length_cons, Nat.pow_succ]
  have : 65536 * val D + 65536 ≤ 65536 ^ D.length * 65536 := by
   rw [Nat.mul_comm (65536 ^ D.length), ← Nat.mul_succ]
   exact Nat.mul_le_mul_left _ h2
  omega
end Go.Ab
namespace Go.Ab
open Go.Proofs
def dv (d : Nat) : Value := .int .u32 (d : Int)
def dcells (D : List Nat) : List Value := D.map dv
theorem dcells_length (D : List Nat) : (dcells D).length = D.length := by simp [dcells]
theorem dcells_append (D E : List Nat) : dcells (D ++ E) = dcells D ++ dcells E := by simp [dcells]
def BigS (σ : St) (v : Value) (D : List Nat) : Prop :=
 (v = .slice none 0 0 ∧ D = []) ∨ ∃ b sp cap G ro, v = .slice (some ⟨b, 0, some sp⟩) D.length cap ∧ (sp = 0 ∨ sp = 3) ∧ D.length ≤ cap ∧ b < σ.next ∧ σ.get b = some (.cells (dcells D ++ G) ro)
theorem BigS.nil (σ : St) : BigS σ (.slice none 0 0) [] := .inl ⟨rfl, rfl⟩
theorem BigS.keep {σ σ' : St} {v : Value} {D : List Nat} (h : BigS σ v D) (hn : σ.next ≤ σ'.next) (hk : ∀ b, b < σ.next → σ'.get b = σ.get b) : BigS σ' v D := by
 rcases h with h | ⟨b, sp, cap, G, ro, h1, h2, h3, h4, h5⟩
 ·exact .inl h
 ·exact .inr ⟨b, sp, cap, G, ro, h1, h2, h3, by omega, (hk b h4).trans h5⟩
theorem BigS.len {σ : St} {v : Value} {D : List Nat} (h : BigS σ v D) : ∀ σ', opLen (cP Try.prog).T σ' 112 v = some (.val (.int .i64 (D.length : Int)) []) := fun σ' => by
 rcases h with ⟨rfl, rfl⟩ | ⟨b, sp, cap, G, ro, rfl, _⟩
 ·simp only [opLen, cx_und, Try.underlying112]; rfl
 ·simp only [opLen, cx_und, Try.underlying112]
theorem BigS.at {σ : St} {v : Value} {D : List Nat} (h : BigS σ v D) {i d : Nat} (hi : D[i]? = some d) : ∃ b sp cap vs ro, v = .slice (some ⟨b, 0, some sp⟩) D.length cap ∧ b < σ.next ∧ σ.get b = some (.cells vs ro) ∧ lget? vs i = some (.int .u32 (d : Int)) := by
 rcases h with ⟨_, rfl⟩ | ⟨b, sp, cap, G, ro, h1, _, _, h4, h5⟩
 ·simp at hi
 ·refine ⟨b, sp, cap, _, ro, h1, h4, h5, ?_⟩
  have hl := (List.getElem?_eq_some_iff.1 hi).1
  rw [lget?_eq, List.getElem?_append_left (by rw [dcells_length]; exact hl)]
  simp [dcells, hi, dv]
theorem slice_cut (b sp n cap : Nat) (hsp : sp = 0 ∨ sp = 3) (hc : n + 1 ≤ cap) :
  opSlice (cP Try.prog).T 112 (.slice (some ⟨b, 0, some sp⟩) (n + 1) cap) none (some (.int .i64 (n : Int))) none = some (.val (.slice (some ⟨b, 0, some sp⟩) n cap) []) := by
 have hbnd : bnd cap (.int .i64 (n : Int)) = some n := by
  simp only [bnd]
  rw [if_pos (by omega)]; simp
 have hsb : sbA (n + 1) cap none (some (.int .i64 (n : Int))) none = some (0, n, cap) := by
  delta sbA
  simp only [hbnd]
 have h0 : cap ≠ 0 := by omega
 have h1 : 0 < cap := by omega
 rcases hsp with rfl | rfl <;> simp only [opSlice, cx_und, cx_info, Try.underlying112, info112, Try.t112, Try.underlying154, info154, Try.t154, hsb] <;> simp [h0, h1]
def NewBlk (lo : Nat) (v : Value) : Prop := ∀ b o sp len cap, v = .slice (some ⟨b, o, sp⟩) len cap → lo ≤ b
def OfBlk (v v' : Value) : Prop := ∀ lo, NewBlk lo v → NewBlk lo v'
noncomputable def trimB : Code := Try.f85.body.getD .skip
noncomputable def trimC : Code := loopOf trimB
theorem trim_loop : ∀ (k : Nat) (D : List Nat) (v : Value) (σ : St) (ts : List Value), D.length < k → D.length ≤ 1000000 → BigS σ v D → Low D → ts.length = 21 → lget ts 0 = v →
  ∃ ts' v', DL Try.prog false trimC ⟨ts, []⟩ σ ⟨.exit 0, ⟨ts', []⟩, σ, []⟩ ∧ ts'.length = 21 ∧ lget ts' 0 = v' ∧ BigS σ v' (dig (val D)) ∧ OfBlk v v' := by
 intro k
 induction k with
 | zero => intro D v σ ts hk; omega
 | succ k ih =>
  intro D v σ ts hk hs B hL hl q0
  have ho := B.len
  rcases List.eq_nil_or_concat D with rfl | ⟨E, d, rfl⟩
  ·have hz : ¬ (0 : Int) < (([] : List Nat).length : Int) := by simp
   refine ⟨_, v, DL.out (runs Orc.none_ok 30 nobt (by kernel_rfl) (r := ⟨.exit 0, ⟨_, []⟩, σ, []⟩) (by simp only [go_sem, seval, if_pos rfl, trimC, trimB, loopOf, Option.getD, lget_put, lgetq_put, List.length_set, q0, hl, ho, hz, Int.natCast_zero, Int.lt_irrefl, Try.f85, Try.underlying3, info3, Try.t3, Try.underlying4, info4, Try.t4, Try.underlying112, info112, Try.t112, Try.underlying154, info154, Try.t154] <;> rfl)) rfl, ?_, ?_, ?_⟩
   ·simp only [List.length_set, hl]
   ·simp only [lget_put, List.length_set, q0, hl, Nat.reduceEqDiff, Nat.reduceLT, if_true, if_false]
   ·exact ⟨B, fun _ h => h⟩
  ·rw [List.concat_eq_append] at *
   have hlen : (E ++ [d]).length = E.length + 1 := by simp
   have hat : (E ++ [d])[E.length]? = some d := by simp
   obtain ⟨b, sp, cap, vs, ro, rfl, hb, hg, he⟩ := B.at hat
   rw [hlen] at ho q0
   have hz : (0 : Int) < ((E.length + 1 : Nat) : Int) := by omega
   have w1 : IntKind.i64.wrap (((E.length + 1 : Nat) : Int) - 1) = (E.length : Int) := by rw [IntKind.wrap_i64]; omega
   have c1 : (0 : Int) ≤ (E.length : Int) ∧ (E.length : Int) < ((E.length + 1 : Nat) : Int) := by omega
   by_cases hd : d = 0
   ·subst hd
    have e0 : (((0 : Nat) : Int) == 0) = true := by decide
    obtain ⟨hsp, hcp⟩ : (sp = 0 ∨ sp = 3) ∧ E.length + 1 ≤ cap := by
     rcases B with ⟨h, _⟩ | ⟨b', sp', cap', G', ro', h1, h2, h3, _, _⟩
     ·cases h
     ·simp only [Value.slice.injEq, Option.some.injEq, Addr.mk.injEq] at h1
      obtain ⟨⟨_, _, rfl⟩, _, rfl⟩ := h1
      exact ⟨h2, by rw [hlen] at h3; exact h3⟩
    have hsl := slice_cut b sp E.length cap hsp hcp
    have B' : BigS σ (.slice (some ⟨b, 0, some sp⟩) E.length cap) E := by
     rcases B with ⟨h, _⟩ | ⟨b', sp', cap', G', ro', h1, h2, h3, h4, h5⟩
     ·cases h
     ·simp only [Value.slice.injEq, Option.some.injEq, Addr.mk.injEq] at h1
      obtain ⟨⟨rfl, _, rfl⟩, _, rfl⟩ := h1
      exact .inr ⟨b, sp, cap, dv 0 :: G', ro', rfl, h2, by omega, h4, by rw [h5, dcells_append]; simp [dcells]⟩
    obtain ⟨ts1, hr, l1, q1⟩ : ∃ ts1, DC Try.prog false trimC ⟨ts, []⟩ σ ⟨.norm, ⟨ts1, []⟩, σ, []⟩ ∧ ts1.length = 21 ∧ lget ts1 0 = .slice (some ⟨b, 0, some sp⟩) E.length cap := by
     refine ⟨_, runs Orc.none_ok 30 nobt (by kernel_rfl) (by simp only [go_sem, seval, if_pos rfl, trimC, trimB, loopOf, Option.getD, lget_put, lgetq_put, List.length_set, q0, hl, ho, hz, w1, c1, hg, he, e0, hsl, Int.toNat_natCast, Try.f85, Try.underlying3, info3, Try.t3, Try.underlying4, info4, Try.t4, Try.underlying112, info112, Try.t112, Try.underlying154, info154, Try.t154] <;> rfl), ?_, ?_⟩
     ·simp only [List.length_set, hl]
     ·simp only [lget_put, List.length_set, q0, hl, Nat.reduceEqDiff, Nat.reduceLT, if_true, if_false]
    obtain ⟨ts', v', a1, a2, a3, a4, a5⟩ := ih E _ σ ts1 (by omega) (by omega) B' (fun x hx => hL x (by simp [hx])) l1 q1
    exact ⟨ts', v', DL.next hr rfl a1, a2, a3, by rw [val_cut]; exact a4, fun lo h => a5 lo fun b' o sp' len' cap' e => by
     cases e
     exact h _ _ _ _ _ rfl⟩
   ·have e0 : ((d : Int) == 0) = false := by simpa using hd
    have hD : dig (val (E ++ [d])) = E ++ [d] := dig_val _ hL fun x hx => by simp at hx; omega
    refine ⟨_, _, DL.out (runs Orc.none_ok 30 nobt (by kernel_rfl) (r := ⟨.exit 0, ⟨_, []⟩, σ, []⟩) (by simp only [go_sem, seval, if_pos rfl, trimC, trimB, loopOf, Option.getD, lget_put, lgetq_put, List.length_set, q0, hl, ho, hz, w1, c1, hg, he, e0, Int.toNat_natCast, Try.f85, Try.underlying3, info3, Try.t3, Try.underlying4, info4, Try.t4, Try.underlying112, info112, Try.t112, Try.underlying154, info154, Try.t154] <;> rfl)) rfl, ?_, rfl, ?_⟩
    ·simp only [List.length_set, hl]
    ·simp only [lget_put, List.length_set, q0, hl, Nat.reduceEqDiff, Nat.reduceLT, if_true, if_false]
     rw [hD]
     rw [hlen] at B
     exact ⟨B, fun lo h b' o sp' len' cap' e => by
      cases e
      exact h _ _ _ _ _ rfl⟩
theorem trim_call {D : List Nat} {v : Value} {σ : St} (hs : D.length ≤ 1000000) (B : BigS σ v D) (hL : Low D) : ∃ v', DCall Try.prog 85 [v] σ (.ret v') σ [] ∧ BigS σ v' (dig (val D)) ∧ OfBlk v v' := by
 obtain ⟨ts0, h0, l0, q0⟩ : ∃ ts0, start [v] Try.f85.ntmps = ⟨ts0, []⟩ ∧ ts0.length = 21 ∧ lget ts0 0 = v := ⟨(start [v] 21).ts, rfl, rfl, rfl⟩
 obtain ⟨ts1, r1, l1, q1⟩ : ∃ ts1, DC Try.prog false (nthC 0 trimB) ⟨ts0, []⟩ σ ⟨.norm, ⟨ts1, []⟩, σ, []⟩ ∧ ts1.length = 21 ∧ lget ts1 0 = v := by
  refine ⟨_, runs Orc.none_ok 30 nobt (by kernel_rfl) (by simp only [go_sem, seval, if_pos rfl, trimB, nthC, Option.getD, lget_put, lgetq_put, List.length_set, q0, l0, Try.f85, Try.underlying3, info3, Try.t3, Try.underlying4, info4, Try.t4, Try.underlying112, info112, Try.t112, Try.underlying154, info154, Try.t154] <;> rfl), ?_, ?_⟩
  ·simp only [List.length_set, l0]
  ·simp only [lget_put, List.length_set, q0, l0, Nat.reduceEqDiff, Nat.reduceLT, if_true, if_false]
 obtain ⟨ts2, v', d2, l2, q2, B2⟩ := trim_loop (D.length + 1) D v σ ts1 (by omega) hs B hL l1 q1
 obtain ⟨ts3, r3, q3⟩ : ∃ ts3, DC Try.prog false (nthC 2 trimB) ⟨ts2, []⟩ σ ⟨.norm, ⟨ts3, []⟩, σ, []⟩ ∧ lget ts3 2 = v' := by
  refine ⟨_, runs Orc.none_ok 30 nobt (by kernel_rfl) (by simp only [go_sem, seval, if_pos rfl, trimB, nthC, Option.getD, lget_put, lgetq_put, List.length_set, q2, l2, Try.f85, Try.underlying3, info3, Try.t3, Try.underlying4, info4, Try.t4, Try.underlying112, info112, Try.t112, Try.underlying154, info154, Try.t154] <;> rfl), ?_⟩
  simp only [lget_put, List.length_set, q2, l2, Nat.reduceEqDiff, Nat.reduceLT, if_true, if_false]
 refine ⟨v', callsD Try.func85 (rfl : Try.f85.body = some trimB) (h0 ▸ DC.seq r1 rfl (DC.seq (DC.block (DC.loop d2)) rfl (DC.seq r3 rfl (DC.ret _ _ _)))) ?_ rfl rfl, B2⟩
 simp only [endsA, Try.f85, resA, resList, resOne, q3, Option.map, RR.pre]
end Go.Ab
