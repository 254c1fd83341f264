/- heap: Put. -/
import Derived.Test.YtlipmhhndhhgdaaTr
set_option linter.unusedSimpArgs false
set_option linter.unusedVariables false
namespace Go.Ab
open Go.Proofs

def bt14 : Nat → List Nat
  | 11 => [0, 0, 2, 6, 14, 0, 0, 0, 128, 384, 896, 2016, 4064, 8190, 16383, 32767, 65535]
  | _ => []

/-- A heap without a list yet. -/
structure HE (σ : St) (h m : Nat) (t : Int) : Prop where
  gh : σ.get h = some (.cells [.map (some m), .slice none 0 0, .int .i64 t] false)
  gm : ∃ ck, σ.get m = some (.map [] ck)
  ne : h ≠ m
  lt : h < σ.next ∧ m < σ.next

theorem KV.nil : KV [] := ⟨by simp, List.Pairwise.nil⟩

/-- A key that is no fraction is refused. -/
theorem put_bad {σ : St} {h m : Nat} {s T : Value} {es : List MapEntry} {ck : Nat} {f : Int → Option Int} (gh : σ.get h = some (.cells [.map (some m), s, T] false)) (gm : σ.get m = some (.map es ck)) (hkv : KV es) (hlk : ∀ k, lk es k = f k)
    (lt : h < σ.next ∧ m < σ.next) (id kn kd : Int) (h0 : 0 ≤ id) (h1 : id ≤ 4611686018427387904) (hkn : okI kn = true) (hkd : okI kd = true) (hc : ¬ chk kn kd) :
    DCall Try.prog 14 [.pointer (some ⟨h, 0, none⟩), .int .i64 id, .agg ⟨[.int .i64 kn, .int .i64 kd]⟩] σ (.ret (.int .i64 2)) σ [] := by
  let σ1 := σ.new (.cells [.int .i64 kn, .int .i64 kd] false)
  have gm1 : σ1.get m = some (.map es ck) := by rw [St.get_new, if_neg (by omega)]; exact gm
  have gh1 : σ1.get h = some (.cells [.map (some m), s, T] false) := by rw [St.get_new, if_neg (by omega)]; exact gh
  have hno := none_call gh1
  have n1 : ¬ σ.next = h := by omega
  have n2 : ¬ id < 0 := by omega
  have n3 : ¬ 4611686018427387904 < id := by omega
  have e2 : ((2 : Int) != 0) = true := by decide
  refine DCall.forget (σ' := σ1) ?_ rfl
  refine callsL (one_ok' p8_ok hno) Try.func14 rfl 40 bt14 (by kernel_rfl) ?_
  have fin : ∀ c, c < σ.next → σ1.get c = σ.get c := fun c hc => by rw [St.get_new, if_neg (by omega)]
  cases hv : f id with
  | none =>
    have hlo := map_not (ok := true) gm1 hkv hlk hv
    exact ⟨_, by simp only [nadd_le, nadd_lt, nle_add, nlt_add, nadd_eq, neq_add, Nat.add_le_add_iff_left, Nat.add_lt_add_iff_left, Nat.add_left_cancel_iff, Nat.add_assoc, Nat.testBit_eq_decide_div_mod_eq, Nat.reducePow, Nat.reduceDiv, Nat.reduceMod, runOps_nil, runOps_cons, runDrawn_nil, runDrawn_cons, run_loop_job, run_scope_job, run_skip, run_label, run_exit, run_goto, run_ret, run_seq, run_cond, run_block, run_loop, run_scope, run_region, pureK_some, pureO_call, callK_ret, callK_panic, opsK_val, opsK_new, opsK_eff, opsK_panic, opsK_enter, opsK_round, opsK_defer, wantK_true, wantK_false, consD_some, callD_ret, drawnK_val, drawnK_new, drawnK_eff, drawnK_enter, condK_true, condK_false, blockK_some, preO_some, thenR_norm, thenR_exit, thenR_goto, thenR_ret, thenR_panic, jumpK_some, jumpK_none, scopeK_goto, scopeK_norm, scopeK_exit, scopeK_ret, scopeK_panic, regO_some, regD_some, regionR_false, regionR_true, dynOk, loud, quietK, stepOp, stepBuiltin, start, Fr.put, putL, wantedA, yieldedA, lget?, ev, evs, evo, lget, plain, plainL, partsA, cx_und, cx_info, cx_flat, opBin, isShift, intOp, shiftOp, strOp, eqOp, opUn, opConvert, RR.pre, endsA, resA, resList, resOne, opPick, opExtract, opBuild, opBuildSlice, opBuild.lgetP, Nat.le_zero_eq, Nat.zero_le, opBox, opNilCheck, opField, opIndex, opCall, AX.inBlock, findLabel, isAggD, partA, placesA, fillA, opMakeFunc, opMakeIface, opPanic, opDefer, bnd, oneCells, vcells, over, opLoad, opStore, opAlloc, opFieldAddr, opIndexAddr, St.get_new, St.get_set, St.get_put, St.next_new, St.next_set, clash, SK.isFull, SK.lg, SK.rd, List.set_cons_succ, List.set_cons_zero, List.getElem?_cons_succ, List.getElem?_cons_zero, List.length_cons, List.length_nil, List.append_nil, List.nil_append, List.cons_append, List.replicate_succ, List.replicate_zero, List.drop_zero, List.drop_succ_cons, List.take_zero, List.take_succ_cons, List.take_nil, List.drop_nil, Option.map_some, Option.map_none, Bool.and_true, Bool.true_and, Bool.and_false, Bool.false_and, Bool.or_true, Bool.true_or, Bool.or_false, Bool.false_or, Bool.not_true, Bool.not_false, decide_true, decide_false, if_true, if_false, ite_true, ite_false, dite_true, dite_false, List.all_cons, List.all_nil, List.any_cons, List.any_nil, List.contains_cons, List.contains_nil, List.isEmpty_nil, List.isEmpty_cons, Nat.reduceAdd, Nat.reduceSub, Nat.reduceMul, Nat.reduceLeDiff, Nat.reduceLT, Nat.reduceEqDiff, Nat.zero_add, Nat.add_zero, beq_self_eq_true, Bool.true_beq, Bool.false_beq, bne_iff_ne, bne_self_eq_false, reduceCtorEq, List.getD_cons_succ, List.getD_cons_zero, List.getD_nil, and_true, true_and, and_self, not_true_eq_false, not_false_eq_true, eq_self, ne_eq, reduceIte, reduceDIte, Option.some.injEq, if_pos rfl, beq_iff_eq, Int.reduceLT, Int.reduceLE, Int.reduceEq, Int.reduceNeg, Int.reduceAdd, Int.reduceSub, Int.reduceMul, Nat.lt_irrefl, Nat.le_refl, Nat.succ_ne_self, List.size_toArray, Int.cast_ofNat_Int, Int.reduceToNat, Nat.zero_mul, Nat.one_mul, Nat.mul_one, σ1, one_other, Orc.one_call, p8, p7, p6, p5, p4, p3, hkn, hkd, hc, hlo, n1, n2, n3, e2, gh1, gh, Try.f14, Try.underlying2, info2, Try.t2, Try.underlying3, info3, Try.t3, Try.underlying4, info4, Try.t4, Try.underlying24, info24, Try.t24, Try.underlying26, info26, Try.t26, Try.underlying28, info28, Try.t28, Try.underlying96, info96, Try.t96, Try.underlying97, info97, Try.t97, Try.underlying98, info98, Try.t98, Try.underlying99, info99, Try.t99, Try.underlying100, info100, Try.t100, Try.underlying102, info102, Try.t102, body44, body45] <;> rfl, by simp only [nadd_le, nadd_lt, nle_add, nlt_add, nadd_eq, neq_add, Nat.add_le_add_iff_left, Nat.add_lt_add_iff_left, Nat.add_left_cancel_iff, Nat.add_assoc, Nat.testBit_eq_decide_div_mod_eq, Nat.reducePow, Nat.reduceDiv, Nat.reduceMod, runOps_nil, runOps_cons, runDrawn_nil, runDrawn_cons, run_loop_job, run_scope_job, run_skip, run_label, run_exit, run_goto, run_ret, run_seq, run_cond, run_block, run_loop, run_scope, run_region, pureK_some, pureO_call, callK_ret, callK_panic, opsK_val, opsK_new, opsK_eff, opsK_panic, opsK_enter, opsK_round, opsK_defer, wantK_true, wantK_false, consD_some, callD_ret, drawnK_val, drawnK_new, drawnK_eff, drawnK_enter, condK_true, condK_false, blockK_some, preO_some, thenR_norm, thenR_exit, thenR_goto, thenR_ret, thenR_panic, jumpK_some, jumpK_none, scopeK_goto, scopeK_norm, scopeK_exit, scopeK_ret, scopeK_panic, regO_some, regD_some, regionR_false, regionR_true, dynOk, loud, quietK, stepOp, stepBuiltin, start, Fr.put, putL, wantedA, yieldedA, lget?, ev, evs, evo, lget, plain, plainL, partsA, cx_und, cx_info, cx_flat, opBin, isShift, intOp, shiftOp, strOp, eqOp, opUn, opConvert, RR.pre, endsA, resA, resList, resOne, opPick, opExtract, opBuild, opBuildSlice, opBuild.lgetP, Nat.le_zero_eq, Nat.zero_le, opBox, opNilCheck, opField, opIndex, opCall, AX.inBlock, findLabel, isAggD, partA, placesA, fillA, opMakeFunc, opMakeIface, opPanic, opDefer, bnd, oneCells, vcells, over, opLoad, opStore, opAlloc, opFieldAddr, opIndexAddr, St.get_new, St.get_set, St.get_put, St.next_new, St.next_set, clash, SK.isFull, SK.lg, SK.rd, List.set_cons_succ, List.set_cons_zero, List.getElem?_cons_succ, List.getElem?_cons_zero, List.length_cons, List.length_nil, List.append_nil, List.nil_append, List.cons_append, List.replicate_succ, List.replicate_zero, List.drop_zero, List.drop_succ_cons, List.take_zero, List.take_succ_cons, List.take_nil, List.drop_nil, Option.map_some, Option.map_none, Bool.and_true, Bool.true_and, Bool.and_false, Bool.false_and, Bool.or_true, Bool.true_or, Bool.or_false, Bool.false_or, Bool.not_true, Bool.not_false, decide_true, decide_false, if_true, if_false, ite_true, ite_false, dite_true, dite_false, List.all_cons, List.all_nil, List.any_cons, List.any_nil, List.contains_cons, List.contains_nil, List.isEmpty_nil, List.isEmpty_cons, Nat.reduceAdd, Nat.reduceSub, Nat.reduceMul, Nat.reduceLeDiff, Nat.reduceLT, Nat.reduceEqDiff, Nat.zero_add, Nat.add_zero, beq_self_eq_true, Bool.true_beq, Bool.false_beq, bne_iff_ne, bne_self_eq_false, reduceCtorEq, List.getD_cons_succ, List.getD_cons_zero, List.getD_nil, and_true, true_and, and_self, not_true_eq_false, not_false_eq_true, eq_self, ne_eq, reduceIte, reduceDIte, Option.some.injEq, if_pos rfl, beq_iff_eq, Int.reduceLT, Int.reduceLE, Int.reduceEq, Int.reduceNeg, Int.reduceAdd, Int.reduceSub, Int.reduceMul, Nat.lt_irrefl, Nat.le_refl, Nat.succ_ne_self, List.size_toArray, Int.cast_ofNat_Int, Int.reduceToNat, Nat.zero_mul, Nat.one_mul, Nat.mul_one, Try.f14], rfl, fin⟩
  | some v =>
    have hlo := map_get (ok := true) gm1 hkv hlk hv
    exact ⟨_, by simp only [nadd_le, nadd_lt, nle_add, nlt_add, nadd_eq, neq_add, Nat.add_le_add_iff_left, Nat.add_lt_add_iff_left, Nat.add_left_cancel_iff, Nat.add_assoc, Nat.testBit_eq_decide_div_mod_eq, Nat.reducePow, Nat.reduceDiv, Nat.reduceMod, runOps_nil, runOps_cons, runDrawn_nil, runDrawn_cons, run_loop_job, run_scope_job, run_skip, run_label, run_exit, run_goto, run_ret, run_seq, run_cond, run_block, run_loop, run_scope, run_region, pureK_some, pureO_call, callK_ret, callK_panic, opsK_val, opsK_new, opsK_eff, opsK_panic, opsK_enter, opsK_round, opsK_defer, wantK_true, wantK_false, consD_some, callD_ret, drawnK_val, drawnK_new, drawnK_eff, drawnK_enter, condK_true, condK_false, blockK_some, preO_some, thenR_norm, thenR_exit, thenR_goto, thenR_ret, thenR_panic, jumpK_some, jumpK_none, scopeK_goto, scopeK_norm, scopeK_exit, scopeK_ret, scopeK_panic, regO_some, regD_some, regionR_false, regionR_true, dynOk, loud, quietK, stepOp, stepBuiltin, start, Fr.put, putL, wantedA, yieldedA, lget?, ev, evs, evo, lget, plain, plainL, partsA, cx_und, cx_info, cx_flat, opBin, isShift, intOp, shiftOp, strOp, eqOp, opUn, opConvert, RR.pre, endsA, resA, resList, resOne, opPick, opExtract, opBuild, opBuildSlice, opBuild.lgetP, Nat.le_zero_eq, Nat.zero_le, opBox, opNilCheck, opField, opIndex, opCall, AX.inBlock, findLabel, isAggD, partA, placesA, fillA, opMakeFunc, opMakeIface, opPanic, opDefer, bnd, oneCells, vcells, over, opLoad, opStore, opAlloc, opFieldAddr, opIndexAddr, St.get_new, St.get_set, St.get_put, St.next_new, St.next_set, clash, SK.isFull, SK.lg, SK.rd, List.set_cons_succ, List.set_cons_zero, List.getElem?_cons_succ, List.getElem?_cons_zero, List.length_cons, List.length_nil, List.append_nil, List.nil_append, List.cons_append, List.replicate_succ, List.replicate_zero, List.drop_zero, List.drop_succ_cons, List.take_zero, List.take_succ_cons, List.take_nil, List.drop_nil, Option.map_some, Option.map_none, Bool.and_true, Bool.true_and, Bool.and_false, Bool.false_and, Bool.or_true, Bool.true_or, Bool.or_false, Bool.false_or, Bool.not_true, Bool.not_false, decide_true, decide_false, if_true, if_false, ite_true, ite_false, dite_true, dite_false, List.all_cons, List.all_nil, List.any_cons, List.any_nil, List.contains_cons, List.contains_nil, List.isEmpty_nil, List.isEmpty_cons, Nat.reduceAdd, Nat.reduceSub, Nat.reduceMul, Nat.reduceLeDiff, Nat.reduceLT, Nat.reduceEqDiff, Nat.zero_add, Nat.add_zero, beq_self_eq_true, Bool.true_beq, Bool.false_beq, bne_iff_ne, bne_self_eq_false, reduceCtorEq, List.getD_cons_succ, List.getD_cons_zero, List.getD_nil, and_true, true_and, and_self, not_true_eq_false, not_false_eq_true, eq_self, ne_eq, reduceIte, reduceDIte, Option.some.injEq, if_pos rfl, beq_iff_eq, Int.reduceLT, Int.reduceLE, Int.reduceEq, Int.reduceNeg, Int.reduceAdd, Int.reduceSub, Int.reduceMul, Nat.lt_irrefl, Nat.le_refl, Nat.succ_ne_self, List.size_toArray, Int.cast_ofNat_Int, Int.reduceToNat, Nat.zero_mul, Nat.one_mul, Nat.mul_one, σ1, one_other, Orc.one_call, p8, p7, p6, p5, p4, p3, hkn, hkd, hc, hlo, n1, n2, n3, e2, gh1, gh, Try.f14, Try.underlying2, info2, Try.t2, Try.underlying3, info3, Try.t3, Try.underlying4, info4, Try.t4, Try.underlying24, info24, Try.t24, Try.underlying26, info26, Try.t26, Try.underlying28, info28, Try.t28, Try.underlying96, info96, Try.t96, Try.underlying97, info97, Try.t97, Try.underlying98, info98, Try.t98, Try.underlying99, info99, Try.t99, Try.underlying100, info100, Try.t100, Try.underlying102, info102, Try.t102, body44, body45] <;> rfl, by simp only [nadd_le, nadd_lt, nle_add, nlt_add, nadd_eq, neq_add, Nat.add_le_add_iff_left, Nat.add_lt_add_iff_left, Nat.add_left_cancel_iff, Nat.add_assoc, Nat.testBit_eq_decide_div_mod_eq, Nat.reducePow, Nat.reduceDiv, Nat.reduceMod, runOps_nil, runOps_cons, runDrawn_nil, runDrawn_cons, run_loop_job, run_scope_job, run_skip, run_label, run_exit, run_goto, run_ret, run_seq, run_cond, run_block, run_loop, run_scope, run_region, pureK_some, pureO_call, callK_ret, callK_panic, opsK_val, opsK_new, opsK_eff, opsK_panic, opsK_enter, opsK_round, opsK_defer, wantK_true, wantK_false, consD_some, callD_ret, drawnK_val, drawnK_new, drawnK_eff, drawnK_enter, condK_true, condK_false, blockK_some, preO_some, thenR_norm, thenR_exit, thenR_goto, thenR_ret, thenR_panic, jumpK_some, jumpK_none, scopeK_goto, scopeK_norm, scopeK_exit, scopeK_ret, scopeK_panic, regO_some, regD_some, regionR_false, regionR_true, dynOk, loud, quietK, stepOp, stepBuiltin, start, Fr.put, putL, wantedA, yieldedA, lget?, ev, evs, evo, lget, plain, plainL, partsA, cx_und, cx_info, cx_flat, opBin, isShift, intOp, shiftOp, strOp, eqOp, opUn, opConvert, RR.pre, endsA, resA, resList, resOne, opPick, opExtract, opBuild, opBuildSlice, opBuild.lgetP, Nat.le_zero_eq, Nat.zero_le, opBox, opNilCheck, opField, opIndex, opCall, AX.inBlock, findLabel, isAggD, partA, placesA, fillA, opMakeFunc, opMakeIface, opPanic, opDefer, bnd, oneCells, vcells, over, opLoad, opStore, opAlloc, opFieldAddr, opIndexAddr, St.get_new, St.get_set, St.get_put, St.next_new, St.next_set, clash, SK.isFull, SK.lg, SK.rd, List.set_cons_succ, List.set_cons_zero, List.getElem?_cons_succ, List.getElem?_cons_zero, List.length_cons, List.length_nil, List.append_nil, List.nil_append, List.cons_append, List.replicate_succ, List.replicate_zero, List.drop_zero, List.drop_succ_cons, List.take_zero, List.take_succ_cons, List.take_nil, List.drop_nil, Option.map_some, Option.map_none, Bool.and_true, Bool.true_and, Bool.and_false, Bool.false_and, Bool.or_true, Bool.true_or, Bool.or_false, Bool.false_or, Bool.not_true, Bool.not_false, decide_true, decide_false, if_true, if_false, ite_true, ite_false, dite_true, dite_false, List.all_cons, List.all_nil, List.any_cons, List.any_nil, List.contains_cons, List.contains_nil, List.isEmpty_nil, List.isEmpty_cons, Nat.reduceAdd, Nat.reduceSub, Nat.reduceMul, Nat.reduceLeDiff, Nat.reduceLT, Nat.reduceEqDiff, Nat.zero_add, Nat.add_zero, beq_self_eq_true, Bool.true_beq, Bool.false_beq, bne_iff_ne, bne_self_eq_false, reduceCtorEq, List.getD_cons_succ, List.getD_cons_zero, List.getD_nil, and_true, true_and, and_self, not_true_eq_false, not_false_eq_true, eq_self, ne_eq, reduceIte, reduceDIte, Option.some.injEq, if_pos rfl, beq_iff_eq, Int.reduceLT, Int.reduceLE, Int.reduceEq, Int.reduceNeg, Int.reduceAdd, Int.reduceSub, Int.reduceMul, Nat.lt_irrefl, Nat.le_refl, Nat.succ_ne_self, List.size_toArray, Int.cast_ofNat_Int, Int.reduceToNat, Nat.zero_mul, Nat.one_mul, Nat.mul_one, Try.f14], rfl, fin⟩

theorem cellsL_append (L M : List Item) : cellsL (L ++ M) = cellsL L ++ cellsL M := by
  induction L with
  | nil => rfl
  | cons x L ih => simp [cellsL, ih]

theorem over_end {G : List Value} {x : Item} : ∀ {L : List Item}, 4 ≤ G.length → over (cellsL L ++ G) (L.length * 4) x.cells = cellsL (L ++ [x]) ++ G.drop 4
  | [], h => by
    match G, h with
    | a :: b :: c :: d :: G, _ => simp [over, cellsL, Item.cells]
  | y :: L, h => by
    have := over_end (x := x) (L := L) h
    have e : (y :: L).length * 4 = L.length * 4 + 4 := by simp; omega
    rw [e]
    simp only [cellsL, Item.cells, List.cons_append, List.nil_append, over] at this ⊢
    rw [this]

/-- An item is added to the list and to the map. -/
theorem Idx.add {L : List Item} {f : Int → Option Int} (h : Idx L f) {x : Item} (hx : f x.id = none) : Idx (L ++ [x]) (upd f x.id L.length) := by
  constructor
  · intro i z hz
    rw [List.getElem?_append] at hz
    unfold upd
    split at hz
    · have := h.fwd i z hz
      rw [if_neg (fun e => by rw [e, hx] at this; cases this)]
      exact this
    · rename_i hi
      have : i - L.length = 0 := by
        cases hd : i - L.length with
        | zero => rfl
        | succ k => rw [hd] at hz; simp at hz
      rw [this] at hz
      simp only [List.getElem?_cons_zero, Option.some.injEq] at hz
      subst hz
      rw [if_pos rfl]
      congr 1
      omega
  · intro k v hv
    unfold upd at hv
    split at hv
    · rename_i e
      cases hv
      exact ⟨L.length, x, by simp, e.symm, rfl⟩
    · obtain ⟨i, z, a1, a2, a3⟩ := h.bwd k v hv
      have hi : i < L.length := (List.getElem?_eq_some_iff.1 a1).1
      exact ⟨i, z, by rw [List.getElem?_append_left hi]; exact a1, a2, a3⟩
end Go.Ab
