/- heap: rise. -/
import Derived.Test.YtlipmhhndhhgdaaTj
set_option linter.unusedSimpArgs false
set_option linter.unusedVariables false
namespace Go.Ab
open Go.Proofs

structure Idx (L : List Item) (f : Int → Option Int) : Prop where
  fwd : ∀ (i : Nat) (x : Item), L[i]? = some x → f x.id = some (i : Int)
  bwd : ∀ k v, f k = some v → ∃ (i : Nat) (x : Item), L[i]? = some x ∧ x.id = k ∧ v = i

theorem Idx.inj {L : List Item} {f : Int → Option Int} (h : Idx L f) {i j : Nat} {x y : Item} (hi : L[i]? = some x) (hj : L[j]? = some y) (e : x.id = y.id) : i = j := by
  have a := h.fwd i x hi
  have b := h.fwd j y hj
  rw [e, b] at a
  simp only [Option.some.injEq] at a
  omega

theorem swapL_get {L : List Item} {i j : Nat} {x y : Item} (hi : L[i]? = some x) (hj : L[j]? = some y) (k : Nat) : (swapL L i j x y)[k]? = if k = j then some x else if k = i then some y else L[k]? := by
  have hil : i < L.length := (List.getElem?_eq_some_iff.1 hi).1
  have hjl : j < L.length := (List.getElem?_eq_some_iff.1 hj).1
  unfold swapL
  by_cases e : k = j
  · subst e; rw [if_pos rfl, List.getElem?_set_self (by simpa using hjl)]
  · rw [if_neg e, List.getElem?_set_ne (Ne.symm e)]
    by_cases e2 : k = i
    · subst e2; rw [if_pos rfl, List.getElem?_set_self hil]
    · rw [if_neg e2, List.getElem?_set_ne (Ne.symm e2)]

theorem Idx.swap {L : List Item} {f : Int → Option Int} (h : Idx L f) {i j : Nat} {x y : Item} (hi : L[i]? = some x) (hj : L[j]? = some y) : Idx (swapL L i j x y) (upd (upd f (if i = j then x.id else y.id) i) x.id j) := by
  constructor
  · intro k z hz
    rw [swapL_get hi hj] at hz
    unfold upd
    by_cases e : k = j
    · rw [if_pos e] at hz; cases hz; rw [if_pos rfl, e]
    · rw [if_neg e] at hz
      by_cases e2 : k = i
      · rw [if_pos e2] at hz; cases hz
        have hij : i ≠ j := fun q => e (e2.trans q)
        have hne : y.id ≠ x.id := fun q => hij (h.inj hi hj q.symm)
        rw [if_neg hne, if_neg hij, if_pos rfl, e2]
      · rw [if_neg e2] at hz
        have n1 : z.id ≠ x.id := fun q => e2 (h.inj hz hi q)
        have n2 : z.id ≠ y.id := fun q => e (h.inj hz hj q)
        rw [if_neg n1, if_neg (by split; exact n1; exact n2)]
        exact h.fwd k z hz
  · intro k v hk
    unfold upd at hk
    by_cases e : k = x.id
    · rw [if_pos e] at hk; cases hk
      exact ⟨j, x, by rw [swapL_get hi hj, if_pos rfl], e.symm, rfl⟩
    · rw [if_neg e] at hk
      by_cases e2 : k = (if i = j then x.id else y.id)
      · rw [if_pos e2] at hk; cases hk
        have hij : i ≠ j := fun q => e (by rw [e2, if_pos q])
        rw [if_neg hij] at e2
        exact ⟨i, y, by rw [swapL_get hi hj, if_neg hij, if_pos rfl], e2.symm, rfl⟩
      · rw [if_neg e2] at hk
        obtain ⟨i0, x0, a1, a2, a3⟩ := h.bwd k v hk
        have n1 : i0 ≠ i := fun q => e (by subst q; rw [hi] at a1; cases a1; exact a2.symm)
        have n2 : i0 ≠ j := fun q => by
          subst q
          rw [hj] at a1; cases a1
          apply e2
          by_cases hij : i = i0
          · exact absurd hij.symm n1
          · rw [if_neg hij]; exact a2.symm
        exact ⟨i0, x0, by rw [swapL_get hi hj, if_neg n2, if_neg n1]; exact a1, a2, a3⟩

/-- A heap, whose items are well formed and whose map is the list's index. -/
structure HI (σ : St) (h a m : Nat) (L : List Item) (cap : Nat) (t : Int) : Prop where
  hs : ∃ f, HS σ h a m L cap t f ∧ Idx L f
  ok : ∀ x ∈ L, x.ok = true
  small : L.length ≤ 1000000

theorem HI.swap {σ : St} {h a m : Nat} {L : List Item} {cap : Nat} {t : Int} (H : HI σ h a m L cap t) {i j : Nat} {x y : Item} (hi : L[i]? = some x) (hj : L[j]? = some y) :
    ∃ σ', DCall Try.prog 80 [.pointer (some ⟨h, 0, none⟩), .int .i64 i, .int .i64 j] σ (.ret (.tuple ⟨[]⟩)) σ' [a, m] ∧ HI σ' h a m (swapL L i j x y) cap t ∧ σ'.next = σ.next ∧ ∀ c, c ≠ a → c ≠ m → σ'.get c = σ.get c := by
  obtain ⟨f, H1, hx⟩ := H.hs
  obtain ⟨σ', d, H2, nx, k⟩ := swap_call H1 hi hj
  refine ⟨σ', d, ⟨⟨_, H2, hx.swap hi hj⟩, fun z hz => ?_, by rw [swapL_length]; exact H.small⟩, nx, k⟩
  obtain ⟨q, hq⟩ := List.getElem?_of_mem hz
  rw [swapL_get hi hj] at hq
  split at hq
  · cases hq; exact H.ok _ (List.mem_of_getElem? hi)
  · split at hq
    · cases hq; exact H.ok _ (List.mem_of_getElem? hj)
    · exact H.ok _ (List.mem_of_getElem? hq)

def p8 : FuncId → List Value → Option Value
  | 79, [.agg ⟨[.int .i64 a, .int .i64 b, .int .i64 c, .int .i64 d]⟩, .agg ⟨[.int .i64 a', .int .i64 b', .int .i64 c', .int .i64 d']⟩] =>
    if Item.ok ⟨a, b, c, d⟩ && Item.ok ⟨a', b', c', d'⟩ then some (.int .i64 (cmpItem ⟨a, b, c, d⟩ ⟨a', b', c', d'⟩)) else none
  | f, args => p7 f args
theorem p8_is : ∀ f args v, p8 f args = some v → ∀ σ, DCall Try.prog f args σ (.ret v) σ [] := fun f args v h σ => by
  unfold p8 at h
  split at h
  · split at h
    · rename_i hn
      rw [Bool.and_eq_true] at hn
      cases h
      exact order_call _ _ σ hn.1 hn.2
    · cases h
  · exact p7_is f args v h σ
theorem p8_ok : (pureO p8).Ok Try.prog := pureO_ok p8_is

/-- What rise does. -/
def riseL : Nat → List Item → Nat → List Item
  | 0, L, _ => L
  | k + 1, L, n => if n = 0 then L else
    match L[(n - 1) / 2]?, L[n]? with
    | some x, some y => if cmpItem x y ≤ 0 then L else riseL k (swapL L ((n - 1) / 2) n x y) ((n - 1) / 2)
    | _, _ => L

def bt47 : Nat → List Nat
  | 2 => [0, 1, 3, 7, 0, 31, 63, 0, 128, 384, 896, 0, 3968, 8064, 16383, 32767]
  | _ => []

theorem rise_loop {h a m : Nat} {cap : Nat} {t : Int} : ∀ (k n : Nat) (L : List Item) (σ : St) (z : List Value), n < k → z.length = 29 → HI σ h a m L cap t → n < L.length →
    ∃ σ' lg y y1, DL Try.prog false (loopOf (Try.f47.body.getD .skip)) ⟨.pointer (some ⟨h, 0, none⟩) :: .int .i64 n :: z, []⟩ σ ⟨.exit 0, ⟨.pointer (some ⟨h, 0, none⟩) :: y1 :: y, []⟩, σ', lg⟩ ∧ y.length = 29 ∧ (∀ c ∈ lg, c ∈ [a, m]) ∧
      HI σ' h a m (riseL k L n) cap t ∧ σ'.next = σ.next ∧ ∀ c, c ≠ a → c ≠ m → σ'.get c = σ.get c := by
  intro k
  induction k with
  | zero => intro n L σ z hk; omega
  | succ k ih =>
    intro n L σ z hk hz H hn
    obtain ⟨x2, x3, x4, x5, x6, x7, x8, x9, x10, x11, x12, x13, x14, x15, x16, x17, x18, x19, x20, x21, x22, x23, x24, x25, x26, x27, x28, x29, x30, rfl⟩ : ∃ x2 x3 x4 x5 x6 x7 x8 x9 x10 x11 x12 x13 x14 x15 x16 x17 x18 x19 x20 x21 x22 x23 x24 x25 x26 x27 x28 x29 x30, z = [x2, x3, x4, x5, x6, x7, x8, x9, x10, x11, x12, x13, x14, x15, x16, x17, x18, x19, x20, x21, x22, x23, x24, x25, x26, x27, x28, x29, x30] := by
      match z, hz with
      | [x2, x3, x4, x5, x6, x7, x8, x9, x10, x11, x12, x13, x14, x15, x16, x17, x18, x19, x20, x21, x22, x23, x24, x25, x26, x27, x28, x29, x30], _ => exact ⟨_, _, _, _, _, _, _, _, _, _, _, _, _, _, _, _, _, _, _, _, _, _, _, _, _, _, _, _, _, rfl⟩
    by_cases h0 : n = 0
    · subst h0
      refine ⟨σ, [], _, _, DL.out (runs p8_ok 20 bt47 (by kernel_rfl) (r := ⟨.exit 0, ⟨_, []⟩, σ, []⟩) (by simp only [nadd_le, nadd_lt, nle_add, nlt_add, nadd_eq, neq_add, Nat.add_le_add_iff_left, Nat.add_lt_add_iff_left, Nat.add_left_cancel_iff, Nat.add_assoc, Nat.testBit_eq_decide_div_mod_eq, Nat.reducePow, Nat.reduceDiv, Nat.reduceMod, runOps_nil, runOps_cons, runDrawn_nil, runDrawn_cons, run_loop_job, run_scope_job, run_skip, run_label, run_exit, run_goto, run_ret, run_seq, run_cond, run_block, run_loop, run_scope, run_region, pureK_some, pureO_call, callK_ret, callK_panic, opsK_val, opsK_new, opsK_eff, opsK_panic, opsK_enter, opsK_round, opsK_defer, wantK_true, wantK_false, consD_some, callD_ret, drawnK_val, drawnK_new, drawnK_eff, drawnK_enter, condK_true, condK_false, blockK_some, preO_some, thenR_norm, thenR_exit, thenR_goto, thenR_ret, thenR_panic, jumpK_some, jumpK_none, scopeK_goto, scopeK_norm, scopeK_exit, scopeK_ret, scopeK_panic, regO_some, regD_some, regionR_false, regionR_true, dynOk, loud, quietK, stepOp, stepBuiltin, start, Fr.put, putL, wantedA, yieldedA, lget?, ev, evs, evo, lget, plain, plainL, partsA, cx_und, cx_info, cx_flat, opBin, isShift, intOp, shiftOp, strOp, eqOp, opUn, opConvert, RR.pre, endsA, resA, resList, resOne, opPick, opExtract, opBuild, opBuildSlice, opBuild.lgetP, Nat.le_zero_eq, Nat.zero_le, opBox, opNilCheck, opField, opIndex, opCall, AX.inBlock, findLabel, isAggD, partA, placesA, fillA, opMakeFunc, opMakeIface, opPanic, opDefer, bnd, oneCells, vcells, over, opLoad, opStore, opAlloc, opFieldAddr, opIndexAddr, St.get_new, St.get_set, St.get_put, St.next_new, St.next_set, clash, SK.isFull, SK.lg, SK.rd, List.set_cons_succ, List.set_cons_zero, List.getElem?_cons_succ, List.getElem?_cons_zero, List.length_cons, List.length_nil, List.append_nil, List.nil_append, List.cons_append, List.replicate_succ, List.replicate_zero, List.drop_zero, List.drop_succ_cons, List.take_zero, List.take_succ_cons, List.take_nil, List.drop_nil, Option.map_some, Option.map_none, Bool.and_true, Bool.true_and, Bool.and_false, Bool.false_and, Bool.or_true, Bool.true_or, Bool.or_false, Bool.false_or, Bool.not_true, Bool.not_false, decide_true, decide_false, if_true, if_false, ite_true, ite_false, dite_true, dite_false, List.all_cons, List.all_nil, List.any_cons, List.any_nil, List.contains_cons, List.contains_nil, List.isEmpty_nil, List.isEmpty_cons, Nat.reduceAdd, Nat.reduceSub, Nat.reduceMul, Nat.reduceLeDiff, Nat.reduceLT, Nat.reduceEqDiff, Nat.zero_add, Nat.add_zero, beq_self_eq_true, Bool.true_beq, Bool.false_beq, bne_iff_ne, bne_self_eq_false, reduceCtorEq, List.getD_cons_succ, List.getD_cons_zero, List.getD_nil, and_true, true_and, and_self, not_true_eq_false, not_false_eq_true, eq_self, ne_eq, reduceIte, reduceDIte, Option.some.injEq, if_pos rfl, beq_iff_eq, Int.reduceLT, Int.reduceLE, Int.reduceEq, Int.reduceNeg, Int.reduceAdd, Int.reduceSub, Int.reduceMul, Nat.lt_irrefl, Nat.le_refl, Nat.succ_ne_self, List.size_toArray, Int.cast_ofNat_Int, Int.reduceToNat, Nat.zero_mul, Nat.one_mul, Nat.mul_one, loopOf, Option.getD, Int.natCast_zero, Try.f47, Try.underlying3, info3, Try.t3] <;> rfl)) rfl, rfl, by simp, by simpa [riseL] using H, rfl, fun _ _ _ => rfl⟩
    · have hu : (n - 1) / 2 < L.length := by omega
      obtain ⟨x, hx⟩ : ∃ x, L[(n - 1) / 2]? = some x := ⟨_, List.getElem?_eq_getElem hu⟩
      obtain ⟨y, hy⟩ : ∃ y, L[n]? = some y := ⟨_, List.getElem?_eq_getElem hn⟩
      obtain ⟨f, H1, hi⟩ := H.hs
      obtain ⟨G, ga, hG⟩ := H1.ga
      have gh := H1.gh
      have sm := H.small
      have b0 : (0 : Int) < (n : Int) := by omega
      have w1 : IntKind.i64.wrap ((n : Int) - 1) = ((n - 1 : Nat) : Int) := by rw [IntKind.wrap_i64]; omega
      have w2 : IntKind.i64.wrap (((n - 1 : Nat) : Int).tdiv 2) = (((n - 1) / 2 : Nat) : Int) := by
        rw [Int.tdiv_eq_ediv_of_nonneg (by omega), IntKind.wrap_i64]; omega
      generalize hup : (n - 1) / 2 = up at *
      have c1 : (0 : Int) ≤ (up : Int) ∧ (up : Int) < (L.length : Int) := by omega
      have c2 : (0 : Int) ≤ (n : Int) ∧ (n : Int) < (L.length : Int) := by omega
      have e1 := cells_at (G := G) hx
      have e2 := cells_at (G := G) hy
      have l1 : up * 4 + 4 ≤ (cellsL L ++ G).length := by simp [cellsL_length]; omega
      have l2 : n * 4 + 4 ≤ (cellsL L ++ G).length := by simp [cellsL_length]; omega
      have nh : ¬ σ.next ≤ h := by have := H1.lt.1; omega
      have na : ¬ σ.next ≤ a := by have := H1.lt.2.1; omega
      have ox : Item.ok ⟨x.id, x.n, x.d, x.turn⟩ = true := H.ok x (List.mem_of_getElem? hx)
      have oy : Item.ok ⟨y.id, y.n, y.d, y.turn⟩ = true := H.ok y (List.mem_of_getElem? hy)
      simp only [Item.cells] at e1 e2
      by_cases hc : cmpItem ⟨x.id, x.n, x.d, x.turn⟩ ⟨y.id, y.n, y.d, y.turn⟩ ≤ 0
      · refine ⟨σ, [], _, _, DL.out (runs p8_ok 30 bt47 (by kernel_rfl) (r := ⟨.exit 0, ⟨_, []⟩, σ, []⟩) (by simp only [nadd_le, nadd_lt, nle_add, nlt_add, nadd_eq, neq_add, Nat.add_le_add_iff_left, Nat.add_lt_add_iff_left, Nat.add_left_cancel_iff, Nat.add_assoc, Nat.testBit_eq_decide_div_mod_eq, Nat.reducePow, Nat.reduceDiv, Nat.reduceMod, runOps_nil, runOps_cons, runDrawn_nil, runDrawn_cons, run_loop_job, run_scope_job, run_skip, run_label, run_exit, run_goto, run_ret, run_seq, run_cond, run_block, run_loop, run_scope, run_region, pureK_some, pureO_call, callK_ret, callK_panic, opsK_val, opsK_new, opsK_eff, opsK_panic, opsK_enter, opsK_round, opsK_defer, wantK_true, wantK_false, consD_some, callD_ret, drawnK_val, drawnK_new, drawnK_eff, drawnK_enter, condK_true, condK_false, blockK_some, preO_some, thenR_norm, thenR_exit, thenR_goto, thenR_ret, thenR_panic, jumpK_some, jumpK_none, scopeK_goto, scopeK_norm, scopeK_exit, scopeK_ret, scopeK_panic, regO_some, regD_some, regionR_false, regionR_true, dynOk, loud, quietK, stepOp, stepBuiltin, start, Fr.put, putL, wantedA, yieldedA, lget?, ev, evs, evo, lget, plain, plainL, partsA, cx_und, cx_info, cx_flat, opBin, isShift, intOp, shiftOp, strOp, eqOp, opUn, opConvert, RR.pre, endsA, resA, resList, resOne, opPick, opExtract, opBuild, opBuildSlice, opBuild.lgetP, Nat.le_zero_eq, Nat.zero_le, opBox, opNilCheck, opField, opIndex, opCall, AX.inBlock, findLabel, isAggD, partA, placesA, fillA, opMakeFunc, opMakeIface, opPanic, opDefer, bnd, oneCells, vcells, over, opLoad, opStore, opAlloc, opFieldAddr, opIndexAddr, St.get_new, St.get_set, St.get_put, St.next_new, St.next_set, clash, SK.isFull, SK.lg, SK.rd, List.set_cons_succ, List.set_cons_zero, List.getElem?_cons_succ, List.getElem?_cons_zero, List.length_cons, List.length_nil, List.append_nil, List.nil_append, List.cons_append, List.replicate_succ, List.replicate_zero, List.drop_zero, List.drop_succ_cons, List.take_zero, List.take_succ_cons, List.take_nil, List.drop_nil, Option.map_some, Option.map_none, Bool.and_true, Bool.true_and, Bool.and_false, Bool.false_and, Bool.or_true, Bool.true_or, Bool.or_false, Bool.false_or, Bool.not_true, Bool.not_false, decide_true, decide_false, if_true, if_false, ite_true, ite_false, dite_true, dite_false, List.all_cons, List.all_nil, List.any_cons, List.any_nil, List.contains_cons, List.contains_nil, List.isEmpty_nil, List.isEmpty_cons, Nat.reduceAdd, Nat.reduceSub, Nat.reduceMul, Nat.reduceLeDiff, Nat.reduceLT, Nat.reduceEqDiff, Nat.zero_add, Nat.add_zero, beq_self_eq_true, Bool.true_beq, Bool.false_beq, bne_iff_ne, bne_self_eq_false, reduceCtorEq, List.getD_cons_succ, List.getD_cons_zero, List.getD_nil, and_true, true_and, and_self, not_true_eq_false, not_false_eq_true, eq_self, ne_eq, reduceIte, reduceDIte, Option.some.injEq, if_pos rfl, beq_iff_eq, Int.reduceLT, Int.reduceLE, Int.reduceEq, Int.reduceNeg, Int.reduceAdd, Int.reduceSub, Int.reduceMul, Nat.lt_irrefl, Nat.le_refl, Nat.succ_ne_self, List.size_toArray, Int.cast_ofNat_Int, Int.reduceToNat, Nat.zero_mul, Nat.one_mul, Nat.mul_one, loopOf, Option.getD, bt47, p8, b0, w1, w2, c1, c2, e1, e2, l1, l2, nh, na, ox, oy, hc, gh, ga, Int.toNat_natCast, Try.f47, Try.underlying3, info3, Try.t3, Try.underlying26, info26, Try.t26, Try.underlying30, info30, Try.t30, Try.underlying31, info31, Try.t31, Try.underlying37, info37, Try.t37, Try.underlying99, info99, Try.t99, Try.underlying100, info100, Try.t100, body79] <;> rfl)) rfl, rfl, by simp, ?_, rfl, fun _ _ _ => rfl⟩
        have hc' : cmpItem x y ≤ 0 := hc
        simpa [riseL, h0, hup, hx, hy, hc'] using H
      · obtain ⟨σ1, d, HS1, nx, kp⟩ := H.swap hx hy
        have hc' : ¬ cmpItem x y ≤ 0 := hc
        obtain ⟨z', hz', hr⟩ : ∃ z', z'.length = 29 ∧ DC Try.prog false (loopOf (Try.f47.body.getD .skip)) ⟨.pointer (some ⟨h, 0, none⟩) :: .int .i64 n :: [x2, x3, x4, x5, x6, x7, x8, x9, x10, x11, x12, x13, x14, x15, x16, x17, x18, x19, x20, x21, x22, x23, x24, x25, x26, x27, x28, x29, x30], []⟩ σ ⟨.norm, ⟨.pointer (some ⟨h, 0, none⟩) :: .int .i64 up :: z', []⟩, σ1, [a, m]⟩ :=
          ⟨[_, _, _, _, _, _, _, _, _, _, _, _, _, _, _, _, _, _, _, _, _, _, _, _, _, _, _, _, _], rfl, runs (one_ok' p8_ok d) 30 bt47 (by kernel_rfl) (by simp only [nadd_le, nadd_lt, nle_add, nlt_add, nadd_eq, neq_add, Nat.add_le_add_iff_left, Nat.add_lt_add_iff_left, Nat.add_left_cancel_iff, Nat.add_assoc, Nat.testBit_eq_decide_div_mod_eq, Nat.reducePow, Nat.reduceDiv, Nat.reduceMod, runOps_nil, runOps_cons, runDrawn_nil, runDrawn_cons, run_loop_job, run_scope_job, run_skip, run_label, run_exit, run_goto, run_ret, run_seq, run_cond, run_block, run_loop, run_scope, run_region, pureK_some, pureO_call, callK_ret, callK_panic, opsK_val, opsK_new, opsK_eff, opsK_panic, opsK_enter, opsK_round, opsK_defer, wantK_true, wantK_false, consD_some, callD_ret, drawnK_val, drawnK_new, drawnK_eff, drawnK_enter, condK_true, condK_false, blockK_some, preO_some, thenR_norm, thenR_exit, thenR_goto, thenR_ret, thenR_panic, jumpK_some, jumpK_none, scopeK_goto, scopeK_norm, scopeK_exit, scopeK_ret, scopeK_panic, regO_some, regD_some, regionR_false, regionR_true, dynOk, loud, quietK, stepOp, stepBuiltin, start, Fr.put, putL, wantedA, yieldedA, lget?, ev, evs, evo, lget, plain, plainL, partsA, cx_und, cx_info, cx_flat, opBin, isShift, intOp, shiftOp, strOp, eqOp, opUn, opConvert, RR.pre, endsA, resA, resList, resOne, opPick, opExtract, opBuild, opBuildSlice, opBuild.lgetP, Nat.le_zero_eq, Nat.zero_le, opBox, opNilCheck, opField, opIndex, opCall, AX.inBlock, findLabel, isAggD, partA, placesA, fillA, opMakeFunc, opMakeIface, opPanic, opDefer, bnd, oneCells, vcells, over, opLoad, opStore, opAlloc, opFieldAddr, opIndexAddr, St.get_new, St.get_set, St.get_put, St.next_new, St.next_set, clash, SK.isFull, SK.lg, SK.rd, List.set_cons_succ, List.set_cons_zero, List.getElem?_cons_succ, List.getElem?_cons_zero, List.length_cons, List.length_nil, List.append_nil, List.nil_append, List.cons_append, List.replicate_succ, List.replicate_zero, List.drop_zero, List.drop_succ_cons, List.take_zero, List.take_succ_cons, List.take_nil, List.drop_nil, Option.map_some, Option.map_none, Bool.and_true, Bool.true_and, Bool.and_false, Bool.false_and, Bool.or_true, Bool.true_or, Bool.or_false, Bool.false_or, Bool.not_true, Bool.not_false, decide_true, decide_false, if_true, if_false, ite_true, ite_false, dite_true, dite_false, List.all_cons, List.all_nil, List.any_cons, List.any_nil, List.contains_cons, List.contains_nil, List.isEmpty_nil, List.isEmpty_cons, Nat.reduceAdd, Nat.reduceSub, Nat.reduceMul, Nat.reduceLeDiff, Nat.reduceLT, Nat.reduceEqDiff, Nat.zero_add, Nat.add_zero, beq_self_eq_true, Bool.true_beq, Bool.false_beq, bne_iff_ne, bne_self_eq_false, reduceCtorEq, List.getD_cons_succ, List.getD_cons_zero, List.getD_nil, and_true, true_and, and_self, not_true_eq_false, not_false_eq_true, eq_self, ne_eq, reduceIte, reduceDIte, Option.some.injEq, if_pos rfl, beq_iff_eq, Int.reduceLT, Int.reduceLE, Int.reduceEq, Int.reduceNeg, Int.reduceAdd, Int.reduceSub, Int.reduceMul, Nat.lt_irrefl, Nat.le_refl, Nat.succ_ne_self, List.size_toArray, Int.cast_ofNat_Int, Int.reduceToNat, Nat.zero_mul, Nat.one_mul, Nat.mul_one, loopOf, Option.getD, bt47, p8, one_other, Orc.one_call, b0, w1, w2, c1, c2, e1, e2, l1, l2, nh, na, ox, oy, hc, gh, ga, Int.toNat_natCast, Try.f47, Try.underlying3, info3, Try.t3, Try.underlying26, info26, Try.t26, Try.underlying30, info30, Try.t30, Try.underlying31, info31, Try.t31, Try.underlying37, info37, Try.t37, Try.underlying99, info99, Try.t99, Try.underlying100, info100, Try.t100, body79, body80] <;> rfl)⟩
        obtain ⟨σ', lg, yy, y1, hl, hyl, hlg, HF, nx', kp'⟩ := ih up (swapL L up n x y) σ1 z' (by omega) hz' HS1 (by rw [swapL_length]; omega)
        refine ⟨σ', [a, m] ++ lg, yy, y1, DL.next hr rfl hl, hyl, ?_, ?_, by rw [nx', nx], fun c h1 h2 => by rw [kp' c h1 h2, kp c h1 h2]⟩
        · intro c hc2
          rcases List.mem_append.1 hc2 with h3 | h3
          · exact h3
          · exact hlg c h3
        · simpa [riseL, h0, hup, hx, hy, hc'] using HF

theorem rise_call {σ : St} {h a m : Nat} {L : List Item} {cap : Nat} {t : Int} (H : HI σ h a m L cap t) {n : Nat} (hn : n < L.length) :
    ∃ σ', DCall Try.prog 47 [.pointer (some ⟨h, 0, none⟩), .int .i64 n] σ (.ret (.tuple ⟨[]⟩)) σ' [a, m] ∧ HI σ' h a m (riseL (n + 1) L n) cap t ∧ σ'.next = σ.next ∧ ∀ c, c ≠ a → c ≠ m → σ'.get c = σ.get c := by
  obtain ⟨σ', lg, y, y1, hl, hy, hlg, HF, nx, kp⟩ := rise_loop (n + 1) n L σ (List.replicate 29 undef) (by omega) rfl H hn
  refine ⟨σ', DCall.weaken (l := [] ++ lg) (callsD Try.func47 rfl (DC.scope (DS.out (DC.seq (DC.label _ _ _ _) rfl (DC.block (DC.loop hl))) (fun l h => by simp [RR.pre, AX.inBlock] at h))) ?_ rfl rfl) (by simpa using hlg), HF, nx, kp⟩
  simp only [nadd_le, nadd_lt, nle_add, nlt_add, nadd_eq, neq_add, Nat.add_le_add_iff_left, Nat.add_lt_add_iff_left, Nat.add_left_cancel_iff, Nat.add_assoc, Nat.testBit_eq_decide_div_mod_eq, Nat.reducePow, Nat.reduceDiv, Nat.reduceMod, runOps_nil, runOps_cons, runDrawn_nil, runDrawn_cons, run_loop_job, run_scope_job, run_skip, run_label, run_exit, run_goto, run_ret, run_seq, run_cond, run_block, run_loop, run_scope, run_region, pureK_some, pureO_call, callK_ret, callK_panic, opsK_val, opsK_new, opsK_eff, opsK_panic, opsK_enter, opsK_round, opsK_defer, wantK_true, wantK_false, consD_some, callD_ret, drawnK_val, drawnK_new, drawnK_eff, drawnK_enter, condK_true, condK_false, blockK_some, preO_some, thenR_norm, thenR_exit, thenR_goto, thenR_ret, thenR_panic, jumpK_some, jumpK_none, scopeK_goto, scopeK_norm, scopeK_exit, scopeK_ret, scopeK_panic, regO_some, regD_some, regionR_false, regionR_true, dynOk, loud, quietK, stepOp, stepBuiltin, start, Fr.put, putL, wantedA, yieldedA, lget?, ev, evs, evo, lget, plain, plainL, partsA, cx_und, cx_info, cx_flat, opBin, isShift, intOp, shiftOp, strOp, eqOp, opUn, opConvert, RR.pre, endsA, resA, resList, resOne, opPick, opExtract, opBuild, opBuildSlice, opBuild.lgetP, Nat.le_zero_eq, Nat.zero_le, opBox, opNilCheck, opField, opIndex, opCall, AX.inBlock, findLabel, isAggD, partA, placesA, fillA, opMakeFunc, opMakeIface, opPanic, opDefer, bnd, oneCells, vcells, over, opLoad, opStore, opAlloc, opFieldAddr, opIndexAddr, St.get_new, St.get_set, St.get_put, St.next_new, St.next_set, clash, SK.isFull, SK.lg, SK.rd, List.set_cons_succ, List.set_cons_zero, List.getElem?_cons_succ, List.getElem?_cons_zero, List.length_cons, List.length_nil, List.append_nil, List.nil_append, List.cons_append, List.replicate_succ, List.replicate_zero, List.drop_zero, List.drop_succ_cons, List.take_zero, List.take_succ_cons, List.take_nil, List.drop_nil, Option.map_some, Option.map_none, Bool.and_true, Bool.true_and, Bool.and_false, Bool.false_and, Bool.or_true, Bool.true_or, Bool.or_false, Bool.false_or, Bool.not_true, Bool.not_false, decide_true, decide_false, if_true, if_false, ite_true, ite_false, dite_true, dite_false, List.all_cons, List.all_nil, List.any_cons, List.any_nil, List.contains_cons, List.contains_nil, List.isEmpty_nil, List.isEmpty_cons, Nat.reduceAdd, Nat.reduceSub, Nat.reduceMul, Nat.reduceLeDiff, Nat.reduceLT, Nat.reduceEqDiff, Nat.zero_add, Nat.add_zero, beq_self_eq_true, Bool.true_beq, Bool.false_beq, bne_iff_ne, bne_self_eq_false, reduceCtorEq, List.getD_cons_succ, List.getD_cons_zero, List.getD_nil, and_true, true_and, and_self, not_true_eq_false, not_false_eq_true, eq_self, ne_eq, reduceIte, reduceDIte, Option.some.injEq, if_pos rfl, beq_iff_eq, Int.reduceLT, Int.reduceLE, Int.reduceEq, Int.reduceNeg, Int.reduceAdd, Int.reduceSub, Int.reduceMul, Nat.lt_irrefl, Nat.le_refl, Nat.succ_ne_self, List.size_toArray, Int.cast_ofNat_Int, Int.reduceToNat, Nat.zero_mul, Nat.one_mul, Nat.mul_one, Try.f47]
end Go.Ab
