/- HeapCopiesSaid: part 4 of 7 of the proof that it returns true for every input and leaves its arguments as they were; no condition. -/
import Derived.Test.YtlipmhhndhhgdaaJHeapCopiesSaid2
import Derived.Test.YtlipmhhndhhgdaaJHeapCopiesSaid1
set_option linter.unusedSimpArgs false
set_option linter.unusedVariables false
namespace Go.Ab
open Go.Proofs
def OutS (σ : St) (lo : Nat) (v : Value) (D : List Nat) : Prop :=
 lo ≤ σ.next ∧ ((D = [] ∧ v = .slice none 0 0) ∨ ∃ b, lo ≤ b ∧ b < σ.next ∧ v = .slice (some ⟨b, 0, some 3⟩) D.length D.length ∧ σ.get b = some (.cells (dcells D) false))
theorem OutS.big {σ : St} {lo : Nat} {v : Value} {D : List Nat} (h : OutS σ lo v D) : BigS σ v D := by
 rcases h.2 with ⟨rfl, rfl⟩ | ⟨b, h1, h2, h3, h4⟩
 ·exact BigS.nil σ
 ·exact .inr ⟨b, 3, D.length, [], false, h3, .inr rfl, Nat.le_refl _, h2, by rw [h4, List.append_nil]⟩
theorem OutS.new {σ : St} {lo : Nat} {v : Value} {D : List Nat} (h : OutS σ lo v D) : NewBlk lo v := fun b o sp len cap e => by
 rcases h.2 with ⟨_, rfl⟩ | ⟨b', h1, _, rfl, _⟩
 ·cases e
 ·cases e; exact h1
theorem append_digit_nil {σ : St} {b d : Nat} (hg : σ.get b = some (.cells [.int .u32 (d : Int)] false)) :
  opAppend (cP Try.prog).T σ 112 112 (.slice none 0 0) (.slice (some ⟨b, 0, some 0⟩) 1 1) = some (.new (.cells [.int .u32 (d : Int)] false) (.slice (some ⟨σ.next, 0, some 3⟩) 1 1) [b]) := by
 have h112 : (cP Try.prog).T.und 112 = some (.slice 154) := (cx_und 112).trans Try.underlying112
 have h154 : (cP Try.prog).T.info 154 = some Try.t154 := (cx_info 154).trans info154
 simp only [opAppend, h112, h154, srcLen, Try.t154, srcCells, hg]
 simp [isSeqD, oneCells, plain, plainL, vcells]
theorem append_digit {σ : St} {a b d : Nat} {D : List Nat} (hab : σ.get a = some (.cells (dcells D) false)) (hg : σ.get b = some (.cells [.int .u32 (d : Int)] false)) (sm : D.length ≤ 1000000) :
  opAppend (cP Try.prog).T σ 112 112 (.slice (some ⟨a, 0, some 3⟩) D.length D.length) (.slice (some ⟨b, 0, some 0⟩) 1 1) =
   some (.eff (.slice (some ⟨σ.next, 0, some 3⟩) (D.length + 1) (D.length + 1)) ((σ.new (.cells (dcells (D ++ [d])) false)).put a none) [a]) := by
 have h112 : (cP Try.prog).T.und 112 = some (.slice 154) := (cx_und 112).trans Try.underlying112
 have h154 : (cP Try.prog).T.info 154 = some Try.t154 := (cx_info 154).trans info154
 have l3 : ¬ 4294967296 ≤ D.length := by omega
 have tk : (dcells D).take D.length = dcells D := List.take_of_length_le (by rw [dcells_length]; exact Nat.le_refl _)
 have ap : dcells (D ++ [d]) = dcells D ++ [.int .u32 (d : Int)] := by rw [dcells_append]; rfl
 rw [ap]
 simp only [opAppend, h112, h154, srcLen, Try.t154, srcCells, hg, hab]
 simp [isSeqD, oneCells, plain, plainL, vcells, l3, tk, dcells_length]
theorem OutS.more {σ : St} {lo : Nat} {v : Value} {D : List Nat} (h : OutS σ lo v D) (d : Nat) (sm : D.length ≤ 1000000) :
  ∃ σ' v' l r, opAppend (cP Try.prog).T (σ.new (.cells [.int .u32 (d : Int)] false)) 112 112 v (.slice (some ⟨σ.next, 0, some 0⟩) 1 1) = some r ∧
   (∀ (orc : Orc) (dst : Option Tmp) (fr : Fr) (lg : Log) (k : OpsK), opsK orc false dst fr (σ.new (.cells [.int .u32 (d : Int)] false)) lg k (some r) = k (fr.put dst v') σ' (lg ++ l)) ∧ From lo l ∧ OutS σ' lo v' (D ++ [d]) := by
 obtain ⟨h0, h⟩ := h
 have hg : (σ.new (.cells [.int .u32 (d : Int)] false)).get σ.next = some (.cells [.int .u32 (d : Int)] false) := by rw [St.get_new, if_pos rfl]
 rcases h with ⟨rfl, rfl⟩ | ⟨b, h1, h2, rfl, h4⟩
 ·refine ⟨(σ.new (.cells [.int .u32 (d : Int)] false)).new (.cells [.int .u32 (d : Int)] false), _, [], _, append_digit_nil hg, fun _ _ _ lg _ => by rw [opsK_new, List.append_nil]; rfl, From.nil, ?_, .inr ⟨σ.next + 1, by omega, ?_, rfl, ?_⟩⟩
  ·show lo ≤ σ.next + 1 + 1; omega
  ·show σ.next + 1 < σ.next + 1 + 1; omega
  ·rw [St.get_new, if_pos (by rfl)]; rfl
 ·have hb : (σ.new (.cells [.int .u32 (d : Int)] false)).get b = some (.cells (dcells D) false) := by rw [St.get_new, if_neg (by omega)]; exact h4
  refine ⟨((σ.new (.cells [.int .u32 (d : Int)] false)).new (.cells (dcells (D ++ [d])) false)).put b none, _, [b], _, append_digit hb hg sm, fun _ _ _ _ _ => by rw [opsK_eff], fun c hc => ?_, ?_, .inr ⟨σ.next + 1, by omega, ?_, ?_, ?_⟩⟩
  ·simp at hc; omega
  ·show lo ≤ σ.next + 1 + 1; omega
  ·show σ.next + 1 < σ.next + 1 + 1; omega
  ·simp
  ·rw [St.get_put, if_neg (by omega), St.get_new, if_pos (by rfl)]
end Go.Ab
namespace Go.Ab
open Go.Proofs
noncomputable def ofB : Code := Try.f55.body.getD .skip
noncomputable def ofC : Code := loopOf ofB
set_option maxRecDepth 20000 in
theorem of_loop {lo : Nat} : ∀ (k n : Nat) (D : List Nat) (v : Value) (σ : St) (ts : List Value), n < k → n < 18446744073709551616 → D.length + (dig n).length ≤ 1000000 → OutS σ lo v D → ts.length = 15 → lget ts 0 = .int .u64 n → lget ts 3 = v →
  ∃ σ' lg ts' v', DL Try.prog false ofC ⟨ts, []⟩ σ ⟨.exit 0, ⟨ts', []⟩, σ', lg⟩ ∧ ts'.length = 15 ∧ lget ts' 3 = v' ∧ OutS σ' lo v' (D ++ dig n) ∧ From lo lg := by
 intro k
 induction k with
 | zero => intro n D v σ ts hk; omega
 | succ k ih =>
  intro n D v σ ts hk hn hs O hl q0 q3
  by_cases h0 : n = 0
  ·subst h0
   refine ⟨σ, [], _, v, DL.out (runs Orc.none_ok 30 nobt (by kernel_rfl) (r := ⟨.exit 0, ⟨_, []⟩, σ, []⟩) (by simp only [go_sem, seval, if_pos rfl, ofC, ofB, loopOf, Option.getD, lget_put, lgetq_put, List.length_set, q0, q3, hl, Int.natCast_zero, Int.lt_irrefl, Try.f55, Try.underlying3, info3, Try.t3, Try.underlying4, info4, Try.t4, Try.underlying112, info112, Try.t112, Try.underlying115, info115, Try.t115, Try.underlying154, info154, Try.t154] <;> rfl)) rfl, ?_, ?_, ?_, From.nil⟩
   ·simp only [List.length_set, hl]
   ·simp only [lget_put, List.length_set, q3, hl, Nat.reduceEqDiff, Nat.reduceLT, if_true, if_false]
   ·rw [dig_zero, List.append_nil]; exact O
  ·have hd := dig_pos (n := n) (by omega)
   rw [hd, List.length_cons] at hs
   obtain ⟨σ1, v1, l1, r1, hap, hk1, hf, O1⟩ := O.more (n % 65536) (by omega)
   have b0 : (0 : Int) < (n : Int) := by omega
   have e1 : (n : Int).tmod 65536 = ((n % 65536 : Nat) : Int) := by rw [Int.tmod_eq_emod_of_nonneg (by omega)]; rfl
   have e2 : (n : Int).tdiv 65536 = ((n / 65536 : Nat) : Int) := by rw [Int.tdiv_eq_ediv_of_nonneg (by omega)]; rfl
   have w1 : IntKind.u64.wrap ((n % 65536 : Nat) : Int) = ((n % 65536 : Nat) : Int) := by rw [IntKind.wrap_u64]; omega
   have w2 : IntKind.u64.wrap ((n / 65536 : Nat) : Int) = ((n / 65536 : Nat) : Int) := by rw [IntKind.wrap_u64]; omega
   have w3 : IntKind.u32.wrap ((n % 65536 : Nat) : Int) = ((n % 65536 : Nat) : Int) := by rw [IntKind.wrap_u32]; omega
   obtain ⟨ts1, hr, hl1, p0, p3⟩ : ∃ ts1, DC Try.prog false ofC ⟨ts, []⟩ σ ⟨.norm, ⟨ts1, []⟩, σ1, l1⟩ ∧ ts1.length = 15 ∧ lget ts1 0 = .int .u64 (n / 65536 : Nat) ∧ lget ts1 3 = v1 := by
    refine ⟨_, runs Orc.none_ok 30 nobt (by kernel_rfl) (by simp only [go_sem, seval, if_pos rfl, ofC, ofB, loopOf, Option.getD, lget_put, lgetq_put, List.length_set, q0, q3, hl, b0, e1, e2, w1, w2, w3, zerosN, hap, hk1, Try.f55, Try.underlying3, info3, Try.t3, Try.underlying4, info4, Try.t4, Try.underlying112, info112, Try.t112, Try.underlying115, info115, Try.t115, Try.underlying154, info154, Try.t154] <;> rfl), ?_, ?_, ?_⟩
    ·simp only [List.length_set, hl]
    ·simp only [lget_put, List.length_set, q0, q3, hl, Nat.reduceEqDiff, Nat.reduceLT, if_true, if_false]
    ·simp only [lget_put, List.length_set, q0, q3, hl, Nat.reduceEqDiff, Nat.reduceLT, if_true, if_false]
   obtain ⟨σ', lg, ts', v', a1, a2, a3, a4, a5⟩ := ih (n / 65536) _ v1 σ1 ts1 (by omega) (by omega) (by simp; omega) O1 hl1 p0 p3
   refine ⟨σ', l1 ++ lg, ts', v', DL.next hr rfl a1, a2, a3, ?_, hf.append a5⟩
   rw [hd]
   simpa using a4
end Go.Ab
namespace Go.Ab
open Go.Proofs
theorem DCall.fresh {f : FuncId} {args : List Value} {σ σ' : St} {e : AE} {lg : Log} (h : DCall Try.prog f args σ e σ' lg) (hf : From σ.next lg) : DCall Try.prog f args σ e σ' [] :=
 DCall.weaken2 h fun c hc hlt => absurd (hf c hc) (by omega)
theorem of_call {n : Nat} (hn : n < 18446744073709551616) (σ : St) : ∃ σ' v, DCall Try.prog 55 [.int .u64 n] σ (.ret v) σ' [] ∧ BigS σ' v (dig n) ∧ NewBlk σ.next v := by
 obtain ⟨ts0, h0, l0, q0⟩ : ∃ ts0, start [.int .u64 n] Try.f55.ntmps = ⟨ts0, []⟩ ∧ ts0.length = 15 ∧ lget ts0 0 = .int .u64 n := ⟨(start [.int .u64 n] 15).ts, rfl, rfl, rfl⟩
 have hl : (dig n).length ≤ 4 := dig_length_le (by omega)
 obtain ⟨ts1, r1, l1, q1, q3⟩ : ∃ ts1, DC Try.prog false (nthC 0 ofB) ⟨ts0, []⟩ σ ⟨.norm, ⟨ts1, []⟩, σ, []⟩ ∧ ts1.length = 15 ∧ lget ts1 0 = .int .u64 n ∧ True := by
  refine ⟨_, runs Orc.none_ok 30 nobt (by kernel_rfl) (by simp only [go_sem, seval, if_pos rfl, ofB, nthC, Option.getD, lget_put, lgetq_put, List.length_set, q0, l0, Try.f55, Try.underlying3, info3, Try.t3, Try.underlying4, info4, Try.t4, Try.underlying112, info112, Try.t112, Try.underlying154, info154, Try.t154] <;> rfl), ?_, ?_, trivial⟩
  ·simp only [List.length_set, l0]
  ·simp only [lget_put, List.length_set, q0, l0, Nat.reduceEqDiff, Nat.reduceLT, if_true, if_false]
 obtain ⟨ts2, r2, l2, p0, p3⟩ : ∃ ts2, DC Try.prog false (nthC 1 ofB) ⟨ts1, []⟩ σ ⟨.norm, ⟨ts2, []⟩, σ, []⟩ ∧ ts2.length = 15 ∧ lget ts2 0 = .int .u64 n ∧ lget ts2 3 = .slice none 0 0 := by
  refine ⟨_, runs Orc.none_ok 30 nobt (by kernel_rfl) (by simp only [go_sem, seval, if_pos rfl, ofB, nthC, Option.getD, lget_put, lgetq_put, List.length_set, q1, l1, Try.f55, Try.underlying3, info3, Try.t3, Try.underlying4, info4, Try.t4, Try.underlying112, info112, Try.t112, Try.underlying154, info154, Try.t154] <;> rfl), ?_, ?_, ?_⟩
  ·simp only [List.length_set, l1]
  ·simp only [lget_put, List.length_set, q1, l1, Nat.reduceEqDiff, Nat.reduceLT, if_true, if_false]
  ·simp only [lget_put, List.length_set, q1, l1, Nat.reduceEqDiff, Nat.reduceLT, if_true, if_false]
 obtain ⟨σ3, lg3, ts3, v, d3, l3, p3', O3, f3⟩ := of_loop (n + 1) n [] _ σ ts2 (by omega) hn (by simp; omega) ⟨Nat.le_refl _, .inl ⟨rfl, rfl⟩⟩ l2 p0 p3
 obtain ⟨ts4, r4, p2⟩ : ∃ ts4, DC Try.prog false (nthC 3 ofB) ⟨ts3, []⟩ σ3 ⟨.norm, ⟨ts4, []⟩, σ3, []⟩ ∧ lget ts4 2 = v := by
  refine ⟨_, runs Orc.none_ok 30 nobt (by kernel_rfl) (by simp only [go_sem, seval, if_pos rfl, ofB, nthC, Option.getD, lget_put, lgetq_put, List.length_set, p3', l3, Try.f55, Try.underlying3, info3, Try.t3, Try.underlying4, info4, Try.t4, Try.underlying112, info112, Try.t112, Try.underlying154, info154, Try.t154] <;> rfl), ?_⟩
  simp only [lget_put, List.length_set, p3', l3, Nat.reduceEqDiff, Nat.reduceLT, if_true, if_false]
 refine ⟨σ3, v, DCall.fresh (callsD Try.func55 (rfl : Try.f55.body = some ofB) (h0 ▸ DC.seq r1 rfl (DC.seq r2 rfl (DC.seq (DC.block (DC.loop d3)) rfl (DC.seq r4 rfl (DC.ret _ _ _))))) ?_ rfl rfl) ?_, by simpa using O3.big, O3.new⟩
 ·simp only [endsA, Try.f55, resA, resList, resOne, p2, Option.map, RR.pre]
 ·exact From.nil.append (From.nil.append (f3.append (From.nil.append From.nil)))
theorem dig_len_lt {a b : Nat} (h : (dig a).length < (dig b).length) : a < b := by
 rcases Nat.lt_or_ge a b with h1 | h1
 ·exact h1
 ·have h2 := val_lt _ (dig_low a)
  rw [val_dig] at h2
  have := dig_length_le (Nat.lt_of_le_of_lt h1 h2)
  omega
theorem val_top {D E T : List Nat} {x y : Nat} (hD : Low D) (hl : D.length = E.length) (h : x < y) : val (D ++ x :: T) < val (E ++ y :: T) := by
 rw [val_append, val_append, hl, val, val]
 have h1 := val_lt D hD
 rw [hl] at h1
 have h2 : 65536 ^ E.length * (x + 65536 * val T) + 65536 ^ E.length ≤ 65536 ^ E.length * (y + 65536 * val T) := by
  rw [← Nat.mul_succ]
  exact Nat.mul_le_mul_left _ (by omega)
 omega
def bt57 : Nat → List Nat
 | 6 => [0, 0, 3, 7, 0, 0, 48, 112, 255]
 | 7 => [0, 0, 3, 7, 0, 0, 48, 112, 255, 511]
 | _ => []
noncomputable def lessB : Code := Try.f57.body.getD .skip
noncomputable def lessC : Code := loopOf lessB
theorem less_loop {A B : Nat} {v w : Value} {σ : St} (hA : BigS σ v (dig A)) (hB : BigS σ w (dig B)) (hlen : (dig A).length = (dig B).length) (hs : (dig A).length ≤ 1000000) :
  ∀ (k : Nat) (D E T : List Nat) (ts : List Value), D.length < k → dig A = D ++ T → dig B = E ++ T → ts.length = 41 → lget ts 0 = v → lget ts 1 = w → lget ts 5 = .int .i64 ((D.length : Int) - 1) →
  ∃ x ts', DL Try.prog false lessC ⟨ts, []⟩ σ ⟨x, ⟨ts', []⟩, σ, []⟩ ∧ ts'.length = 41 ∧ ((x = .ret ∧ lget ts' 4 = .bool (decide (A < B))) ∨ (x = .exit 0 ∧ A = B)) := by
 intro k
 induction k with
 | zero => intro D E T ts hk; omega
 | succ k ih =>
  intro D E T ts hk eA eB hl q0 q1 q5
  have hDE : D.length = E.length := by
   rw [eA, eB] at hlen
   simp at hlen; exact hlen
  rcases List.eq_nil_or_concat D with rfl | ⟨D', x, rfl⟩
  ·obtain rfl : E = [] := List.eq_nil_of_length_eq_zero hDE.symm
   have hAB : A = B := by
    rw [← val_dig A, ← val_dig B, eA, eB]
   have b1 : ¬ (0 : Int) ≤ (([] : List Nat).length : Int) - 1 := by simp
   refine ⟨_, _, DL.out (runs Orc.none_ok 30 bt57 (by kernel_rfl) (r := ⟨.exit 0, ⟨_, []⟩, σ, []⟩) (by simp only [go_sem, seval, if_pos rfl, lessC, lessB, loopOf, Option.getD, lget_put, lgetq_put, List.length_set, q0, q1, q5, hl, b1, Try.f57, Try.underlying3, info3, Try.t3, Try.underlying4, info4, Try.t4, Try.underlying112, info112, Try.t112, Try.underlying115, info115, Try.t115, Try.underlying154, info154, Try.t154] <;> rfl)) rfl, ?_, .inr ⟨rfl, hAB⟩⟩
   simp only [List.length_set, hl]
  ·rw [List.concat_eq_append] at *
   rcases List.eq_nil_or_concat E with rfl | ⟨E', y, rfl⟩
   ·simp at hDE
   rw [List.concat_eq_append] at *
   simp only [List.length_append, List.length_singleton] at hDE hk q5
   have hl' : D'.length = E'.length := by omega
   have atA : (dig A)[D'.length]? = some x := by rw [eA]; simp
   have atB : (dig B)[D'.length]? = some y := by rw [eB, hl']; simp
   obtain ⟨b, sp, cap, vs, ro, rfl, hb, hg, he⟩ := hA.at atA
   obtain ⟨b', sp', cap', vs', ro', rfl, hb', hg', he'⟩ := hB.at atB
   have e5 : (((D'.length + 1 : Nat) : Int)) - 1 = (D'.length : Int) := by omega
   rw [e5] at q5
   have iA := (List.getElem?_eq_some_iff.1 atA).1
   have iB := (List.getElem?_eq_some_iff.1 atB).1
   have c0 : (0 : Int) ≤ (D'.length : Int) := by omega
   have nb : ¬ σ.next ≤ b := by omega
   have nb' : ¬ σ.next ≤ b' := by omega
   have c1 : (0 : Int) ≤ (D'.length : Int) ∧ (D'.length : Int) < ((dig A).length : Int) := by omega
   have c2 : (0 : Int) ≤ (D'.length : Int) ∧ (D'.length : Int) < ((dig B).length : Int) := by omega
   have lowA : Low D' := fun z hz => dig_low A z (by rw [eA]; simp [hz])
   have lowB : Low E' := fun z hz => dig_low B z (by rw [eB]; simp [hz])
   by_cases hxy : x = y
   ·subst hxy
    have e0 : ((x : Int) != (x : Int)) = false := by simp
    have w1 : IntKind.i64.wrap ((D'.length : Int) - 1) = (D'.length : Int) - 1 := by rw [IntKind.wrap_i64]; omega
    obtain ⟨ts1, hr, hl1, p0, p1, p5⟩ : ∃ ts1, DC Try.prog false lessC ⟨ts, []⟩ σ ⟨.norm, ⟨ts1, []⟩, σ, []⟩ ∧ ts1.length = 41 ∧ lget ts1 0 = .slice (some ⟨b, 0, some sp⟩) (dig A).length cap ∧ lget ts1 1 = .slice (some ⟨b', 0, some sp'⟩) (dig B).length cap' ∧ lget ts1 5 = .int .i64 ((D'.length : Int) - 1) := by
     refine ⟨_, runs Orc.none_ok 30 bt57 (by kernel_rfl) (by simp only [go_sem, seval, if_pos rfl, bt57, lessC, lessB, loopOf, Option.getD, lget_put, lgetq_put, List.length_set, q0, q1, q5, hl, c0, c1, c2, nb, nb', hg, he, hg', he', e0, w1, Int.toNat_natCast, Try.f57, Try.underlying3, info3, Try.t3, Try.underlying4, info4, Try.t4, Try.underlying112, info112, Try.t112, Try.underlying115, info115, Try.t115, Try.underlying154, info154, Try.t154] <;> rfl), ?_, ?_, ?_, ?_⟩
     ·simp only [List.length_set, hl]
     ·simp only [lget_put, List.length_set, q0, hl, Nat.reduceEqDiff, Nat.reduceLT, if_true, if_false]
     ·simp only [lget_put, List.length_set, q1, hl, Nat.reduceEqDiff, Nat.reduceLT, if_true, if_false]
     ·simp only [lget_put, List.length_set, hl, Nat.reduceEqDiff, Nat.reduceLT, if_true, if_false]
    obtain ⟨z, ts', a1, a2, a3⟩ := ih D' E' (x :: T) ts1 (by omega) (by rw [eA]; simp) (by rw [eB]; simp) hl1 p0 p1 p5
    exact ⟨z, ts', DL.next hr rfl a1, a2, a3⟩
   ·have e0 : ((x : Int) != (y : Int)) = true := by simp; omega
    have hcmp : decide ((x : Int) < (y : Int)) = decide (A < B) := by
     have : (x : Int) < (y : Int) ↔ A < B := by
      rw [← val_dig A, ← val_dig B, eA, eB, List.append_assoc, List.append_assoc]
      constructor
      ·intro h
       exact val_top lowA hl' (by omega)
      ·intro h
       rcases Nat.lt_or_ge x y with h1 | h1
       ·omega
       ·have := val_top (T := T) lowB hl'.symm (by omega : y < x)
        simp at h; omega
     simp [this]
    refine ⟨_, _, DL.out (runs Orc.none_ok 30 bt57 (by kernel_rfl) (r := ⟨.ret, ⟨_, []⟩, σ, []⟩) (by simp only [go_sem, seval, if_pos rfl, bt57, lessC, lessB, loopOf, Option.getD, lget_put, lgetq_put, List.length_set, q0, q1, q5, hl, c0, c1, c2, nb, nb', hg, he, hg', he', e0, hcmp, Int.toNat_natCast, Try.f57, Try.underlying3, info3, Try.t3, Try.underlying4, info4, Try.t4, Try.underlying112, info112, Try.t112, Try.underlying115, info115, Try.t115, Try.underlying154, info154, Try.t154] <;> rfl)) rfl, ?_, .inl ⟨rfl, ?_⟩⟩
    ·simp only [List.length_set, hl]
    ·simp only [lget_put, List.length_set, hl, Nat.reduceEqDiff, Nat.reduceLT, if_true, if_false]
end Go.Ab
namespace Go.Ab
open Go.Proofs
theorem less_call' {A B : Nat} {v w : Value} {σ : St} (hA : BigS σ v (dig A)) (hB : BigS σ w (dig B)) (sA : (dig A).length ≤ 1000000) (sB : (dig B).length ≤ 1000000) : DCall Try.prog 57 [v, w] σ (.ret (.bool (decide (A < B)))) σ [] := by
 obtain ⟨ts0, h0, l0, q0, q1⟩ : ∃ ts0, start [v, w] Try.f57.ntmps = ⟨ts0, []⟩ ∧ ts0.length = 41 ∧ lget ts0 0 = v ∧ lget ts0 1 = w := ⟨(start [v, w] 41).ts, rfl, rfl, rfl, rfl⟩
 have oA := hA.len
 have oB := hB.len
 obtain ⟨ts1, r1, l1, p0, p1⟩ : ∃ ts1, DC Try.prog false (nthC 0 lessB) ⟨ts0, []⟩ σ ⟨.norm, ⟨ts1, []⟩, σ, []⟩ ∧ ts1.length = 41 ∧ lget ts1 0 = v ∧ lget ts1 1 = w := by
  refine ⟨_, runs Orc.none_ok 30 nobt (by kernel_rfl) (by simp only [go_sem, seval, if_pos rfl, lessB, nthC, Option.getD, lget_put, lgetq_put, List.length_set, q0, q1, l0, Try.f57, Try.underlying3, info3, Try.t3, Try.underlying4, info4, Try.t4, Try.underlying112, info112, Try.t112, Try.underlying154, info154, Try.t154] <;> rfl), ?_, ?_, ?_⟩
  ·simp only [List.length_set, l0]
  ·simp only [lget_put, List.length_set, q0, l0, Nat.reduceEqDiff, Nat.reduceLT, if_true, if_false]
  ·simp only [lget_put, List.length_set, q1, l0, Nat.reduceEqDiff, Nat.reduceLT, if_true, if_false]
 by_cases hl : (dig A).length = (dig B).length
 ·have e1 : (((dig A).length : Int) != ((dig B).length : Int)) = false := by simp [hl]
  obtain ⟨ts2, r2, l2, p0, p1⟩ : ∃ ts2, DC Try.prog false (nthC 1 lessB) ⟨ts1, []⟩ σ ⟨.norm, ⟨ts2, []⟩, σ, []⟩ ∧ ts2.length = 41 ∧ lget ts2 0 = v ∧ lget ts2 1 = w := by
   refine ⟨_, runs Orc.none_ok 30 nobt (by kernel_rfl) (by simp only [go_sem, seval, if_pos rfl, lessB, nthC, Option.getD, lget_put, lgetq_put, List.length_set, p0, p1, l1, oA, oB, e1, Try.f57, Try.underlying3, info3, Try.t3, Try.underlying4, info4, Try.t4, Try.underlying112, info112, Try.t112, Try.underlying154, info154, Try.t154] <;> rfl), ?_, ?_, ?_⟩
   ·simp only [List.length_set, l1]
   ·simp only [lget_put, List.length_set, p0, l1, Nat.reduceEqDiff, Nat.reduceLT, if_true, if_false]
   ·simp only [lget_put, List.length_set, p1, l1, Nat.reduceEqDiff, Nat.reduceLT, if_true, if_false]
  have w1 : IntKind.i64.wrap (((dig A).length : Int) - 1) = ((dig A).length : Int) - 1 := by rw [IntKind.wrap_i64]; omega
  obtain ⟨ts3, r3, l3, p0, p1, p5⟩ : ∃ ts3, DC Try.prog false (nthC 0 (nthC 2 lessB)) ⟨ts2, []⟩ σ ⟨.norm, ⟨ts3, []⟩, σ, []⟩ ∧ ts3.length = 41 ∧ lget ts3 0 = v ∧ lget ts3 1 = w ∧ lget ts3 5 = .int .i64 (((dig A).length : Int) - 1) := by
   refine ⟨_, runs Orc.none_ok 30 nobt (by kernel_rfl) (by simp only [go_sem, seval, if_pos rfl, lessB, nthC, Option.getD, lget_put, lgetq_put, List.length_set, p0, p1, l2, oA, oB, w1, Try.f57, Try.underlying3, info3, Try.t3, Try.underlying4, info4, Try.t4, Try.underlying112, info112, Try.t112, Try.underlying154, info154, Try.t154] <;> rfl), ?_, ?_, ?_, ?_⟩
   ·simp only [List.length_set, l2]
   ·simp only [lget_put, List.length_set, p0, l2, Nat.reduceEqDiff, Nat.reduceLT, if_true, if_false]
   ·simp only [lget_put, List.length_set, p1, l2, Nat.reduceEqDiff, Nat.reduceLT, if_true, if_false]
   ·simp only [lget_put, List.length_set, l2, Nat.reduceEqDiff, Nat.reduceLT, if_true, if_false]
  obtain ⟨x, ts4, d4, l4, hx⟩ := less_loop hA hB hl sA ((dig A).length + 1) (dig A) (dig B) [] ts3 (by omega) (by simp) (by simp) l3 p0 p1 p5
  rcases hx with ⟨rfl, p4⟩ | ⟨rfl, rfl⟩
  ·refine callsD Try.func57 (rfl : Try.f57.body = some lessB) (h0 ▸ DC.seq r1 rfl (DC.seq r2 rfl (DC.seq_out (DC.seq r3 rfl (DC.block (DC.loop d4))) rfl))) ?_ rfl rfl
   simp only [endsA, Try.f57, resA, resList, resOne, p4, Option.map, RR.pre, AX.inBlock]
  ·obtain ⟨ts5, r5, p4⟩ : ∃ ts5, DC Try.prog false (nthC 3 lessB) ⟨ts4, []⟩ σ ⟨.norm, ⟨ts5, []⟩, σ, []⟩ ∧ lget ts5 4 = .bool false := by
    refine ⟨_, runs Orc.none_ok 30 nobt (by kernel_rfl) (by simp only [go_sem, seval, if_pos rfl, lessB, nthC, Option.getD, lget_put, lgetq_put, List.length_set, l4, Try.f57, Try.underlying3, info3, Try.t3, Try.underlying4, info4, Try.t4, Try.underlying112, info112, Try.t112, Try.underlying154, info154, Try.t154] <;> rfl), ?_⟩
    simp only [lget_put, List.length_set, l4, Nat.reduceEqDiff, Nat.reduceLT, if_true, if_false]
   refine callsD Try.func57 (rfl : Try.f57.body = some lessB) (h0 ▸ DC.seq r1 rfl (DC.seq r2 rfl (DC.seq (DC.seq r3 rfl (DC.block (DC.loop d4))) rfl (DC.seq r5 rfl (DC.ret _ _ _))))) ?_ rfl rfl
   have : decide (A < A) = false := by simp
   simp only [endsA, Try.f57, resA, resList, resOne, p4, Option.map, RR.pre, this]
 ·have e1 : (((dig A).length : Int) != ((dig B).length : Int)) = true := by simp; omega
  have e2 : decide (((dig A).length : Int) < ((dig B).length : Int)) = decide (A < B) := by
   have : ((dig A).length : Int) < ((dig B).length : Int) ↔ A < B := by
    constructor
    ·intro h; exact dig_len_lt (by omega)
    ·intro h
     rcases Nat.lt_or_ge (dig A).length (dig B).length with h1 | h1
     ·omega
     ·have := dig_len_lt (a := B) (b := A) (by omega)
      omega
   simp [this]
  obtain ⟨ts2, r2, p4⟩ : ∃ ts2, DC Try.prog false (nthC 1 lessB) ⟨ts1, []⟩ σ ⟨.ret, ⟨ts2, []⟩, σ, []⟩ ∧ lget ts2 4 = .bool (decide (A < B)) := by
   refine ⟨_, runs Orc.none_ok 30 nobt (by kernel_rfl) (by simp only [go_sem, seval, if_pos rfl, lessB, nthC, Option.getD, lget_put, lgetq_put, List.length_set, p0, p1, l1, oA, oB, e1, e2, Try.f57, Try.underlying3, info3, Try.t3, Try.underlying4, info4, Try.t4, Try.underlying112, info112, Try.t112, Try.underlying154, info154, Try.t154] <;> rfl), ?_⟩
   simp only [lget_put, List.length_set, l1, Nat.reduceEqDiff, Nat.reduceLT, if_true, if_false]
  refine callsD Try.func57 (rfl : Try.f57.body = some lessB) (h0 ▸ DC.seq r1 rfl (DC.seq_out r2 rfl)) ?_ rfl rfl
  simp only [endsA, Try.f57, resA, resList, resOne, p4, Option.map, RR.pre]
end Go.Ab
namespace Go.Ab
open Go.Proofs
theorem over_digit : ∀ (O : List Nat) (j x : Nat), j < O.length → over (dcells O) j [.int .u32 (x : Int)] = dcells (O.set j x)
 | [], _, _, h => by simp at h
 | y :: O, 0, x, _ => by simp [dcells, over, dv]
 | y :: O, j + 1, x, h => by
  have := over_digit O j x (by simpa using h)
  simp only [dcells, List.map_cons, List.set_cons_succ, over] at this ⊢
  rw [this]
theorem val_set : ∀ (O : List Nat) (j x y : Nat), O[j]? = some y → val (O.set j x) + y * 65536 ^ j = val O + x * 65536 ^ j
 | [], _, _, _, h => by simp at h
 | z :: O, 0, x, y, h => by
  simp only [List.getElem?_cons_zero, Option.some.injEq] at h
  subst h
  simp [val]; omega
 | z :: O, j + 1, x, y, h => by
  simp only [List.getElem?_cons_succ] at h
  have := val_set O j x y h
  simp only [List.set_cons_succ, val]
  have e1 : y * 65536 ^ (j + 1) = 65536 * (y * 65536 ^ j) := by rw [Nat.pow_succ, ← Nat.mul_assoc, Nat.mul_comm]
  have e2 : x * 65536 ^ (j + 1) = 65536 * (x * 65536 ^ j) := by rw [Nat.pow_succ, ← Nat.mul_assoc, Nat.mul_comm]
  rw [e1, e2]
  omega
theorem Low.set {O : List Nat} (h : Low O) {j x : Nat} (hx : x < 65536) : Low (O.set j x) := fun z hz => by
 rcases List.mem_or_eq_of_mem_set hz with h1 | h1
 ·exact h z h1
 ·omega
theorem val_take {B : List Nat} {k y : Nat} (h : B[k]? = some y) : val (B.take (k + 1)) = val (B.take k) + y * 65536 ^ k := by
 have hl := (List.getElem?_eq_some_iff.1 h).1
 have : B.take (k + 1) = B.take k ++ [y] := by
  rw [List.take_add_one, h]; rfl
 rw [this, val_append, List.length_take, Nat.min_eq_left (by omega)]
 simp [val, Nat.mul_comm]
theorem val_zeros : ∀ n, val (List.replicate n 0) = 0
 | 0 => rfl
 | n + 1 => by simp [List.replicate_succ, val, val_zeros n]
structure MulI (A B O : List Nat) (i k c a : Nat) : Prop where
 len : O.length = A.length + B.length
 low : Low O
 hc : c < 65536
 hk : k ≤ B.length + 1
 ha : A[i]? = some a
 v : val O + c * 65536 ^ (i + k) = val (A.take i) * val B + a * 65536 ^ i * val (B.take k)
theorem MulI.bound {A B O : List Nat} {i k c a : Nat} (h : MulI A B O i k c a) (hA : Low A) (hB : Low B) (hk : B.length ≤ k) (hc : 0 < c) : k = B.length ∧ i + k < A.length + B.length := by
 have hi := (List.getElem?_eq_some_iff.1 h.ha).1
 have e : B.take k = B := List.take_of_length_le hk
 have hv := h.v
 rw [e] at hv
 have e2 : val (A.take i) * val B + a * 65536 ^ i * val B = val (A.take (i + 1)) * val B := by
  rw [val_take h.ha, Nat.add_mul]
 rw [e2] at hv
 have h1 : val (A.take (i + 1)) < 65536 ^ (i + 1) := by
  have := val_lt (A.take (i + 1)) (fun x hx => hA x (List.mem_of_mem_take hx))
  rwa [List.length_take, Nat.min_eq_left (by omega)] at this
 have h2 := val_lt B hB
 have h3 : val (A.take (i + 1)) * val B < 65536 ^ (i + 1 + B.length) := by
  rw [Nat.pow_add]
  exact Nat.mul_lt_mul'' h1 h2
 have h4 : 65536 ^ (i + k) ≤ c * 65536 ^ (i + k) := Nat.le_mul_of_pos_left _ hc
 have h5 : 65536 ^ (i + k) < 65536 ^ (i + 1 + B.length) := by omega
 have h6 : i + k < i + 1 + B.length := (Nat.pow_lt_pow_iff_right (by omega)).1 h5
 omega
theorem MulI.step {A B O : List Nat} {i k c a o p : Nat} (h : MulI A B O i k c a) (hk : k ≤ B.length) (ho : O[i + k]? = some o) (hp : a * 65536 ^ i * val (B.take (k + 1)) = a * 65536 ^ i * val (B.take k) + p * 65536 ^ (i + k)) (hb : c + o + p < 4294967296) :
  MulI A B (O.set (i + k) ((c + o + p) % 65536)) i (k + 1) ((c + o + p) / 65536) a where
 len := by rw [List.length_set]; exact h.len
 low := h.low.set (Nat.mod_lt _ (by omega))
 hc := by omega
 hk := by omega
 ha := h.ha
 v := by
  have h1 := val_set O (i + k) ((c + o + p) % 65536) o ho
  have hv := h.v
  rw [hp]
  have e1 : (c + o + p) / 65536 * 65536 ^ (i + (k + 1)) = ((c + o + p) / 65536 * 65536) * 65536 ^ (i + k) := by
   rw [← Nat.add_assoc, Nat.pow_succ, Nat.mul_assoc, Nat.mul_comm (65536 ^ (i + k)) 65536]
  rw [e1]
  have e2 : ((c + o + p) / 65536 * 65536) * 65536 ^ (i + k) + (c + o + p) % 65536 * 65536 ^ (i + k) = c * 65536 ^ (i + k) + o * 65536 ^ (i + k) + p * 65536 ^ (i + k) := by
   rw [← Nat.add_mul, ← Nat.add_mul, ← Nat.add_mul]
   congr 1
   omega
  omega
theorem MulI.done {A B O : List Nat} {i k a : Nat} (h : MulI A B O i k 0 a) (hk : B.length ≤ k) : val O = val (A.take (i + 1)) * val B := by
 have hv := h.v
 rw [List.take_of_length_le hk] at hv
 rw [val_take h.ha, Nat.add_mul]
 simpa using hv
end Go.Ab
namespace Go.Ab
open Go.Proofs
def bt54 : Nat → List Nat
 | 11 => [0, 0, 0, 6, 14, 30, 0, 0, 192, 448, 960, 2046, 4095, 8191]
 | _ => []
noncomputable def mulB : Code := Try.f54.body.getD .skip
noncomputable def mulC : Code := loopOf mulB
noncomputable def mulD : Code := loopOf mulC
structure MF (ts : List Value) (v w : Value) (bo L i : Nat) : Prop where
 len : ts.length = 69
 t0 : lget ts 0 = v
 t1 : lget ts 1 = w
 t5 : lget ts 5 = .slice (some ⟨bo, 0, some 0⟩) L L
 t6 : lget ts 6 = .int .i64 i
theorem dcells_at {O : List Nat} {j o : Nat} (h : O[j]? = some o) : lget? (dcells O) j = some (.int .u32 (o : Int)) := by
 rw [lget?_eq]; simp [dcells, h, dv]
structure MS (σ₀ σ : St) (bo : Nat) (O : List Nat) : Prop where
 lo : σ₀.next ≤ bo
 nx : bo < σ.next
 get : σ.get bo = some (.cells (dcells O) false)
 keep : ∀ c, c < σ₀.next → σ.get c = σ₀.get c
set_option maxRecDepth 20000 in
theorem mul_inner {A B : List Nat} {v w : Value} {σ₀ : St} {bo i a : Nat} (bA : BigS σ₀ v A) (bB : BigS σ₀ w B) (hA : Low A) (hB : Low B) (sA : A.length ≤ 1000000) (sB : B.length ≤ 1000000) :
  ∀ (n k c : Nat) (O : List Nat) (σ : St) (ts : List Value), B.length + 2 - k < n → MulI A B O i k c a → MF ts v w bo (A.length + B.length) i → lget ts 7 = .int .u64 c → lget ts 8 = .int .i64 k → MS σ₀ σ bo O →
  ∃ σ' lg ts' O' k', DL Try.prog false mulD ⟨ts, []⟩ σ ⟨.exit 2, ⟨ts', []⟩, σ', lg⟩ ∧ MulI A B O' i k' 0 a ∧ B.length ≤ k' ∧ MF ts' v w bo (A.length + B.length) i ∧ MS σ₀ σ' bo O' ∧ (∀ x ∈ lg, x = bo) := by
 intro n
 induction n with
 | zero => intro k c O σ ts hk; omega
 | succ n ih =>
  intro k c O σ ts hk M F t7 t8 S
  have q0 := F.t0
  have q1 := F.t1
  have q5 := F.t5
  have q6 := F.t6
  have ql := F.len
  have oB := bB.len
  have hi := (List.getElem?_eq_some_iff.1 M.ha).1
  have ha : a < 65536 := hA a (List.mem_of_getElem? M.ha)
  have gO := S.get
  have w9 : IntKind.i64.wrap ((k : Int) + 1) = ((k + 1 : Nat) : Int) := by rw [IntKind.wrap_i64]; have := M.hk; omega
  have wi : IntKind.i64.wrap ((i : Int) + (k : Int)) = ((i + k : Nat) : Int) := by rw [IntKind.wrap_i64]; have := M.hk; omega
  have step : ∀ (p : Nat) (o : Nat) (ts1 : List Value), O[i + k]? = some o → k ≤ B.length → a * 65536 ^ i * val (B.take (k + 1)) = a * 65536 ^ i * val (B.take k) + p * 65536 ^ (i + k) → c + o + p < 4294967296 →
    DC Try.prog false mulD ⟨ts, []⟩ σ ⟨.norm, ⟨ts1, []⟩, σ.set bo (.cells (dcells (O.set (i + k) ((c + o + p) % 65536))) false), [bo]⟩ → MF ts1 v w bo (A.length + B.length) i → lget ts1 7 = .int .u64 ((c + o + p) / 65536 : Nat) → lget ts1 8 = .int .i64 (k + 1 : Nat) →
    ∃ σ' lg ts' O' k', DL Try.prog false mulD ⟨ts, []⟩ σ ⟨.exit 2, ⟨ts', []⟩, σ', lg⟩ ∧ MulI A B O' i k' 0 a ∧ B.length ≤ k' ∧ MF ts' v w bo (A.length + B.length) i ∧ MS σ₀ σ' bo O' ∧ (∀ x ∈ lg, x = bo) := by
   intro p o ts1 ho hkB hp hb hr F1 t71 t81
   obtain ⟨σ', lg, ts', O', k', a1, a2, a3, a4, a5, a6⟩ := ih (k + 1) _ _ (σ.set bo (.cells (dcells (O.set (i + k) ((c + o + p) % 65536))) false)) ts1 (by omega) (M.step hkB ho hp hb) F1 t71 t81
    ⟨S.lo, S.nx, by rw [St.get_set, if_pos rfl], fun c hc => by rw [St.get_set, if_neg (by have := S.lo; omega)]; exact S.keep c hc⟩
   exact ⟨σ', [bo] ++ lg, ts', O', k', DL.next hr rfl a1, a2, a3, a4, a5, fun x hx => by
    rcases List.mem_append.1 hx with h | h
    ·simpa using h
    ·exact a6 x h⟩
  by_cases hkB : k < B.length
  ·obtain ⟨y, hy⟩ : ∃ y, B[k]? = some y := ⟨_, List.getElem?_eq_getElem hkB⟩
   obtain ⟨o, ho⟩ : ∃ o, O[i + k]? = some o := ⟨_, List.getElem?_eq_getElem (by rw [M.len]; omega)⟩
   have hy' : y < 65536 := hB y (List.mem_of_getElem? hy)
   have ho' : o < 65536 := M.low o (List.mem_of_getElem? ho)
   have hc := M.hc
   have hay : a * y ≤ 65535 * 65535 := Nat.mul_le_mul (by omega) (by omega)
   obtain ⟨b1, sp1, cap1, vs1, ro1, rfl, hb1, hg1, he1⟩ := bA.at M.ha
   obtain ⟨b2, sp2, cap2, vs2, ro2, rfl, hb2, hg2, he2⟩ := bB.at hy
   have g1 : σ.get b1 = some (.cells vs1 ro1) := (S.keep b1 hb1).trans hg1
   have g2 : σ.get b2 = some (.cells vs2 ro2) := (S.keep b2 hb2).trans hg2
   obtain ⟨t, ht⟩ : ∃ t, c + o + a * y = t := ⟨_, rfl⟩
   obtain ⟨j, hj⟩ : ∃ j, i + k = j := ⟨_, rfl⟩
   rw [hj] at ho wi
   have eO := dcells_at ho
   have lO : j + 1 ≤ (dcells O).length := by rw [dcells_length, M.len]; omega
   have ov := over_digit O j (t % 65536) (by rw [M.len]; omega)
   have c1 : (k : Int) < (B.length : Int) := by omega
   have c2 : (0 : Int) ≤ (k : Int) ∧ (k : Int) < (B.length : Int) := by omega
   have c3 : (0 : Int) ≤ (i : Int) ∧ (i : Int) < (A.length : Int) := by omega
   have c4 : (0 : Int) ≤ ((j : Nat) : Int) ∧ ((j : Nat) : Int) < ((A.length + B.length : Nat) : Int) := by omega
   have w0 : IntKind.u64.wrap (o : Int) = (o : Int) := by rw [IntKind.wrap_u64]; omega
   have w0a : IntKind.u64.wrap (a : Int) = (a : Int) := by rw [IntKind.wrap_u64]; omega
   have w0y : IntKind.u64.wrap (y : Int) = (y : Int) := by rw [IntKind.wrap_u64]; omega
   have w1 : IntKind.u64.wrap ((c : Int) + (o : Int)) = ((c + o : Nat) : Int) := by rw [IntKind.wrap_u64]; omega
   have w3 : IntKind.u64.wrap ((a : Int) * (y : Int)) = ((a * y : Nat) : Int) := by rw [← Int.natCast_mul, IntKind.wrap_u64]; omega
   have w4 : IntKind.u64.wrap (((c + o : Nat) : Int) + ((a * y : Nat) : Int)) = ((t : Nat) : Int) := by rw [IntKind.wrap_u64]; omega
   have e1 : ((t : Nat) : Int).tmod 65536 = ((t % 65536 : Nat) : Int) := by rw [Int.tmod_eq_emod_of_nonneg (by omega)]; rfl
   have e2 : ((t : Nat) : Int).tdiv 65536 = ((t / 65536 : Nat) : Int) := by rw [Int.tdiv_eq_ediv_of_nonneg (by omega)]; rfl
   have w5 : IntKind.u64.wrap ((t % 65536 : Nat) : Int) = ((t % 65536 : Nat) : Int) := by rw [IntKind.wrap_u64]; omega
   have w6 : IntKind.u32.wrap ((t % 65536 : Nat) : Int) = ((t % 65536 : Nat) : Int) := by rw [IntKind.wrap_u32]; omega
   have w7 : IntKind.u64.wrap ((t / 65536 : Nat) : Int) = ((t / 65536 : Nat) : Int) := by rw [IntKind.wrap_u64]; omega
   have nb1 : ¬ σ.next ≤ b1 := by have := S.lo; have := S.nx; omega
   have nb2 : ¬ σ.next ≤ b2 := by have := S.lo; have := S.nx; omega
   obtain ⟨ts1, hr, F1, p7, p8⟩ : ∃ ts1, DC Try.prog false mulD ⟨ts, []⟩ σ ⟨.norm, ⟨ts1, []⟩, σ.set bo (.cells (dcells (O.set j (t % 65536))) false), [bo]⟩ ∧ MF ts1 (.slice (some ⟨b1, 0, some sp1⟩) A.length cap1) (.slice (some ⟨b2, 0, some sp2⟩) B.length cap2) bo (A.length + B.length) i ∧
     lget ts1 7 = .int .u64 (t / 65536 : Nat) ∧ lget ts1 8 = .int .i64 (k + 1 : Nat) := by
    refine ⟨_, runs Orc.none_ok 40 bt54 (by kernel_rfl) (by simp only [go_sem, seval, if_pos rfl, bt54, mulD, mulC, mulB, loopOf, Option.getD, lget_put, lgetq_put, List.length_set, q0, q1, q5, q6, ql, t7, t8, oB, c1, c2, c3, c4, wi, w0, w0a, w0y, w1, w3, w4, w5, w6, w7, w9, e1, e2, nb1, nb2, g1, g2, he1, he2, gO, eO, lO, ov, Int.toNat_natCast, Try.f54, Try.underlying3, info3, Try.t3, Try.underlying4, info4, Try.t4, Try.underlying112, info112, Try.t112, Try.underlying115, info115, Try.t115, Try.underlying154, info154, Try.t154] <;> rfl), ?_, ?_, ?_⟩
    ·constructor <;> simp only [lget_put, List.length_set, q0, q1, q5, q6, ql, Nat.reduceEqDiff, Nat.reduceLT, if_true, if_false]
    ·simp only [lget_put, List.length_set, ql, Nat.reduceEqDiff, Nat.reduceLT, if_true, if_false]
    ·simp only [lget_put, List.length_set, ql, Nat.reduceEqDiff, Nat.reduceLT, if_true, if_false]
   subst ht hj
   refine step (a * y) o ts1 ho (by omega) ?_ (by omega) hr F1 p7 p8
   rw [val_take hy, Nat.mul_add]
   congr 1
   rw [Nat.pow_add]
   rw [Nat.mul_assoc, Nat.mul_assoc, ← Nat.mul_assoc (65536 ^ i) y, Nat.mul_comm (65536 ^ i) y, Nat.mul_assoc y]
  ·by_cases hc0 : c = 0
   ·subst hc0
    have c1 : ¬ (k : Int) < (B.length : Int) := by omega
    obtain ⟨ts1, hr, F1⟩ : ∃ ts1, DC Try.prog false mulD ⟨ts, []⟩ σ ⟨.exit 2, ⟨ts1, []⟩, σ, []⟩ ∧ MF ts1 v w bo (A.length + B.length) i := by
     refine ⟨_, runs Orc.none_ok 40 bt54 (by kernel_rfl) (by simp only [go_sem, seval, if_pos rfl, bt54, mulD, mulC, mulB, loopOf, Option.getD, lget_put, lgetq_put, List.length_set, q0, q1, q5, q6, ql, t7, t8, oB, c1, Int.natCast_zero, Int.lt_irrefl, Try.f54, Try.underlying3, info3, Try.t3, Try.underlying4, info4, Try.t4, Try.underlying112, info112, Try.t112, Try.underlying115, info115, Try.t115, Try.underlying154, info154, Try.t154] <;> rfl), ?_⟩
     constructor <;> simp only [lget_put, List.length_set, q0, q1, q5, q6, ql, Nat.reduceEqDiff, Nat.reduceLT, if_true, if_false]
    exact ⟨σ, [], ts1, O, k, DL.out hr rfl, M, by omega, F1, S, fun x hx => by simp at hx⟩
   ·obtain ⟨hkl, hik⟩ := M.bound hA hB (by omega) (by omega)
    obtain ⟨o, ho⟩ : ∃ o, O[i + k]? = some o := ⟨_, List.getElem?_eq_getElem (by rw [M.len]; omega)⟩
    have ho' : o < 65536 := M.low o (List.mem_of_getElem? ho)
    have hc := M.hc
    obtain ⟨t, ht⟩ : ∃ t, c + o = t := ⟨_, rfl⟩
    obtain ⟨j, hj⟩ : ∃ j, i + k = j := ⟨_, rfl⟩
    rw [hj] at ho wi
    have eO := dcells_at ho
    have lO : j + 1 ≤ (dcells O).length := by rw [dcells_length, M.len]; omega
    have ov := over_digit O j (t % 65536) (by rw [M.len]; omega)
    have c1 : ¬ (k : Int) < (B.length : Int) := by omega
    have c0 : (0 : Int) < (c : Int) := by omega
    have c4 : (0 : Int) ≤ ((j : Nat) : Int) ∧ ((j : Nat) : Int) < ((A.length + B.length : Nat) : Int) := by omega
    have w0 : IntKind.u64.wrap (o : Int) = (o : Int) := by rw [IntKind.wrap_u64]; omega
    have w1 : IntKind.u64.wrap ((c : Int) + (o : Int)) = ((t : Nat) : Int) := by rw [IntKind.wrap_u64]; omega
    have e1 : ((t : Nat) : Int).tmod 65536 = ((t % 65536 : Nat) : Int) := by rw [Int.tmod_eq_emod_of_nonneg (by omega)]; rfl
    have e2 : ((t : Nat) : Int).tdiv 65536 = ((t / 65536 : Nat) : Int) := by rw [Int.tdiv_eq_ediv_of_nonneg (by omega)]; rfl
    have w5 : IntKind.u64.wrap ((t % 65536 : Nat) : Int) = ((t % 65536 : Nat) : Int) := by rw [IntKind.wrap_u64]; omega
    have w6 : IntKind.u32.wrap ((t % 65536 : Nat) : Int) = ((t % 65536 : Nat) : Int) := by rw [IntKind.wrap_u32]; omega
    have w7 : IntKind.u64.wrap ((t / 65536 : Nat) : Int) = ((t / 65536 : Nat) : Int) := by rw [IntKind.wrap_u64]; omega
    obtain ⟨ts1, hr, F1, p7, p8⟩ : ∃ ts1, DC Try.prog false mulD ⟨ts, []⟩ σ ⟨.norm, ⟨ts1, []⟩, σ.set bo (.cells (dcells (O.set j (t % 65536))) false), [bo]⟩ ∧ MF ts1 v w bo (A.length + B.length) i ∧
      lget ts1 7 = .int .u64 (t / 65536 : Nat) ∧ lget ts1 8 = .int .i64 (k + 1 : Nat) := by
     refine ⟨_, runs Orc.none_ok 40 bt54 (by kernel_rfl) (by simp only [go_sem, seval, if_pos rfl, bt54, mulD, mulC, mulB, loopOf, Option.getD, lget_put, lgetq_put, List.length_set, q0, q1, q5, q6, ql, t7, t8, oB, c0, c1, c4, wi, w0, w1, w5, w6, w7, w9, e1, e2, gO, eO, lO, ov, Int.toNat_natCast, Try.f54, Try.underlying3, info3, Try.t3, Try.underlying4, info4, Try.t4, Try.underlying112, info112, Try.t112, Try.underlying115, info115, Try.t115, Try.underlying154, info154, Try.t154] <;> rfl), ?_, ?_, ?_⟩
     ·constructor <;> simp only [lget_put, List.length_set, q0, q1, q5, q6, ql, Nat.reduceEqDiff, Nat.reduceLT, if_true, if_false]
     ·simp only [lget_put, List.length_set, ql, Nat.reduceEqDiff, Nat.reduceLT, if_true, if_false]
     ·simp only [lget_put, List.length_set, ql, Nat.reduceEqDiff, Nat.reduceLT, if_true, if_false]
    subst ht hj
    refine step 0 o ts1 ho (by omega) ?_ (by omega) (by simpa using hr) F1 (by simpa using p7) p8
    rw [List.take_of_length_le (by omega), List.take_of_length_le (by omega)]; simp
end Go.Ab
namespace Go.Ab
open Go.Proofs
def inBlk : Code → Code
 | .block _ b => b
 | c => c
theorem zeros_digits : ∀ n, zerosN [.int .u32 0] n = dcells (List.replicate n 0)
 | 0 => rfl
 | n + 1 => by
  have := zeros_digits n
  simp only [zerosN, this, List.replicate_succ, dcells, List.map_cons]
  rfl
theorem mul_outer {A B : List Nat} {v w : Value} {σ₀ : St} {bo : Nat} (bA : BigS σ₀ v A) (bB : BigS σ₀ w B) (hA : Low A) (hB : Low B) (sA : A.length ≤ 1000000) (sB : B.length ≤ 1000000) :
  ∀ (n i : Nat) (O : List Nat) (σ : St) (ts : List Value), A.length - i < n → i ≤ A.length → MF ts v w bo (A.length + B.length) i → O.length = A.length + B.length → Low O → val O = val (A.take i) * val B → MS σ₀ σ bo O →
  ∃ σ' lg ts' O', DL Try.prog false mulC ⟨ts, []⟩ σ ⟨.exit 0, ⟨ts', []⟩, σ', lg⟩ ∧ O'.length = A.length + B.length ∧ Low O' ∧ val O' = val A * val B ∧ MF ts' v w bo (A.length + B.length) A.length ∧ MS σ₀ σ' bo O' ∧ (∀ x ∈ lg, x = bo) := by
 intro n
 induction n with
 | zero => intro i O σ ts hk; omega
 | succ n ih =>
  intro i O σ ts hk hi F hO lO vO S
  have q0 := F.t0
  have q1 := F.t1
  have q5 := F.t5
  have q6 := F.t6
  have ql := F.len
  have oA := bA.len
  by_cases hb : i < A.length
  ·obtain ⟨a, ha⟩ : ∃ a, A[i]? = some a := ⟨_, List.getElem?_eq_getElem hb⟩
   have c1 : (i : Int) < (A.length : Int) := by omega
   obtain ⟨ts1, r1, F1⟩ : ∃ ts1, DC Try.prog false (nthC 0 mulC) ⟨ts, []⟩ σ ⟨.norm, ⟨ts1, []⟩, σ, []⟩ ∧ MF ts1 v w bo (A.length + B.length) i := by
    refine ⟨_, runs Orc.none_ok 40 nobt (by kernel_rfl) (by simp only [go_sem, seval, if_pos rfl, nthC, mulC, mulB, loopOf, Option.getD, lget_put, lgetq_put, List.length_set, q0, q1, q5, q6, ql, oA, c1, Try.f54, Try.underlying3, info3, Try.t3, Try.underlying4, info4, Try.t4, Try.underlying112, info112, Try.t112, Try.underlying115, info115, Try.t115, Try.underlying154, info154, Try.t154] <;> rfl), ?_⟩
    constructor <;> simp only [lget_put, List.length_set, q0, q1, q5, q6, ql, Nat.reduceEqDiff, Nat.reduceLT, if_true, if_false]
   have q0 := F1.t0
   have q1 := F1.t1
   have q5 := F1.t5
   have q6 := F1.t6
   have ql := F1.len
   obtain ⟨ts2, r2, F2, t7⟩ : ∃ ts2, DC Try.prog false (nthC 0 (inBlk (nthC 1 mulC))) ⟨ts1, []⟩ σ ⟨.norm, ⟨ts2, []⟩, σ, []⟩ ∧ MF ts2 v w bo (A.length + B.length) i ∧ lget ts2 7 = .int .u64 (0 : Nat) := by
    refine ⟨_, runs Orc.none_ok 40 nobt (by kernel_rfl) (by simp only [go_sem, seval, if_pos rfl, nthC, inBlk, mulC, mulB, loopOf, Option.getD, lget_put, lgetq_put, List.length_set, ql, Try.f54, Try.underlying3, info3, Try.t3, Try.underlying4, info4, Try.t4, Try.underlying112, info112, Try.t112, Try.underlying115, info115, Try.t115, Try.underlying154, info154, Try.t154] <;> rfl), ?_, ?_⟩
    ·constructor <;> simp only [lget_put, List.length_set, q0, q1, q5, q6, ql, Nat.reduceEqDiff, Nat.reduceLT, if_true, if_false]
    ·simp only [lget_put, List.length_set, ql, Nat.reduceEqDiff, Nat.reduceLT, if_true, if_false, Int.natCast_zero]
   have q0 := F2.t0
   have q1 := F2.t1
   have q5 := F2.t5
   have q6 := F2.t6
   have ql := F2.len
   obtain ⟨ts3, r3, F3, t7, t8⟩ : ∃ ts3, DC Try.prog false (nthC 1 (inBlk (nthC 1 mulC))) ⟨ts2, []⟩ σ ⟨.norm, ⟨ts3, []⟩, σ, []⟩ ∧ MF ts3 v w bo (A.length + B.length) i ∧ lget ts3 7 = .int .u64 (0 : Nat) ∧ lget ts3 8 = .int .i64 (0 : Nat) := by
    refine ⟨_, runs Orc.none_ok 40 nobt (by kernel_rfl) (by simp only [go_sem, seval, if_pos rfl, nthC, inBlk, mulC, mulB, loopOf, Option.getD, lget_put, lgetq_put, List.length_set, ql, Try.f54, Try.underlying3, info3, Try.t3, Try.underlying4, info4, Try.t4, Try.underlying112, info112, Try.t112, Try.underlying115, info115, Try.t115, Try.underlying154, info154, Try.t154] <;> rfl), ?_, ?_, ?_⟩
    ·constructor <;> simp only [lget_put, List.length_set, q0, q1, q5, q6, ql, Nat.reduceEqDiff, Nat.reduceLT, if_true, if_false]
    ·simp only [lget_put, List.length_set, t7, ql, Nat.reduceEqDiff, Nat.reduceLT, if_true, if_false]
    ·simp only [lget_put, List.length_set, ql, Nat.reduceEqDiff, Nat.reduceLT, if_true, if_false, Int.natCast_zero]
   have M : MulI A B O i 0 0 a := ⟨hO, lO, by omega, by omega, ha, by simp [vO, val]⟩
   obtain ⟨σ4, lg4, ts4, O4, k4, d4, M4, hk4, F4, S4, f4⟩ := mul_inner bA bB hA hB sA sB (B.length + 3) 0 0 O σ ts3 (by omega) M F3 t7 t8 S
   have q0 := F4.t0
   have q1 := F4.t1
   have q5 := F4.t5
   have q6 := F4.t6
   have ql := F4.len
   have w1 : IntKind.i64.wrap ((i : Int) + 1) = ((i + 1 : Nat) : Int) := by rw [IntKind.wrap_i64]; omega
   obtain ⟨ts5, r5, F5⟩ : ∃ ts5, DC Try.prog false (nthC 2 mulC) ⟨ts4, []⟩ σ4 ⟨.norm, ⟨ts5, []⟩, σ4, []⟩ ∧ MF ts5 v w bo (A.length + B.length) (i + 1) := by
    refine ⟨_, runs Orc.none_ok 40 nobt (by kernel_rfl) (by simp only [go_sem, seval, if_pos rfl, nthC, mulC, mulB, loopOf, Option.getD, lget_put, lgetq_put, List.length_set, q6, ql, w1, Try.f54, Try.underlying3, info3, Try.t3, Try.underlying4, info4, Try.t4, Try.underlying112, info112, Try.t112, Try.underlying115, info115, Try.t115, Try.underlying154, info154, Try.t154] <;> rfl), ?_⟩
    constructor <;> simp only [lget_put, List.length_set, q0, q1, q5, q6, ql, Nat.reduceEqDiff, Nat.reduceLT, if_true, if_false]
   have round : DC Try.prog false mulC ⟨ts, []⟩ σ ⟨.norm, ⟨ts5, []⟩, σ4, lg4 ++ []⟩ := DC.seq r1 rfl (DC.seq (DC.block (DC.seq r2 rfl (DC.seq r3 rfl (DC.block (DC.loop d4))))) rfl r5)
   obtain ⟨σ', lg, ts', O', a1, a2, a3, a4, a5, a6, a7⟩ := ih (i + 1) O4 σ4 ts5 (by omega) (by omega) F5 M4.len M4.low (M4.done hk4) S4
   refine ⟨σ', (lg4 ++ []) ++ lg, ts', O', DL.next round rfl a1, a2, a3, a4, a5, a6, fun x hx => ?_⟩
   rw [List.append_nil] at hx
   rcases List.mem_append.1 hx with h | h
   ·exact f4 x h
   ·exact a7 x h
  ·obtain rfl : i = A.length := by omega
   have c1 : ¬ (A.length : Int) < (A.length : Int) := by omega
   obtain ⟨ts1, r1, F1⟩ : ∃ ts1, DC Try.prog false (nthC 0 mulC) ⟨ts, []⟩ σ ⟨.exit 0, ⟨ts1, []⟩, σ, []⟩ ∧ MF ts1 v w bo (A.length + B.length) A.length := by
    refine ⟨_, runs Orc.none_ok 40 nobt (by kernel_rfl) (by simp only [go_sem, seval, if_pos rfl, nthC, mulC, mulB, loopOf, Option.getD, lget_put, lgetq_put, List.length_set, q0, q1, q5, q6, ql, oA, c1, Int.lt_irrefl, Try.f54, Try.underlying3, info3, Try.t3, Try.underlying4, info4, Try.t4, Try.underlying112, info112, Try.t112, Try.underlying115, info115, Try.t115, Try.underlying154, info154, Try.t154] <;> rfl), ?_⟩
    constructor <;> simp only [lget_put, List.length_set, q0, q1, q5, q6, ql, Nat.reduceEqDiff, Nat.reduceLT, if_true, if_false]
   have out : DC Try.prog false mulC ⟨ts, []⟩ σ ⟨.exit 0, ⟨ts1, []⟩, σ, []⟩ := DC.seq_out r1 rfl
   exact ⟨σ, [], ts1, O, DL.out out rfl, hO, lO, by rw [vO, List.take_length], F1, S, fun x hx => by simp at hx⟩
theorem mul_call {A B : List Nat} {v w : Value} {σ : St} (bA : BigS σ v A) (bB : BigS σ w B) (hA : Low A) (hB : Low B) (sA : A.length ≤ 100000) (sB : B.length ≤ 100000) :
  ∃ σ' u, DCall Try.prog 54 [v, w] σ (.ret u) σ' [] ∧ BigS σ' u (dig (val A * val B)) ∧ NewBlk σ.next u := by
 obtain ⟨ts0, h0, l0, q0, q1⟩ : ∃ ts0, start [v, w] Try.f54.ntmps = ⟨ts0, []⟩ ∧ ts0.length = 69 ∧ lget ts0 0 = v ∧ lget ts0 1 = w := ⟨(start [v, w] 69).ts, rfl, rfl, rfl, rfl⟩
 have oA := bA.len
 have oB := bB.len
 obtain ⟨ts1, r1, l1, q0, q1⟩ : ∃ ts1, DC Try.prog false (nthC 0 mulB) ⟨ts0, []⟩ σ ⟨.norm, ⟨ts1, []⟩, σ, []⟩ ∧ ts1.length = 69 ∧ lget ts1 0 = v ∧ lget ts1 1 = w := by
  refine ⟨_, runs Orc.none_ok 40 nobt (by kernel_rfl) (by simp only [go_sem, seval, if_pos rfl, nthC, mulB, Option.getD, lget_put, lgetq_put, List.length_set, l0, Try.f54, Try.underlying3, info3, Try.t3, Try.underlying4, info4, Try.t4, Try.underlying112, info112, Try.t112, Try.underlying115, info115, Try.t115, Try.underlying154, info154, Try.t154] <;> rfl), ?_, ?_, ?_⟩
  ·simp only [List.length_set, l0]
  ·simp only [lget_put, List.length_set, q0, l0, Nat.reduceEqDiff, Nat.reduceLT, if_true, if_false]
  ·simp only [lget_put, List.length_set, q1, l0, Nat.reduceEqDiff, Nat.reduceLT, if_true, if_false]
 obtain ⟨L, hL⟩ : ∃ L, A.length + B.length = L := ⟨_, rfl⟩
 have w1 : IntKind.i64.wrap ((A.length : Int) + (B.length : Int)) = (L : Int) := by rw [IntKind.wrap_i64]; omega
 have c1 : (0 : Int) ≤ (L : Int) := by omega
 have c2 : (L : Int) < 4294967296 := by omega
 let σ1 := σ.new (.cells (dcells (List.replicate L 0)) false)
 obtain ⟨ts2, r2, l2, q0, q1, q5⟩ : ∃ ts2, DC Try.prog false (nthC 1 mulB) ⟨ts1, []⟩ σ ⟨.norm, ⟨ts2, []⟩, σ1, []⟩ ∧ ts2.length = 69 ∧ lget ts2 0 = v ∧ lget ts2 1 = w ∧ lget ts2 5 = .slice (some ⟨σ.next, 0, some 0⟩) L L := by
  refine ⟨_, runs Orc.none_ok 40 nobt (by kernel_rfl) (by simp only [go_sem, seval, if_pos rfl, σ1, nthC, mulB, Option.getD, lget_put, lgetq_put, List.length_set, q0, q1, l1, oA, oB, w1, c1, c2, opMakeSlice, zeros_digits, Int.toNat_natCast, Int.le_refl, Try.f54, Try.underlying3, info3, Try.t3, Try.underlying4, info4, Try.t4, Try.underlying112, info112, Try.t112, Try.underlying115, info115, Try.t115, Try.underlying154, info154, Try.t154] <;> rfl), ?_, ?_, ?_, ?_⟩
  ·simp only [List.length_set, l1]
  ·simp only [lget_put, List.length_set, q0, l1, Nat.reduceEqDiff, Nat.reduceLT, if_true, if_false]
  ·simp only [lget_put, List.length_set, q1, l1, Nat.reduceEqDiff, Nat.reduceLT, if_true, if_false]
  ·simp only [lget_put, List.length_set, l1, Nat.reduceEqDiff, Nat.reduceLT, if_true, if_false]
 subst hL
 obtain ⟨ts3, r3, F3⟩ : ∃ ts3, DC Try.prog false (nthC 0 (nthC 2 mulB)) ⟨ts2, []⟩ σ1 ⟨.norm, ⟨ts3, []⟩, σ1, []⟩ ∧ MF ts3 v w σ.next (A.length + B.length) 0 := by
  refine ⟨_, runs Orc.none_ok 40 nobt (by kernel_rfl) (by simp only [go_sem, seval, if_pos rfl, nthC, mulB, Option.getD, lget_put, lgetq_put, List.length_set, l2, Try.f54, Try.underlying3, info3, Try.t3, Try.underlying4, info4, Try.t4, Try.underlying112, info112, Try.t112, Try.underlying115, info115, Try.t115, Try.underlying154, info154, Try.t154] <;> rfl), ?_⟩
  constructor <;> simp only [lget_put, List.length_set, q0, q1, q5, l2, Nat.reduceEqDiff, Nat.reduceLT, if_true, if_false, Int.natCast_zero]
 have S1 : MS σ σ1 σ.next (List.replicate (A.length + B.length) 0) := ⟨Nat.le_refl _, Nat.lt_succ_self _, by rw [St.get_new, if_pos rfl], fun c hc => by rw [St.get_new, if_neg (by omega)]⟩
 obtain ⟨σ4, lg4, ts4, O, d4, hO, lO, vO, F4, S4, f4⟩ := mul_outer bA bB hA hB (by omega) (by omega) (A.length + 1) 0 _ σ1 ts3 (by omega) (by omega) F3 (by simp) (fun x hx => by have := List.eq_of_mem_replicate hx; omega) (by rw [val_zeros]; simp [val]) S1
 have hbig : BigS σ4 (.slice (some ⟨σ.next, 0, some 0⟩) (A.length + B.length) (A.length + B.length)) O := .inr ⟨σ.next, 0, A.length + B.length, [], false, by rw [hO], .inl rfl, by omega, S4.nx, by rw [S4.get, List.append_nil]⟩
 obtain ⟨u, dt, bu, nu⟩ := trim_call (by omega) hbig lO
 rw [vO] at bu
 have q5 := F4.t5
 have l4 := F4.len
 obtain ⟨ts5, r5, p4⟩ : ∃ ts5, DC Try.prog false (nthC 3 mulB) ⟨ts4, []⟩ σ4 ⟨.norm, ⟨ts5, []⟩, σ4, []⟩ ∧ lget ts5 4 = u := by
  refine ⟨_, runs (one_ok' Orc.none_ok dt) 40 nobt (by kernel_rfl) (by simp only [go_sem, seval, if_pos rfl, nthC, mulB, Option.getD, Orc.one_call, lget_put, lgetq_put, List.length_set, q5, l4, Try.f54, Try.underlying3, info3, Try.t3, Try.underlying4, info4, Try.t4, Try.underlying112, info112, Try.t112, Try.underlying115, info115, Try.t115, Try.underlying154, info154, Try.t154, body85] <;> rfl), ?_⟩
  simp only [lget_put, List.length_set, l4, Nat.reduceEqDiff, Nat.reduceLT, if_true, if_false]
 refine ⟨σ4, u, DCall.fresh (callsD Try.func54 (rfl : Try.f54.body = some mulB) (h0 ▸ DC.seq r1 rfl (DC.seq r2 rfl (DC.seq (DC.seq r3 rfl (DC.block (DC.loop d4))) rfl (DC.seq r5 rfl (DC.ret _ _ _))))) ?_ rfl rfl) (fun c hc => ?_), bu, nu _ fun b o sp len cap e => by cases e; exact Nat.le_refl _⟩
 ·simp only [endsA, Try.f54, resA, resList, resOne, p4, Option.map, RR.pre]
 ·have : c ∈ lg4 := by simpa [RR.pre] using hc
  have := f4 c this
  omega
end Go.Ab
namespace Go.Ab
open Go.Proofs
def at0 (A : List Nat) (i : Nat) : Nat := A[i]?.getD 0
theorem at0_lt {A : List Nat} (h : Low A) (i : Nat) : at0 A i < 65536 := by
 unfold at0
 cases hi : A[i]? with
 | none => simp
 | some a => exact h a (List.mem_of_getElem? hi)
theorem at0_some {A : List Nat} {i : Nat} (h : i < A.length) : A[i]? = some (at0 A i) := by
 unfold at0; rw [List.getElem?_eq_getElem h]; rfl
theorem at0_none {A : List Nat} {i : Nat} (h : A.length ≤ i) : at0 A i = 0 := by
 unfold at0; rw [List.getElem?_eq_none h]; rfl
theorem val_take0 (A : List Nat) (i : Nat) : val (A.take (i + 1)) = val (A.take i) + at0 A i * 65536 ^ i := by
 by_cases h : i < A.length
 ·exact val_take (at0_some h)
 ·rw [at0_none (by omega), List.take_of_length_le (by omega), List.take_of_length_le (by omega)]; simp
structure AddI (A B D : List Nat) (i c : Nat) : Prop where
 len : D.length = i
 low : Low D
 hc : c ≤ 1
 hi : i ≤ max A.length B.length ∨ (c = 0 ∧ i ≤ max A.length B.length + 1)
 v : val D + c * 65536 ^ i = val (A.take i) + val (B.take i)
theorem AddI.step {A B D : List Nat} {i c : Nat} (h : AddI A B D i c) (hA : Low A) (hB : Low B) (hi : i < A.length ∨ i < B.length ∨ 0 < c) :
  AddI A B (D ++ [(c + at0 A i + at0 B i) % 65536]) (i + 1) ((c + at0 A i + at0 B i) / 65536) where
 len := by simp [h.len]
 low := h.low.append (Low.cons (Nat.mod_lt _ (by omega)) Low.nil)
 hc := by have := at0_lt hA i; have := at0_lt hB i; have := h.hc; omega
 hi := by
  have := h.hc
  rcases h.hi with h1 | h1
  ·by_cases h2 : i < max A.length B.length
   ·exact .inl (by omega)
   ·rw [at0_none (A := A) (by omega), at0_none (A := B) (by omega)]
    exact .inr ⟨by omega, by omega⟩
  ·omega
 v := by
  have hv := h.v
  rw [val_append, h.len, val_take0, val_take0]
  simp only [val, Nat.mul_zero, Nat.add_zero]
  generalize at0 A i = a at *
  generalize at0 B i = b at *
  have e1 : (c + a + b) / 65536 * 65536 ^ (i + 1) = ((c + a + b) / 65536 * 65536) * 65536 ^ i := by
   rw [Nat.pow_succ, Nat.mul_assoc, Nat.mul_comm (65536 ^ i) 65536]
  have e2 : ((c + a + b) / 65536 * 65536) * 65536 ^ i + 65536 ^ i * ((c + a + b) % 65536) = c * 65536 ^ i + a * 65536 ^ i + b * 65536 ^ i := by
   rw [Nat.mul_comm (65536 ^ i) _, ← Nat.add_mul, ← Nat.add_mul, ← Nat.add_mul]
   congr 1
   omega
  rw [e1]
  omega
theorem AddI.done {A B D : List Nat} {i : Nat} (h : AddI A B D i 0) (h1 : A.length ≤ i) (h2 : B.length ≤ i) : val D = val A + val B := by
 have hv := h.v
 rw [List.take_of_length_le h1, List.take_of_length_le h2] at hv
 simpa using hv
noncomputable def addB : Code := Try.f128.body.getD .skip
noncomputable def addC : Code := loopOf addB
structure AF (ts : List Value) (v w u : Value) (i c : Nat) : Prop where
 len : ts.length = 53
 t0 : lget ts 0 = v
 t1 : lget ts 1 = w
 t5 : lget ts 5 = u
 t6 : lget ts 6 = .int .u32 c
 t7 : lget ts 7 = .int .i64 i
theorem add_loop {A B : List Nat} {v w : Value} {σ₀ : St} {lo : Nat} (bA : BigS σ₀ v A) (bB : BigS σ₀ w B) (hA : Low A) (hB : Low B) (sA : A.length ≤ 100000) (sB : B.length ≤ 100000) (hlo : σ₀.next ≤ lo) :
  ∀ (n i c : Nat) (D : List Nat) (u : Value) (σ : St) (ts : List Value), max A.length B.length + 2 - i < n → AddI A B D i c → AF ts v w u i c → OutS σ lo u D → (∀ b, b < σ₀.next → σ.get b = σ₀.get b) →
  ∃ σ' lg ts' D' u', DL Try.prog false addC ⟨ts, []⟩ σ ⟨.exit 0, ⟨ts', []⟩, σ', lg⟩ ∧ ts'.length = 53 ∧ lget ts' 5 = u' ∧ Low D' ∧ D'.length ≤ 200000 ∧ val D' = val A + val B ∧ OutS σ' lo u' D' ∧ From lo lg := by
 intro n
 induction n with
 | zero => intro i c D u σ ts hk; omega
 | succ n ih =>
  intro i c D u σ ts hk I F O K
  have q0 := F.t0
  have q1 := F.t1
  have q5 := F.t5
  have q6 := F.t6
  have q7 := F.t7
  have ql := F.len
  have oA := bA.len
  have oB := bB.len
  have hc := I.hc
  have hi := I.hi
  have la := at0_lt hA i
  have lb := at0_lt hB i
  by_cases hgo : i < A.length ∨ i < B.length ∨ 0 < c
  ·
   obtain ⟨ts1, r1, F1⟩ : ∃ ts1, DC Try.prog false (nthC 0 addC) ⟨ts, []⟩ σ ⟨.norm, ⟨ts1, []⟩, σ, []⟩ ∧ AF ts1 v w u i c := by
    by_cases h1 : i < A.length
    ·have c1 : (i : Int) < (A.length : Int) := by omega
     refine ⟨_, runs Orc.none_ok 40 nobt (by kernel_rfl) (by simp only [go_sem, seval, if_pos rfl, nthC, addC, addB, loopOf, Option.getD, lget_put, lgetq_put, List.length_set, q0, q1, q5, q6, q7, ql, oA, oB, c1, Try.f128, Try.underlying3, info3, Try.t3, Try.underlying4, info4, Try.t4, Try.underlying112, info112, Try.t112, Try.underlying115, info115, Try.t115, Try.underlying154, info154, Try.t154] <;> rfl), ?_⟩
     constructor <;> simp only [lget_put, List.length_set, q0, q1, q5, q6, q7, ql, Nat.reduceEqDiff, Nat.reduceLT, if_true, if_false]
    ·have c1 : ¬ (i : Int) < (A.length : Int) := by omega
     by_cases h2 : i < B.length
     ·have c2 : (i : Int) < (B.length : Int) := by omega
      refine ⟨_, runs Orc.none_ok 40 nobt (by kernel_rfl) (by simp only [go_sem, seval, if_pos rfl, nthC, addC, addB, loopOf, Option.getD, lget_put, lgetq_put, List.length_set, q0, q1, q5, q6, q7, ql, oA, oB, c1, c2, Try.f128, Try.underlying3, info3, Try.t3, Try.underlying4, info4, Try.t4, Try.underlying112, info112, Try.t112, Try.underlying115, info115, Try.t115, Try.underlying154, info154, Try.t154] <;> rfl), ?_⟩
      constructor <;> simp only [lget_put, List.length_set, q0, q1, q5, q6, q7, ql, Nat.reduceEqDiff, Nat.reduceLT, if_true, if_false]
     ·have c2 : ¬ (i : Int) < (B.length : Int) := by omega
      have c3 : (0 : Int) < (c : Int) := by omega
      refine ⟨_, runs Orc.none_ok 40 nobt (by kernel_rfl) (by simp only [go_sem, seval, if_pos rfl, nthC, addC, addB, loopOf, Option.getD, lget_put, lgetq_put, List.length_set, q0, q1, q5, q6, q7, ql, oA, oB, c1, c2, c3, Try.f128, Try.underlying3, info3, Try.t3, Try.underlying4, info4, Try.t4, Try.underlying112, info112, Try.t112, Try.underlying115, info115, Try.t115, Try.underlying154, info154, Try.t154] <;> rfl), ?_⟩
      constructor <;> simp only [lget_put, List.length_set, q0, q1, q5, q6, q7, ql, Nat.reduceEqDiff, Nat.reduceLT, if_true, if_false]
   have q0 := F1.t0
   have q1 := F1.t1
   have q5 := F1.t5
   have q6 := F1.t6
   have q7 := F1.t7
   have ql := F1.len
   obtain ⟨ts2, r2, F2⟩ : ∃ ts2, DC Try.prog false (nthC 0 (inBlk (nthC 1 addC))) ⟨ts1, []⟩ σ ⟨.norm, ⟨ts2, []⟩, σ, []⟩ ∧ AF ts2 v w u i (c + at0 A i) := by
    by_cases h1 : i < A.length
    ·have c1 : (i : Int) < (A.length : Int) := by omega
     have c2 : (0 : Int) ≤ (i : Int) ∧ (i : Int) < (A.length : Int) := by omega
     obtain ⟨b1, sp1, cap1, vs1, ro1, rfl, hb1, hg1, he1⟩ := bA.at (at0_some h1)
     have g1 : σ.get b1 = some (.cells vs1 ro1) := (K b1 hb1).trans hg1
     have w1 : IntKind.u32.wrap ((c : Int) + (at0 A i : Int)) = ((c + at0 A i : Nat) : Int) := by rw [IntKind.wrap_u32]; omega
     refine ⟨_, runs Orc.none_ok 40 nobt (by kernel_rfl) (by simp only [go_sem, seval, if_pos rfl, nthC, inBlk, addC, addB, loopOf, Option.getD, lget_put, lgetq_put, List.length_set, q0, q1, q5, q6, q7, ql, oA, oB, c1, c2, g1, he1, w1, Int.toNat_natCast, Try.f128, Try.underlying3, info3, Try.t3, Try.underlying4, info4, Try.t4, Try.underlying112, info112, Try.t112, Try.underlying115, info115, Try.t115, Try.underlying154, info154, Try.t154] <;> rfl), ?_⟩
     constructor <;> simp only [lget_put, List.length_set, q0, q1, q5, q6, q7, ql, Nat.reduceEqDiff, Nat.reduceLT, if_true, if_false]
    ·have c1 : ¬ (i : Int) < (A.length : Int) := by omega
     rw [at0_none (by omega), Nat.add_zero]
     refine ⟨_, runs Orc.none_ok 40 nobt (by kernel_rfl) (by simp only [go_sem, seval, if_pos rfl, nthC, inBlk, addC, addB, loopOf, Option.getD, lget_put, lgetq_put, List.length_set, q0, q1, q5, q6, q7, ql, oA, oB, c1, Try.f128, Try.underlying3, info3, Try.t3, Try.underlying4, info4, Try.t4, Try.underlying112, info112, Try.t112, Try.underlying115, info115, Try.t115, Try.underlying154, info154, Try.t154] <;> rfl), ?_⟩
     constructor <;> simp only [lget_put, List.length_set, q0, q1, q5, q6, q7, ql, Nat.reduceEqDiff, Nat.reduceLT, if_true, if_false]
   have q0 := F2.t0
   have q1 := F2.t1
   have q5 := F2.t5
   have q6 := F2.t6
   have q7 := F2.t7
   have ql := F2.len
   obtain ⟨c', hc'⟩ : ∃ c', c + at0 A i = c' := ⟨_, rfl⟩
   rw [hc'] at q6
   obtain ⟨ts3, r3, F3⟩ : ∃ ts3, DC Try.prog false (nthC 1 (inBlk (nthC 1 addC))) ⟨ts2, []⟩ σ ⟨.norm, ⟨ts3, []⟩, σ, []⟩ ∧ AF ts3 v w u i (c' + at0 B i) := by
    by_cases h1 : i < B.length
    ·have c1 : (i : Int) < (B.length : Int) := by omega
     have c2 : (0 : Int) ≤ (i : Int) ∧ (i : Int) < (B.length : Int) := by omega
     obtain ⟨b1, sp1, cap1, vs1, ro1, rfl, hb1, hg1, he1⟩ := bB.at (at0_some h1)
     have g1 : σ.get b1 = some (.cells vs1 ro1) := (K b1 hb1).trans hg1
     have w1 : IntKind.u32.wrap ((c' : Int) + (at0 B i : Int)) = ((c' + at0 B i : Nat) : Int) := by rw [IntKind.wrap_u32]; omega
     refine ⟨_, runs Orc.none_ok 40 nobt (by kernel_rfl) (by simp only [go_sem, seval, if_pos rfl, nthC, inBlk, addC, addB, loopOf, Option.getD, lget_put, lgetq_put, List.length_set, q0, q1, q5, q6, q7, ql, oA, oB, c1, c2, g1, he1, w1, Int.toNat_natCast, Try.f128, Try.underlying3, info3, Try.t3, Try.underlying4, info4, Try.t4, Try.underlying112, info112, Try.t112, Try.underlying115, info115, Try.t115, Try.underlying154, info154, Try.t154] <;> rfl), ?_⟩
     constructor <;> simp only [lget_put, List.length_set, q0, q1, q5, q6, q7, ql, Nat.reduceEqDiff, Nat.reduceLT, if_true, if_false]
    ·have c1 : ¬ (i : Int) < (B.length : Int) := by omega
     rw [at0_none (A := B) (by omega), Nat.add_zero]
     refine ⟨_, runs Orc.none_ok 40 nobt (by kernel_rfl) (by simp only [go_sem, seval, if_pos rfl, nthC, inBlk, addC, addB, loopOf, Option.getD, lget_put, lgetq_put, List.length_set, q0, q1, q5, q6, q7, ql, oA, oB, c1, Try.f128, Try.underlying3, info3, Try.t3, Try.underlying4, info4, Try.t4, Try.underlying112, info112, Try.t112, Try.underlying115, info115, Try.t115, Try.underlying154, info154, Try.t154] <;> rfl), ?_⟩
     constructor <;> simp only [lget_put, List.length_set, q0, q1, q5, q6, q7, ql, Nat.reduceEqDiff, Nat.reduceLT, if_true, if_false]
   have q0 := F3.t0
   have q1 := F3.t1
   have q5 := F3.t5
   have q6 := F3.t6
   have q7 := F3.t7
   have ql := F3.len
   obtain ⟨t, ht⟩ : ∃ t, c' + at0 B i = t := ⟨_, rfl⟩
   rw [ht] at q6
   have I' := I.step hA hB hgo
   rw [hc', ht] at I'
   obtain ⟨σ1, u1, l1, ra, hap, hk1, hf, O1⟩ := O.more (t % 65536) (by rw [I.len]; omega)
   have e1 : (t : Int).tmod 65536 = ((t % 65536 : Nat) : Int) := by rw [Int.tmod_eq_emod_of_nonneg (by omega)]; rfl
   have e2 : (t : Int).tdiv 65536 = ((t / 65536 : Nat) : Int) := by rw [Int.tdiv_eq_ediv_of_nonneg (by omega)]; rfl
   have w1 : IntKind.u32.wrap ((t % 65536 : Nat) : Int) = ((t % 65536 : Nat) : Int) := by rw [IntKind.wrap_u32]; omega
   have w2 : IntKind.u32.wrap ((t / 65536 : Nat) : Int) = ((t / 65536 : Nat) : Int) := by rw [IntKind.wrap_u32]; omega
   obtain ⟨ts4, r4, F4⟩ : ∃ ts4, DC Try.prog false (nthC 2 (inBlk (nthC 1 addC))) ⟨ts3, []⟩ σ ⟨.norm, ⟨ts4, []⟩, σ1, l1⟩ ∧ AF ts4 v w u1 i t := by
    refine ⟨_, runs Orc.none_ok 40 nobt (by kernel_rfl) (by simp only [go_sem, seval, if_pos rfl, nthC, inBlk, addC, addB, loopOf, Option.getD, lget_put, lgetq_put, List.length_set, q5, q6, ql, e1, w1, zerosN, hap, hk1, Try.f128, Try.underlying3, info3, Try.t3, Try.underlying4, info4, Try.t4, Try.underlying112, info112, Try.t112, Try.underlying115, info115, Try.t115, Try.underlying154, info154, Try.t154] <;> rfl), ?_⟩
    constructor <;> simp only [lget_put, List.length_set, q0, q1, q5, q6, q7, ql, Nat.reduceEqDiff, Nat.reduceLT, if_true, if_false]
   have q0 := F4.t0
   have q1 := F4.t1
   have q5 := F4.t5
   have q6 := F4.t6
   have q7 := F4.t7
   have ql := F4.len
   obtain ⟨ts5, r5, F5⟩ : ∃ ts5, DC Try.prog false (nthC 3 (inBlk (nthC 1 addC))) ⟨ts4, []⟩ σ1 ⟨.norm, ⟨ts5, []⟩, σ1, []⟩ ∧ AF ts5 v w u1 i (t / 65536) := by
    refine ⟨_, runs Orc.none_ok 40 nobt (by kernel_rfl) (by simp only [go_sem, seval, if_pos rfl, nthC, inBlk, addC, addB, loopOf, Option.getD, lget_put, lgetq_put, List.length_set, q6, ql, e2, w2, Try.f128, Try.underlying3, info3, Try.t3, Try.underlying4, info4, Try.t4, Try.underlying112, info112, Try.t112, Try.underlying115, info115, Try.t115, Try.underlying154, info154, Try.t154] <;> rfl), ?_⟩
    constructor <;> simp only [lget_put, List.length_set, q0, q1, q5, q6, q7, ql, Nat.reduceEqDiff, Nat.reduceLT, if_true, if_false]
   have q0 := F5.t0
   have q1 := F5.t1
   have q5 := F5.t5
   have q6 := F5.t6
   have q7 := F5.t7
   have ql := F5.len
   have w3 : IntKind.i64.wrap ((i : Int) + 1) = ((i + 1 : Nat) : Int) := by rw [IntKind.wrap_i64]; omega
   obtain ⟨ts6, r6, F6⟩ : ∃ ts6, DC Try.prog false (nthC 2 addC) ⟨ts5, []⟩ σ1 ⟨.norm, ⟨ts6, []⟩, σ1, []⟩ ∧ AF ts6 v w u1 (i + 1) (t / 65536) := by
    refine ⟨_, runs Orc.none_ok 40 nobt (by kernel_rfl) (by simp only [go_sem, seval, if_pos rfl, nthC, addC, addB, loopOf, Option.getD, lget_put, lgetq_put, List.length_set, q7, ql, w3, Try.f128, Try.underlying3, info3, Try.t3, Try.underlying4, info4, Try.t4, Try.underlying112, info112, Try.t112, Try.underlying115, info115, Try.t115, Try.underlying154, info154, Try.t154] <;> rfl), ?_⟩
    constructor <;> simp only [lget_put, List.length_set, q0, q1, q5, q6, q7, ql, Nat.reduceEqDiff, Nat.reduceLT, if_true, if_false]
   have round : DC Try.prog false addC ⟨ts, []⟩ σ ⟨.norm, ⟨ts6, []⟩, σ1, (l1 ++ []) ++ []⟩ := DC.seq r1 rfl (DC.seq (DC.block (DC.seq r2 rfl (DC.seq r3 rfl (DC.seq r4 rfl r5)))) rfl r6)
   have K1 : ∀ b, b < σ₀.next → σ1.get b = σ₀.get b := fun b hb => by
    have h9 := r4.1.2 b (by have := O.1; show b < σ.next; omega) (fun hm => by have := hf b hm; omega)
    exact h9.trans (K b hb)
   obtain ⟨σ', lg, ts', D', u', a1, a2, a3, a4, a5, a6, a7, a8⟩ := ih (i + 1) _ _ u1 σ1 ts6 (by omega) I' F6 O1 K1
   exact ⟨σ', _, ts', D', u', DL.next round rfl a1, a2, a3, a4, a5, a6, a7, ((hf.append From.nil).append From.nil).append a8⟩
  ·obtain rfl : c = 0 := by omega
   have c1 : ¬ (i : Int) < (A.length : Int) := by omega
   have c2 : ¬ (i : Int) < (B.length : Int) := by omega
   obtain ⟨ts1, r1, F1⟩ : ∃ ts1, DC Try.prog false (nthC 0 addC) ⟨ts, []⟩ σ ⟨.exit 0, ⟨ts1, []⟩, σ, []⟩ ∧ AF ts1 v w u i 0 := by
    refine ⟨_, runs Orc.none_ok 40 nobt (by kernel_rfl) (by simp only [go_sem, seval, if_pos rfl, nthC, addC, addB, loopOf, Option.getD, lget_put, lgetq_put, List.length_set, q0, q1, q5, q6, q7, ql, oA, oB, c1, c2, Int.natCast_zero, Int.lt_irrefl, Try.f128, Try.underlying3, info3, Try.t3, Try.underlying4, info4, Try.t4, Try.underlying112, info112, Try.t112, Try.underlying115, info115, Try.t115, Try.underlying154, info154, Try.t154] <;> rfl), ?_⟩
    constructor <;> simp only [lget_put, List.length_set, q0, q1, q5, q6, q7, ql, Nat.reduceEqDiff, Nat.reduceLT, if_true, if_false]
   have out : DC Try.prog false addC ⟨ts, []⟩ σ ⟨.exit 0, ⟨ts1, []⟩, σ, []⟩ := DC.seq_out r1 rfl
   exact ⟨σ, [], ts1, D, u, DL.out out rfl, F1.len, F1.t5, I.low, by rw [I.len]; omega, I.done (by omega) (by omega), O, From.nil⟩
end Go.Ab
namespace Go.Ab
open Go.Proofs
theorem add_call {A B : List Nat} {v w : Value} {σ : St} (bA : BigS σ v A) (bB : BigS σ w B) (hA : Low A) (hB : Low B) (sA : A.length ≤ 100000) (sB : B.length ≤ 100000) :
  ∃ σ' u, DCall Try.prog 128 [v, w] σ (.ret u) σ' [] ∧ BigS σ' u (dig (val A + val B)) ∧ NewBlk σ.next u := by
 obtain ⟨ts0, h0, l0, q0, q1⟩ : ∃ ts0, start [v, w] Try.f128.ntmps = ⟨ts0, []⟩ ∧ ts0.length = 53 ∧ lget ts0 0 = v ∧ lget ts0 1 = w := ⟨(start [v, w] 53).ts, rfl, rfl, rfl, rfl⟩
 obtain ⟨ts1, r1, l1, q0, q1⟩ : ∃ ts1, DC Try.prog false (nthC 0 addB) ⟨ts0, []⟩ σ ⟨.norm, ⟨ts1, []⟩, σ, []⟩ ∧ ts1.length = 53 ∧ lget ts1 0 = v ∧ lget ts1 1 = w := by
  refine ⟨_, runs Orc.none_ok 40 nobt (by kernel_rfl) (by simp only [go_sem, seval, if_pos rfl, nthC, addB, Option.getD, lget_put, lgetq_put, List.length_set, l0, Try.f128, Try.underlying3, info3, Try.t3, Try.underlying4, info4, Try.t4, Try.underlying112, info112, Try.t112, Try.underlying115, info115, Try.t115, Try.underlying154, info154, Try.t154] <;> rfl), ?_, ?_, ?_⟩
  ·simp only [List.length_set, l0]
  ·simp only [lget_put, List.length_set, q0, l0, Nat.reduceEqDiff, Nat.reduceLT, if_true, if_false]
  ·simp only [lget_put, List.length_set, q1, l0, Nat.reduceEqDiff, Nat.reduceLT, if_true, if_false]
 obtain ⟨ts2, r2, l2, q0, q1, q5⟩ : ∃ ts2, DC Try.prog false (nthC 1 addB) ⟨ts1, []⟩ σ ⟨.norm, ⟨ts2, []⟩, σ, []⟩ ∧ ts2.length = 53 ∧ lget ts2 0 = v ∧ lget ts2 1 = w ∧ lget ts2 5 = .slice none 0 0 := by
  refine ⟨_, runs Orc.none_ok 40 nobt (by kernel_rfl) (by simp only [go_sem, seval, if_pos rfl, nthC, addB, Option.getD, lget_put, lgetq_put, List.length_set, l1, Try.f128, Try.underlying3, info3, Try.t3, Try.underlying4, info4, Try.t4, Try.underlying112, info112, Try.t112, Try.underlying115, info115, Try.t115, Try.underlying154, info154, Try.t154] <;> rfl), ?_, ?_, ?_, ?_⟩
  ·simp only [List.length_set, l1]
  ·simp only [lget_put, List.length_set, q0, l1, Nat.reduceEqDiff, Nat.reduceLT, if_true, if_false]
  ·simp only [lget_put, List.length_set, q1, l1, Nat.reduceEqDiff, Nat.reduceLT, if_true, if_false]
  ·simp only [lget_put, List.length_set, l1, Nat.reduceEqDiff, Nat.reduceLT, if_true, if_false]
 obtain ⟨ts3, r3, l3, q0, q1, q5, q6⟩ : ∃ ts3, DC Try.prog false (nthC 2 addB) ⟨ts2, []⟩ σ ⟨.norm, ⟨ts3, []⟩, σ, []⟩ ∧ ts3.length = 53 ∧ lget ts3 0 = v ∧ lget ts3 1 = w ∧ lget ts3 5 = .slice none 0 0 ∧ lget ts3 6 = .int .u32 (0 : Nat) := by
  refine ⟨_, runs Orc.none_ok 40 nobt (by kernel_rfl) (by simp only [go_sem, seval, if_pos rfl, nthC, addB, Option.getD, lget_put, lgetq_put, List.length_set, l2, Try.f128, Try.underlying3, info3, Try.t3, Try.underlying4, info4, Try.t4, Try.underlying112, info112, Try.t112, Try.underlying115, info115, Try.t115, Try.underlying154, info154, Try.t154] <;> rfl), ?_, ?_, ?_, ?_, ?_⟩
  ·simp only [List.length_set, l2]
  ·simp only [lget_put, List.length_set, q0, l2, Nat.reduceEqDiff, Nat.reduceLT, if_true, if_false]
  ·simp only [lget_put, List.length_set, q1, l2, Nat.reduceEqDiff, Nat.reduceLT, if_true, if_false]
  ·simp only [lget_put, List.length_set, q5, l2, Nat.reduceEqDiff, Nat.reduceLT, if_true, if_false]
  ·simp only [lget_put, List.length_set, l2, Nat.reduceEqDiff, Nat.reduceLT, if_true, if_false, Int.natCast_zero]
 obtain ⟨ts4, r4, F4⟩ : ∃ ts4, DC Try.prog false (nthC 0 (nthC 3 addB)) ⟨ts3, []⟩ σ ⟨.norm, ⟨ts4, []⟩, σ, []⟩ ∧ AF ts4 v w (.slice none 0 0) 0 0 := by
  refine ⟨_, runs Orc.none_ok 40 nobt (by kernel_rfl) (by simp only [go_sem, seval, if_pos rfl, nthC, addB, Option.getD, lget_put, lgetq_put, List.length_set, l3, Try.f128, Try.underlying3, info3, Try.t3, Try.underlying4, info4, Try.t4, Try.underlying112, info112, Try.t112, Try.underlying115, info115, Try.t115, Try.underlying154, info154, Try.t154] <;> rfl), ?_⟩
  constructor <;> simp only [lget_put, List.length_set, q0, q1, q5, q6, l3, Nat.reduceEqDiff, Nat.reduceLT, if_true, if_false, Int.natCast_zero]
 obtain ⟨σ5, lg5, ts5, D, u, d5, l5, q5, lD, sD, vD, O5, f5⟩ := add_loop bA bB hA hB sA sB (Nat.le_refl _) (max A.length B.length + 3) 0 0 [] _ σ ts4 (by omega) ⟨rfl, Low.nil, by omega, .inl (by omega), by simp [val]⟩ F4 ⟨Nat.le_refl _, .inl ⟨rfl, rfl⟩⟩ (fun _ _ => rfl)
 obtain ⟨u', dt, bu, nu⟩ := trim_call (by omega) O5.big lD
 rw [vD] at bu
 obtain ⟨ts6, r6, p4⟩ : ∃ ts6, DC Try.prog false (nthC 4 addB) ⟨ts5, []⟩ σ5 ⟨.norm, ⟨ts6, []⟩, σ5, []⟩ ∧ lget ts6 4 = u' := by
  refine ⟨_, runs (one_ok' Orc.none_ok dt) 40 nobt (by kernel_rfl) (by simp only [go_sem, seval, if_pos rfl, nthC, addB, Option.getD, Orc.one_call, lget_put, lgetq_put, List.length_set, q5, l5, Try.f128, Try.underlying3, info3, Try.t3, Try.underlying4, info4, Try.t4, Try.underlying112, info112, Try.t112, Try.underlying115, info115, Try.t115, Try.underlying154, info154, Try.t154, body85] <;> rfl), ?_⟩
  simp only [lget_put, List.length_set, l5, Nat.reduceEqDiff, Nat.reduceLT, if_true, if_false]
 refine ⟨σ5, u', DCall.fresh (callsD Try.func128 (rfl : Try.f128.body = some addB) (h0 ▸ DC.seq r1 rfl (DC.seq r2 rfl (DC.seq r3 rfl (DC.seq (DC.seq r4 rfl (DC.block (DC.loop d5))) rfl (DC.seq r6 rfl (DC.ret _ _ _)))))) ?_ rfl rfl) (fun c hc => ?_), bu, nu _ O5.new⟩
 ·simp only [endsA, Try.f128, resA, resList, resOne, p4, Option.map, RR.pre]
 ·exact f5 c (by simpa [RR.pre] using hc)
structure SubI (A B D : List Nat) (i : Nat) (c : Int) : Prop where
 len : D.length = i
 low : Low D
 hc : c = 0 ∨ c = -1
 v : (val D : Int) + c * ((65536 ^ i : Nat) : Int) = (val (A.take i) : Int) - (val (B.take i) : Int)
theorem SubI.step {A B D : List Nat} {i : Nat} {c c' : Int} {d : Nat} (h : SubI A B D i c) (hd : d < 65536) (hc' : c' = 0 ∨ c' = -1) (he : (d : Int) + 65536 * c' = c + (at0 A i : Int) - (at0 B i : Int)) : SubI A B (D ++ [d]) (i + 1) c' where
 len := by simp [h.len]
 low := h.low.append (Low.cons hd Low.nil)
 hc := hc'
 v := by
  have hv := h.v
  have h1 : val (D ++ [d]) = val D + 65536 ^ i * d := by rw [val_append, h.len]; simp [val]
  have h2 := val_take0 A i
  have h3 := val_take0 B i
  have h4 : 65536 ^ (i + 1) = 65536 ^ i * 65536 := Nat.pow_succ ..
  rw [h1, h2, h3, h4]
  generalize 65536 ^ i = P at *
  generalize at0 A i = a at *
  generalize at0 B i = b at *
  simp only [Int.natCast_add, Int.natCast_mul]
  have e : (P : Int) * ((d : Int) + 65536 * c') = P * (c + a - b) := by rw [he]
  grind
theorem SubI.done {A B D : List Nat} {c : Int} (h : SubI A B D A.length c) (hl : B.length ≤ A.length) (hle : val B ≤ val A) : val D = val A - val B := by
 have hv := h.v
 rw [List.take_length, List.take_of_length_le hl] at hv
 have hb := val_lt D h.low
 rw [h.len] at hb
 rcases h.hc with rfl | rfl <;> omega
noncomputable def subB : Code := Try.f129.body.getD .skip
noncomputable def subC : Code := loopOf subB
structure SF (ts : List Value) (v w u : Value) (i : Nat) (c : Int) : Prop where
 len : ts.length = 45
 t0 : lget ts 0 = v
 t1 : lget ts 1 = w
 t5 : lget ts 5 = u
 t6 : lget ts 6 = .int .i64 c
 t7 : lget ts 7 = .int .i64 i
theorem sub_loop {A B : List Nat} {v w : Value} {σ₀ : St} {lo : Nat} (bA : BigS σ₀ v A) (bB : BigS σ₀ w B) (hA : Low A) (hB : Low B) (sA : A.length ≤ 100000) (sB : B.length ≤ 100000) (hlo : σ₀.next ≤ lo) :
  ∀ (n i : Nat) (c : Int) (D : List Nat) (u : Value) (σ : St) (ts : List Value), A.length - i < n → i ≤ A.length → SubI A B D i c → SF ts v w u i c → OutS σ lo u D → (∀ b, b < σ₀.next → σ.get b = σ₀.get b) →
  ∃ σ' lg ts' D' u' c', DL Try.prog false subC ⟨ts, []⟩ σ ⟨.exit 0, ⟨ts', []⟩, σ', lg⟩ ∧ ts'.length = 45 ∧ lget ts' 5 = u' ∧ SubI A B D' A.length c' ∧ OutS σ' lo u' D' ∧ From lo lg := by
 intro n
 induction n with
 | zero => intro i c D u σ ts hk; omega
 | succ n ih =>
  intro i c D u σ ts hk hi I F O K
  have q0 := F.t0
  have q1 := F.t1
  have q5 := F.t5
  have q6 := F.t6
  have q7 := F.t7
  have ql := F.len
  have oA := bA.len
  have oB := bB.len
  have hc := I.hc
  have la := at0_lt hA i
  have lb := at0_lt hB i
  by_cases hgo : i < A.length
  ·have c1 : (i : Int) < (A.length : Int) := by omega
   have c2 : (0 : Int) ≤ (i : Int) ∧ (i : Int) < (A.length : Int) := by omega
   obtain ⟨ts1, r1, F1⟩ : ∃ ts1, DC Try.prog false (nthC 0 subC) ⟨ts, []⟩ σ ⟨.norm, ⟨ts1, []⟩, σ, []⟩ ∧ SF ts1 v w u i c := by
    refine ⟨_, runs Orc.none_ok 40 nobt (by kernel_rfl) (by simp only [go_sem, seval, if_pos rfl, nthC, subC, subB, loopOf, Option.getD, lget_put, lgetq_put, List.length_set, q0, q1, q5, q6, q7, ql, oA, oB, c1, Try.f129, Try.underlying2, info2, Try.t2, Try.underlying3, info3, Try.t3, Try.underlying4, info4, Try.t4, Try.underlying112, info112, Try.t112, Try.underlying115, info115, Try.t115, Try.underlying154, info154, Try.t154] <;> rfl), ?_⟩
    constructor <;> simp only [lget_put, List.length_set, q0, q1, q5, q6, q7, ql, Nat.reduceEqDiff, Nat.reduceLT, if_true, if_false]
   have q0 := F1.t0
   have q1 := F1.t1
   have q5 := F1.t5
   have q6 := F1.t6
   have q7 := F1.t7
   have ql := F1.len
   obtain ⟨ts2, r2, F2⟩ : ∃ ts2, DC Try.prog false (nthC 0 (inBlk (nthC 1 subC))) ⟨ts1, []⟩ σ ⟨.norm, ⟨ts2, []⟩, σ, []⟩ ∧ SF ts2 v w u i (c + (at0 A i : Int)) := by
    obtain ⟨b1, sp1, cap1, vs1, ro1, rfl, hb1, hg1, he1⟩ := bA.at (at0_some hgo)
    have g1 : σ.get b1 = some (.cells vs1 ro1) := (K b1 hb1).trans hg1
    have w0 : IntKind.i64.wrap (at0 A i : Int) = (at0 A i : Int) := by rw [IntKind.wrap_i64]; omega
    have w1 : IntKind.i64.wrap (c + (at0 A i : Int)) = c + (at0 A i : Int) := by rw [IntKind.wrap_i64]; omega
    refine ⟨_, runs Orc.none_ok 40 nobt (by kernel_rfl) (by simp only [go_sem, seval, if_pos rfl, nthC, inBlk, subC, subB, loopOf, Option.getD, lget_put, lgetq_put, List.length_set, q0, q1, q5, q6, q7, ql, oA, oB, c1, c2, g1, he1, w0, w1, Int.toNat_natCast, Try.f129, Try.underlying2, info2, Try.t2, Try.underlying3, info3, Try.t3, Try.underlying4, info4, Try.t4, Try.underlying112, info112, Try.t112, Try.underlying115, info115, Try.t115, Try.underlying154, info154, Try.t154] <;> rfl), ?_⟩
    constructor <;> simp only [lget_put, List.length_set, q0, q1, q5, q6, q7, ql, Nat.reduceEqDiff, Nat.reduceLT, if_true, if_false]
   have q0 := F2.t0
   have q1 := F2.t1
   have q5 := F2.t5
   have q6 := F2.t6
   have q7 := F2.t7
   have ql := F2.len
   obtain ⟨s, hs⟩ : ∃ s, c + (at0 A i : Int) - (at0 B i : Int) = s := ⟨_, rfl⟩
   obtain ⟨s1, hs1⟩ : ∃ s1, c + (at0 A i : Int) = s1 := ⟨_, rfl⟩
   rw [hs1] at q6
   obtain ⟨ts3, r3, F3⟩ : ∃ ts3, DC Try.prog false (nthC 1 (inBlk (nthC 1 subC))) ⟨ts2, []⟩ σ ⟨.norm, ⟨ts3, []⟩, σ, []⟩ ∧ SF ts3 v w u i s := by
    by_cases h1 : i < B.length
    ·have c1 : (i : Int) < (B.length : Int) := by omega
     have c2 : (0 : Int) ≤ (i : Int) ∧ (i : Int) < (B.length : Int) := by omega
     obtain ⟨b1, sp1, cap1, vs1, ro1, rfl, hb1, hg1, he1⟩ := bB.at (at0_some h1)
     have g1 : σ.get b1 = some (.cells vs1 ro1) := (K b1 hb1).trans hg1
     have w0 : IntKind.i64.wrap (at0 B i : Int) = (at0 B i : Int) := by rw [IntKind.wrap_i64]; omega
     have w1 : IntKind.i64.wrap (s1 - (at0 B i : Int)) = s := by rw [IntKind.wrap_i64]; omega
     refine ⟨_, runs Orc.none_ok 40 nobt (by kernel_rfl) (by simp only [go_sem, seval, if_pos rfl, nthC, inBlk, subC, subB, loopOf, Option.getD, lget_put, lgetq_put, List.length_set, q0, q1, q5, q6, q7, ql, oA, oB, c1, c2, g1, he1, w0, w1, Int.toNat_natCast, Try.f129, Try.underlying2, info2, Try.t2, Try.underlying3, info3, Try.t3, Try.underlying4, info4, Try.t4, Try.underlying112, info112, Try.t112, Try.underlying115, info115, Try.t115, Try.underlying154, info154, Try.t154] <;> rfl), ?_⟩
     constructor <;> simp only [lget_put, List.length_set, q0, q1, q5, q6, q7, ql, Nat.reduceEqDiff, Nat.reduceLT, if_true, if_false]
    ·have c1 : ¬ (i : Int) < (B.length : Int) := by omega
     have : s1 = s := by rw [at0_none (A := B) (by omega)] at hs; omega
     rw [← this]
     refine ⟨_, runs Orc.none_ok 40 nobt (by kernel_rfl) (by simp only [go_sem, seval, if_pos rfl, nthC, inBlk, subC, subB, loopOf, Option.getD, lget_put, lgetq_put, List.length_set, q0, q1, q5, q6, q7, ql, oA, oB, c1, Try.f129, Try.underlying2, info2, Try.t2, Try.underlying3, info3, Try.t3, Try.underlying4, info4, Try.t4, Try.underlying112, info112, Try.t112, Try.underlying115, info115, Try.t115, Try.underlying154, info154, Try.t154] <;> rfl), ?_⟩
     constructor <;> simp only [lget_put, List.length_set, q0, q1, q5, q6, q7, ql, Nat.reduceEqDiff, Nat.reduceLT, if_true, if_false]
   have q0 := F3.t0
   have q1 := F3.t1
   have q5 := F3.t5
   have q6 := F3.t6
   have q7 := F3.t7
   have ql := F3.len
   obtain ⟨tsa, ra1, la1, q0, q1, q5, q7, q8⟩ : ∃ ts4, DC Try.prog false (nthC 2 (inBlk (nthC 1 subC))) ⟨ts3, []⟩ σ ⟨.norm, ⟨ts4, []⟩, σ, []⟩ ∧ ts4.length = 45 ∧ lget ts4 0 = v ∧ lget ts4 1 = w ∧ lget ts4 5 = u ∧ lget ts4 7 = .int .i64 i ∧ lget ts4 8 = .int .i64 s := by
    refine ⟨_, runs Orc.none_ok 40 nobt (by kernel_rfl) (by simp only [go_sem, seval, if_pos rfl, nthC, inBlk, subC, subB, loopOf, Option.getD, lget_put, lgetq_put, List.length_set, q6, ql, Try.f129, Try.underlying2, info2, Try.t2, Try.underlying3, info3, Try.t3, Try.underlying4, info4, Try.t4, Try.underlying112, info112, Try.t112, Try.underlying115, info115, Try.t115, Try.underlying154, info154, Try.t154] <;> rfl), ?_, ?_, ?_, ?_, ?_, ?_⟩ <;> simp only [lget_put, List.length_set, q0, q1, q5, q6, q7, ql, Nat.reduceEqDiff, Nat.reduceLT, if_true, if_false]
   obtain ⟨tsb, rb1, lb1, q0, q1, q5, q6, q7, q8⟩ : ∃ ts4, DC Try.prog false (nthC 3 (inBlk (nthC 1 subC))) ⟨tsa, []⟩ σ ⟨.norm, ⟨ts4, []⟩, σ, []⟩ ∧ ts4.length = 45 ∧ lget ts4 0 = v ∧ lget ts4 1 = w ∧ lget ts4 5 = u ∧ lget ts4 6 = .int .i64 0 ∧ lget ts4 7 = .int .i64 i ∧ lget ts4 8 = .int .i64 s := by
    refine ⟨_, runs Orc.none_ok 40 nobt (by kernel_rfl) (by simp only [go_sem, seval, if_pos rfl, nthC, inBlk, subC, subB, loopOf, Option.getD, lget_put, lgetq_put, List.length_set, la1, Try.f129, Try.underlying2, info2, Try.t2, Try.underlying3, info3, Try.t3, Try.underlying4, info4, Try.t4, Try.underlying112, info112, Try.t112, Try.underlying115, info115, Try.t115, Try.underlying154, info154, Try.t154] <;> rfl), ?_, ?_, ?_, ?_, ?_, ?_, ?_⟩ <;> simp only [lget_put, List.length_set, q0, q1, q5, q7, q8, la1, Nat.reduceEqDiff, Nat.reduceLT, if_true, if_false]
   obtain ⟨d, c', hd, hc', he, ts4, r4, l4, p0, p1, p5, p6, p7, p8⟩ : ∃ (d : Nat) (c' : Int), d < 65536 ∧ (c' = 0 ∨ c' = -1) ∧ (d : Int) + 65536 * c' = s ∧
     ∃ ts4, DC Try.prog false (nthC 4 (inBlk (nthC 1 subC))) ⟨tsb, []⟩ σ ⟨.norm, ⟨ts4, []⟩, σ, []⟩ ∧ ts4.length = 45 ∧ lget ts4 0 = v ∧ lget ts4 1 = w ∧ lget ts4 5 = u ∧ lget ts4 6 = .int .i64 c' ∧ lget ts4 7 = .int .i64 i ∧ lget ts4 8 = .int .i64 (d : Int) := by
    by_cases hneg : s < 0
    ·have w1 : IntKind.i64.wrap (s + 65536) = (((s + 65536).toNat : Nat) : Int) := by rw [IntKind.wrap_i64]; omega
     refine ⟨(s + 65536).toNat, -1, by omega, .inr rfl, by omega, _, runs Orc.none_ok 40 nobt (by kernel_rfl) (by simp only [go_sem, seval, if_pos rfl, nthC, inBlk, subC, subB, loopOf, Option.getD, lget_put, lgetq_put, List.length_set, q8, lb1, hneg, w1, Try.f129, Try.underlying2, info2, Try.t2, Try.underlying3, info3, Try.t3, Try.underlying4, info4, Try.t4, Try.underlying112, info112, Try.t112, Try.underlying115, info115, Try.t115, Try.underlying154, info154, Try.t154] <;> rfl), ?_, ?_, ?_, ?_, ?_, ?_, ?_⟩ <;> simp only [lget_put, List.length_set, q0, q1, q5, q6, q7, q8, lb1, Nat.reduceEqDiff, Nat.reduceLT, if_true, if_false]
    ·have w1 : s = ((s.toNat : Nat) : Int) := by omega
     refine ⟨s.toNat, 0, by omega, .inl rfl, by omega, _, runs Orc.none_ok 40 nobt (by kernel_rfl) (by simp only [go_sem, seval, if_pos rfl, nthC, inBlk, subC, subB, loopOf, Option.getD, lget_put, lgetq_put, List.length_set, q8, lb1, hneg, Try.f129, Try.underlying2, info2, Try.t2, Try.underlying3, info3, Try.t3, Try.underlying4, info4, Try.t4, Try.underlying112, info112, Try.t112, Try.underlying115, info115, Try.t115, Try.underlying154, info154, Try.t154] <;> rfl), ?_, ?_, ?_, ?_, ?_, ?_, ?_⟩ <;> simp only [lget_put, List.length_set, q0, q1, q5, q6, q7, q8, lb1, Nat.reduceEqDiff, Nat.reduceLT, if_true, if_false, ← w1]
   obtain ⟨σ1, u1, l1, ra, hap, hk1, hf, O1⟩ := O.more d (by rw [I.len]; omega)
   have w2 : IntKind.u32.wrap (d : Int) = (d : Int) := by rw [IntKind.wrap_u32]; omega
   obtain ⟨ts5, r5, F5⟩ : ∃ ts5, DC Try.prog false (nthC 5 (inBlk (nthC 1 subC))) ⟨ts4, []⟩ σ ⟨.norm, ⟨ts5, []⟩, σ1, l1⟩ ∧ SF ts5 v w u1 i c' := by
    refine ⟨_, runs Orc.none_ok 40 nobt (by kernel_rfl) (by simp only [go_sem, seval, if_pos rfl, nthC, inBlk, subC, subB, loopOf, Option.getD, lget_put, lgetq_put, List.length_set, p5, p8, l4, w2, zerosN, hap, hk1, Try.f129, Try.underlying2, info2, Try.t2, Try.underlying3, info3, Try.t3, Try.underlying4, info4, Try.t4, Try.underlying112, info112, Try.t112, Try.underlying115, info115, Try.t115, Try.underlying154, info154, Try.t154] <;> rfl), ?_⟩
    constructor <;> simp only [lget_put, List.length_set, p0, p1, p5, p6, p7, l4, Nat.reduceEqDiff, Nat.reduceLT, if_true, if_false]
   have q0 := F5.t0
   have q1 := F5.t1
   have q5 := F5.t5
   have q6 := F5.t6
   have q7 := F5.t7
   have ql := F5.len
   have w3 : IntKind.i64.wrap ((i : Int) + 1) = ((i + 1 : Nat) : Int) := by rw [IntKind.wrap_i64]; omega
   obtain ⟨ts6, r6, F6⟩ : ∃ ts6, DC Try.prog false (nthC 2 subC) ⟨ts5, []⟩ σ1 ⟨.norm, ⟨ts6, []⟩, σ1, []⟩ ∧ SF ts6 v w u1 (i + 1) c' := by
    refine ⟨_, runs Orc.none_ok 40 nobt (by kernel_rfl) (by simp only [go_sem, seval, if_pos rfl, nthC, subC, subB, loopOf, Option.getD, lget_put, lgetq_put, List.length_set, q7, ql, w3, Try.f129, Try.underlying2, info2, Try.t2, Try.underlying3, info3, Try.t3, Try.underlying4, info4, Try.t4, Try.underlying112, info112, Try.t112, Try.underlying115, info115, Try.t115, Try.underlying154, info154, Try.t154] <;> rfl), ?_⟩
    constructor <;> simp only [lget_put, List.length_set, q0, q1, q5, q6, q7, ql, Nat.reduceEqDiff, Nat.reduceLT, if_true, if_false]
   have I' := I.step hd hc' (he.trans hs.symm)
   have round : DC Try.prog false subC ⟨ts, []⟩ σ ⟨.norm, ⟨ts6, []⟩, σ1, l1 ++ []⟩ := DC.seq r1 rfl (DC.seq (DC.block (DC.seq r2 rfl (DC.seq r3 rfl (DC.seq ra1 rfl (DC.seq rb1 rfl (DC.seq r4 rfl r5)))))) rfl r6)
   have K1 : ∀ b, b < σ₀.next → σ1.get b = σ₀.get b := fun b hb => by
    have h9 := r5.1.2 b (by have := O.1; show b < σ.next; omega) (fun hm => by have := hf b hm; omega)
    exact h9.trans (K b hb)
   obtain ⟨σ', lg, ts', D', u', c'', a1, a2, a3, a4, a5, a6⟩ := ih (i + 1) _ _ u1 σ1 ts6 (by omega) (by omega) I' F6 O1 K1
   exact ⟨σ', _, ts', D', u', c'', DL.next round rfl a1, a2, a3, a4, a5, (hf.append From.nil).append a6⟩
  ·obtain rfl : i = A.length := by omega
   have c1 : ¬ (A.length : Int) < (A.length : Int) := by omega
   obtain ⟨ts1, r1, l1, p5⟩ : ∃ ts1, DC Try.prog false (nthC 0 subC) ⟨ts, []⟩ σ ⟨.exit 0, ⟨ts1, []⟩, σ, []⟩ ∧ ts1.length = 45 ∧ lget ts1 5 = u := by
    refine ⟨_, runs Orc.none_ok 40 nobt (by kernel_rfl) (by simp only [go_sem, seval, if_pos rfl, nthC, subC, subB, loopOf, Option.getD, lget_put, lgetq_put, List.length_set, q0, q1, q5, q6, q7, ql, oA, oB, c1, Int.lt_irrefl, Try.f129, Try.underlying2, info2, Try.t2, Try.underlying3, info3, Try.t3, Try.underlying4, info4, Try.t4, Try.underlying112, info112, Try.t112, Try.underlying115, info115, Try.t115, Try.underlying154, info154, Try.t154] <;> rfl), ?_, ?_⟩ <;> simp only [lget_put, List.length_set, q0, q1, q5, q6, q7, ql, Nat.reduceEqDiff, Nat.reduceLT, if_true, if_false]
   have out : DC Try.prog false subC ⟨ts, []⟩ σ ⟨.exit 0, ⟨ts1, []⟩, σ, []⟩ := DC.seq_out r1 rfl
   exact ⟨σ, [], ts1, D, u, c, DL.out out rfl, l1, p5, I, O, From.nil⟩
theorem dig_len_mono {a b : Nat} (h : b ≤ a) : (dig b).length ≤ (dig a).length := by
 rcases Nat.lt_or_ge (dig a).length (dig b).length with h1 | h1
 ·have := dig_len_lt h1; omega
 ·exact h1
theorem sub_call {a b : Nat} {v w : Value} {σ : St} (bA : BigS σ v (dig a)) (bB : BigS σ w (dig b)) (hle : b ≤ a) (sA : (dig a).length ≤ 100000) :
  ∃ σ' u, DCall Try.prog 129 [v, w] σ (.ret u) σ' [] ∧ BigS σ' u (dig (a - b)) ∧ NewBlk σ.next u := by
 have sB : (dig b).length ≤ 100000 := by have := dig_len_mono hle; omega
 obtain ⟨ts0, h0, l0, q0, q1⟩ : ∃ ts0, start [v, w] Try.f129.ntmps = ⟨ts0, []⟩ ∧ ts0.length = 45 ∧ lget ts0 0 = v ∧ lget ts0 1 = w := ⟨(start [v, w] 45).ts, rfl, rfl, rfl, rfl⟩
 obtain ⟨ts1, r1, l1, q0, q1⟩ : ∃ ts1, DC Try.prog false (nthC 0 subB) ⟨ts0, []⟩ σ ⟨.norm, ⟨ts1, []⟩, σ, []⟩ ∧ ts1.length = 45 ∧ lget ts1 0 = v ∧ lget ts1 1 = w := by
  refine ⟨_, runs Orc.none_ok 40 nobt (by kernel_rfl) (by simp only [go_sem, seval, if_pos rfl, nthC, subB, Option.getD, lget_put, lgetq_put, List.length_set, l0, Try.f129, Try.underlying3, info3, Try.t3, Try.underlying4, info4, Try.t4, Try.underlying112, info112, Try.t112, Try.underlying115, info115, Try.t115, Try.underlying154, info154, Try.t154] <;> rfl), ?_, ?_, ?_⟩ <;> simp only [lget_put, List.length_set, q0, q1, l0, Nat.reduceEqDiff, Nat.reduceLT, if_true, if_false]
 obtain ⟨ts2, r2, l2, q0, q1, q5⟩ : ∃ ts2, DC Try.prog false (nthC 1 subB) ⟨ts1, []⟩ σ ⟨.norm, ⟨ts2, []⟩, σ, []⟩ ∧ ts2.length = 45 ∧ lget ts2 0 = v ∧ lget ts2 1 = w ∧ lget ts2 5 = .slice none 0 0 := by
  refine ⟨_, runs Orc.none_ok 40 nobt (by kernel_rfl) (by simp only [go_sem, seval, if_pos rfl, nthC, subB, Option.getD, lget_put, lgetq_put, List.length_set, l1, Try.f129, Try.underlying3, info3, Try.t3, Try.underlying4, info4, Try.t4, Try.underlying112, info112, Try.t112, Try.underlying115, info115, Try.t115, Try.underlying154, info154, Try.t154] <;> rfl), ?_, ?_, ?_, ?_⟩ <;> simp only [lget_put, List.length_set, q0, q1, l1, Nat.reduceEqDiff, Nat.reduceLT, if_true, if_false]
 obtain ⟨ts3, r3, l3, q0, q1, q5, q6⟩ : ∃ ts3, DC Try.prog false (nthC 2 subB) ⟨ts2, []⟩ σ ⟨.norm, ⟨ts3, []⟩, σ, []⟩ ∧ ts3.length = 45 ∧ lget ts3 0 = v ∧ lget ts3 1 = w ∧ lget ts3 5 = .slice none 0 0 ∧ lget ts3 6 = .int .i64 0 := by
  refine ⟨_, runs Orc.none_ok 40 nobt (by kernel_rfl) (by simp only [go_sem, seval, if_pos rfl, nthC, subB, Option.getD, lget_put, lgetq_put, List.length_set, l2, Try.f129, Try.underlying3, info3, Try.t3, Try.underlying4, info4, Try.t4, Try.underlying112, info112, Try.t112, Try.underlying115, info115, Try.t115, Try.underlying154, info154, Try.t154] <;> rfl), ?_, ?_, ?_, ?_, ?_⟩ <;> simp only [lget_put, List.length_set, q0, q1, q5, l2, Nat.reduceEqDiff, Nat.reduceLT, if_true, if_false]
 obtain ⟨ts4, r4, F4⟩ : ∃ ts4, DC Try.prog false (nthC 0 (nthC 3 subB)) ⟨ts3, []⟩ σ ⟨.norm, ⟨ts4, []⟩, σ, []⟩ ∧ SF ts4 v w (.slice none 0 0) 0 0 := by
  refine ⟨_, runs Orc.none_ok 40 nobt (by kernel_rfl) (by simp only [go_sem, seval, if_pos rfl, nthC, subB, Option.getD, lget_put, lgetq_put, List.length_set, l3, Try.f129, Try.underlying3, info3, Try.t3, Try.underlying4, info4, Try.t4, Try.underlying112, info112, Try.t112, Try.underlying115, info115, Try.t115, Try.underlying154, info154, Try.t154] <;> rfl), ?_⟩
  constructor <;> simp only [lget_put, List.length_set, q0, q1, q5, q6, l3, Nat.reduceEqDiff, Nat.reduceLT, if_true, if_false, Int.natCast_zero]
 obtain ⟨σ5, lg5, ts5, D, u, c', d5, l5, q5, I5, O5, f5⟩ := sub_loop bA bB (dig_low a) (dig_low b) sA sB (Nat.le_refl _) ((dig a).length + 1) 0 0 [] _ σ ts4 (by omega) (by omega) ⟨rfl, Low.nil, .inl rfl, by simp [val]⟩ F4 ⟨Nat.le_refl _, .inl ⟨rfl, rfl⟩⟩ (fun _ _ => rfl)
 have vD := I5.done (dig_len_mono hle) (by rw [val_dig, val_dig]; exact hle)
 rw [val_dig, val_dig] at vD
 obtain ⟨u', dt, bu, nu⟩ := trim_call (by rw [I5.len]; omega) O5.big I5.low
 rw [vD] at bu
 obtain ⟨ts6, r6, p4⟩ : ∃ ts6, DC Try.prog false (nthC 4 subB) ⟨ts5, []⟩ σ5 ⟨.norm, ⟨ts6, []⟩, σ5, []⟩ ∧ lget ts6 4 = u' := by
  refine ⟨_, runs (one_ok' Orc.none_ok dt) 40 nobt (by kernel_rfl) (by simp only [go_sem, seval, if_pos rfl, nthC, subB, Option.getD, Orc.one_call, lget_put, lgetq_put, List.length_set, q5, l5, Try.f129, Try.underlying3, info3, Try.t3, Try.underlying4, info4, Try.t4, Try.underlying112, info112, Try.t112, Try.underlying115, info115, Try.t115, Try.underlying154, info154, Try.t154, body85] <;> rfl), ?_⟩
  simp only [lget_put, List.length_set, l5, Nat.reduceEqDiff, Nat.reduceLT, if_true, if_false]
 refine ⟨σ5, u', DCall.fresh (callsD Try.func129 (rfl : Try.f129.body = some subB) (h0 ▸ DC.seq r1 rfl (DC.seq r2 rfl (DC.seq r3 rfl (DC.seq (DC.seq r4 rfl (DC.block (DC.loop d5))) rfl (DC.seq r6 rfl (DC.ret _ _ _)))))) ?_ rfl rfl) (fun c hc => ?_), bu, nu _ O5.new⟩
 ·simp only [endsA, Try.f129, resA, resList, resOne, p4, Option.map, RR.pre]
 ·exact f5 c (by simpa [RR.pre] using hc)
end Go.Ab
namespace Go.Ab
open Go.Proofs
theorem pow_bits (j : Nat) : 65536 ^ j = 2 ^ (16 * j) := by
 have : (65536 : Nat) = 2 ^ 16 := by decide
 rw [this, ← Nat.pow_mul]
theorem digit_at : ∀ {Q : List Nat} {j q : Nat}, Low Q → Q[j]? = some q → q = val Q / 65536 ^ j % 65536
 | [], _, _, _, h => by simp at h
 | x :: Q, 0, q, hL, h => by
  simp only [List.getElem?_cons_zero, Option.some.injEq] at h
  subst h
  have := hL x (by simp)
  simp only [val, Nat.pow_zero, Nat.div_one]; omega
 | x :: Q, j + 1, q, hL, h => by
  simp only [List.getElem?_cons_succ] at h
  have ih := digit_at hL.tail h
  have hx := hL x (by simp)
  have e : val (x :: Q) / 65536 ^ (j + 1) = val Q / 65536 ^ j := by
   rw [Nat.pow_succ, Nat.mul_comm, ← Nat.div_div_eq_div_mul]
   congr 1
   simp only [val]; omega
  rw [e]; exact ih
theorem bit_of {n s : Nat} (hs : s < 16) : (n % 65536) / 2 ^ s % 2 = n / 2 ^ s % 2 := by
 have : s = 0 ∨ s = 1 ∨ s = 2 ∨ s = 3 ∨ s = 4 ∨ s = 5 ∨ s = 6 ∨ s = 7 ∨ s = 8 ∨ s = 9 ∨ s = 10 ∨ s = 11 ∨ s = 12 ∨ s = 13 ∨ s = 14 ∨ s = 15 := by omega
 rcases this with rfl | rfl | rfl | rfl | rfl | rfl | rfl | rfl | rfl | rfl | rfl | rfl | rfl | rfl | rfl | rfl <;> (simp only [Nat.reducePow]; omega)
theorem room_of {K s : Nat} (hs : s < 16) : (K * 2 ^ (s + 1)) % 65536 + 2 ^ s < 65536 := by
 have : s = 0 ∨ s = 1 ∨ s = 2 ∨ s = 3 ∨ s = 4 ∨ s = 5 ∨ s = 6 ∨ s = 7 ∨ s = 8 ∨ s = 9 ∨ s = 10 ∨ s = 11 ∨ s = 12 ∨ s = 13 ∨ s = 14 ∨ s = 15 := by omega
 rcases this with rfl | rfl | rfl | rfl | rfl | rfl | rfl | rfl | rfl | rfl | rfl | rfl | rfl | rfl | rfl | rfl <;> (simp only [Nat.reduceAdd, Nat.reducePow]; omega)
theorem bit_at {A : List Nat} {i x : Nat} (hL : Low A) (hx : A[i / 16]? = some x) : x / 2 ^ (i % 16) % 2 = val A / 2 ^ i % 2 := by
 rw [digit_at hL hx, bit_of (Nat.mod_lt _ (by omega)), pow_bits, Nat.div_div_eq_div_mul, ← Nat.pow_add]
 congr 3
 omega
structure DivI (a b : Nat) (n : Nat) (Q : List Nat) (m r : Nat) : Prop where
 len : Q.length = n
 low : Low Q
 r : r = a / 2 ^ m % b
 q : val Q = a / 2 ^ m / b * 2 ^ m
theorem DivI.bit {a b n : Nat} {Q : List Nat} {i r : Nat} (h : DivI a b n Q (i + 1) r) (hb : 0 < b) : a / 2 ^ i = 2 * (a / 2 ^ (i + 1)) + a / 2 ^ i % 2 := by
 have : a / 2 ^ (i + 1) = a / 2 ^ i / 2 := by rw [Nat.pow_succ, Nat.div_div_eq_div_mul]
 omega
theorem div_is {M b k t : Nat} (hb : 0 < b) (h : M = b * k + t) (ht : t < b) : M / b = k ∧ M % b = t := by
 subst h
 rw [Nat.mul_add_div hb, Nat.div_eq_of_lt ht, Nat.mul_add_mod, Nat.mod_eq_of_lt ht]
 exact ⟨rfl, rfl⟩
theorem DivI.low_step {a b n : Nat} {Q : List Nat} {i r : Nat} (h : DivI a b n Q (i + 1) r) (hb : 0 < b) (hlt : 2 * r + a / 2 ^ i % 2 < b) : DivI a b n Q i (2 * r + a / 2 ^ i % 2) := by
 have e := h.bit hb
 have hr := h.r
 have hq := h.q
 have hp : 2 ^ (i + 1) = 2 ^ i * 2 := Nat.pow_succ ..
 have hdm := Nat.div_add_mod (a / 2 ^ (i + 1)) b
 rw [← hr] at hdm
 obtain ⟨N, hN⟩ : ∃ N, a / 2 ^ (i + 1) = N := ⟨_, rfl⟩
 obtain ⟨M, hM⟩ : ∃ M, a / 2 ^ i = M := ⟨_, rfl⟩
 obtain ⟨k, hk⟩ : ∃ k, N / b = k := ⟨_, rfl⟩
 rw [hM] at hlt
 rw [hN, hM] at e
 rw [hN, hk] at hdm hq
 have h1 : M = b * (2 * k) + (2 * r + M % 2) := by
  rw [Nat.mul_left_comm]; omega
 obtain ⟨d1, d2⟩ := div_is hb h1 hlt
 refine ⟨h.len, h.low, by rw [hM, d2], ?_⟩
 rw [hM, d1, hq, hp, Nat.mul_comm (2 ^ i) 2, ← Nat.mul_assoc, Nat.mul_comm k 2]
theorem DivI.up_step {a b n : Nat} {Q : List Nat} {i r y : Nat} (h : DivI a b n Q (i + 1) r) (hb : 0 < b) (hge : b ≤ 2 * r + a / 2 ^ i % 2) (hy : Q[i / 16]? = some y) :
  y + 2 ^ (i % 16) < 65536 ∧ DivI a b n (Q.set (i / 16) (y + 2 ^ (i % 16))) i (2 * r + a / 2 ^ i % 2 - b) := by
 have e := h.bit hb
 have hr := h.r
 have hq := h.q
 have hp : 2 ^ (i + 1) = 2 ^ i * 2 := Nat.pow_succ ..
 have hrlt : r < b := by rw [hr]; exact Nat.mod_lt _ hb
 have hroom : y + 2 ^ (i % 16) < 65536 := by
  have h1 := digit_at h.low hy
  have h2 : val Q / 65536 ^ (i / 16) = a / 2 ^ (i + 1) / b * 2 ^ (i % 16 + 1) := by
   rw [hq, pow_bits]
   have : 2 ^ (i + 1) = 2 ^ (i % 16 + 1) * 2 ^ (16 * (i / 16)) := by
    rw [← Nat.pow_add]; congr 1; omega
   rw [this, ← Nat.mul_assoc, Nat.mul_div_cancel _ (Nat.two_pow_pos _)]
  rw [h1, h2]
  exact room_of (Nat.mod_lt _ (by omega))
 have hdm := Nat.div_add_mod (a / 2 ^ (i + 1)) b
 rw [← hr] at hdm
 obtain ⟨N, hN⟩ : ∃ N, a / 2 ^ (i + 1) = N := ⟨_, rfl⟩
 obtain ⟨M, hM⟩ : ∃ M, a / 2 ^ i = M := ⟨_, rfl⟩
 obtain ⟨k, hk⟩ : ∃ k, N / b = k := ⟨_, rfl⟩
 rw [hM] at hge
 rw [hN, hM] at e
 rw [hN, hk] at hdm hq
 have h1 : M = b * (2 * k + 1) + (2 * r + M % 2 - b) := by
  rw [Nat.mul_add, Nat.mul_left_comm]; omega
 obtain ⟨d1, d2⟩ := div_is hb h1 (by omega)
 refine ⟨hroom, ⟨by rw [List.length_set]; exact h.len, h.low.set hroom, by rw [hM, d2], ?_⟩⟩
 have hv := val_set Q (i / 16) (y + 2 ^ (i % 16)) y hy
 have hpow : 2 ^ (i % 16) * 65536 ^ (i / 16) = 2 ^ i := by
  rw [pow_bits, ← Nat.pow_add]; congr 1; omega
 rw [Nat.add_mul, hpow] at hv
 rw [hM, d1, Nat.add_mul, Nat.one_mul]
 have : 2 * k * 2 ^ i = k * 2 ^ (i + 1) := by
  rw [hp, Nat.mul_comm (2 ^ i) 2, ← Nat.mul_assoc, Nat.mul_comm k 2]
 omega
end Go.Ab
namespace Go.Ab
open Go.Proofs
def bt96 : Nat → List Nat
 | 10 => [0, 0, 2, 0, 0, 16, 56, 120, 0, 256, 768, 2040, 4095, 8191]
 | _ => []
noncomputable def divB : Code := Try.f96.body.getD .skip
noncomputable def divC : Code := loopOf divB
structure DF (ts : List Value) (v w u : Value) (bo n : Nat) (m : Int) : Prop where
 len : ts.length = 60
 t0 : lget ts 0 = v
 t1 : lget ts 1 = w
 t6 : lget ts 6 = .slice (some ⟨bo, 0, some 0⟩) n n
 t7 : lget ts 7 = u
 t8 : lget ts 8 = .int .i64 m
theorem NewBlk.ne {lo bo : Nat} {v : Value} (h : NewBlk lo v) (hl : bo < lo) : ∀ b o sp len cap, v = .slice (some ⟨b, o, sp⟩) len cap → b ≠ bo := fun b o sp len cap e => by
 have := h b o sp len cap e; omega
theorem BigS.set {σ : St} {v : Value} {D : List Nat} (h : BigS σ v D) {bo : Nat} (o : AObj) (hne : ∀ b o sp len cap, v = .slice (some ⟨b, o, sp⟩) len cap → b ≠ bo) : BigS (σ.set bo o) v D := by
 rcases h with h | ⟨b, sp, cap, G, ro, h1, h2, h3, h4, h5⟩
 ·exact .inl h
 ·exact .inr ⟨b, sp, cap, G, ro, h1, h2, h3, h4, by rw [St.get_set, if_neg (fun e => hne _ _ _ _ _ h1 e.symm)]; exact h5⟩
theorem MS.later {σ₀ σ σ' : St} {bo : Nat} {O : List Nat} (h : MS σ₀ σ bo O) (hn : σ.next ≤ σ'.next) (hk : ∀ b, b < σ.next → σ'.get b = σ.get b) : MS σ₀ σ' bo O :=
 ⟨h.lo, by have := h.nx; omega, (hk _ h.nx).trans h.get, fun c hc => (hk c (by have := h.nx; have := h.lo; omega)).trans (h.keep c hc)⟩
theorem same_of {f : FuncId} {args : List Value} {σ σ' : St} {e : AE} (h : DCall Try.prog f args σ e σ' []) : σ.next ≤ σ'.next ∧ ∀ b, b < σ.next → σ'.get b = σ.get b := ⟨h.1.1, fun b hb => h.1.2 b hb (by simp)⟩
def St.pad (σ : St) : St := { σ with next := σ.next + 1 }
theorem St.next_pad (σ : St) : σ.pad.next = σ.next + 1 := rfl
theorem DCall.pad {P : Program} {f : FuncId} {args : List Value} {σ σ' : St} {e : AE} {lg : Log} (h : DCall P f args σ e σ' lg) : DCall P f args σ e σ'.pad lg :=
  ⟨⟨Nat.le_succ_of_le h.1.1, h.1.2⟩, fun ρ w args' hw ha => (h.2 ρ w args' hw ha).mono fun e' w' ⟨ρ', he, hA⟩ => ⟨ρ', he,
    { ext := hA.ext
      wr := ⟨fun b l hl => ⟨Nat.lt_succ_of_lt (hA.wr.dom b l hl).1, (hA.wr.dom b l hl).2⟩, hA.wr.obj, hA.wr.inj, hA.wr.fixd⟩
      size := hA.size, fr := hA.fr, nxt := Nat.le_succ_of_le hA.nxt, kept := hA.kept, dead := hA.dead, fresh := hA.fresh, nofix := hA.nofix, tape := hA.tape, os := hA.os, out := hA.out }⟩⟩
theorem one_miss {orc : Orc} {f f' : FuncId} {args args' : List Value} {σ σ' : St} {r : AE × St × Log} (h : ¬ σ' = σ) : (orc.one f args σ r).call f' args' σ' = orc.call f' args' σ' := by simp [Orc.one, h]
theorem St.ne_of_next {σ σ' : St} (h : σ.next < σ'.next) : ¬ σ' = σ := fun e => by rw [e] at h; omega
theorem BigS.pad {σ : St} {v : Value} {D : List Nat} (h : BigS σ v D) : BigS σ.pad v D := h.keep (Nat.le_succ _) fun _ _ => rfl
theorem div_loop {a b : Nat} {v w : Value} {σ₀ : St} {bo : Nat} (bA : BigS σ₀ v (dig a)) (bB : BigS σ₀ w (dig b)) (hb : 0 < b) (sA : (dig a).length ≤ 20) (sB : (dig b).length ≤ 20) :
  ∀ (m : Nat) (Q : List Nat) (r : Nat) (u : Value) (σ : St) (ts : List Value), m ≤ 16 * (dig a).length → DivI a b (dig a).length Q m r → DF ts v w u bo (dig a).length ((m : Int) - 1) → MS σ₀ σ bo Q → BigS σ u (dig r) → NewBlk (bo + 1) u →
  ∃ σ' lg ts' Q' u', DL Try.prog false divC ⟨ts, []⟩ σ ⟨.exit 0, ⟨ts', []⟩, σ', lg⟩ ∧ DivI a b (dig a).length Q' 0 (a % b) ∧ (∃ m', DF ts' v w u' bo (dig a).length m') ∧ MS σ₀ σ' bo Q' ∧ BigS σ' u' (dig (a % b)) ∧ NewBlk (bo + 1) u' ∧ (∀ x ∈ lg, x = bo) := by
 intro m
 induction m with
 | zero =>
  intro Q r u σ ts hm I F S bu nu
  have q0 := F.t0
  have q1 := F.t1
  have q6 := F.t6
  have q7 := F.t7
  have q8 := F.t8
  have ql := F.len
  have c1 : ¬ (0 : Int) ≤ ((0 : Nat) : Int) - 1 := by omega
  have hr : r = a % b := by have := I.r; simpa using this
  subst hr
  obtain ⟨ts1, r1, F1⟩ : ∃ ts1, DC Try.prog false (nthC 0 divC) ⟨ts, []⟩ σ ⟨.exit 0, ⟨ts1, []⟩, σ, []⟩ ∧ DF ts1 v w u bo (dig a).length (((0 : Nat) : Int) - 1) := by
   refine ⟨_, runs Orc.none_ok 40 nobt (by kernel_rfl) (by simp only [nadd_le, nadd_lt, nle_add, nlt_add, nadd_eq, neq_add, Nat.add_le_add_iff_left, Nat.add_lt_add_iff_left, Nat.add_left_cancel_iff, Nat.add_assoc, Nat.testBit_eq_decide_div_mod_eq, Nat.reducePow, Nat.reduceDiv, Nat.reduceMod, runOps_nil, runOps_cons, runDrawn_nil, runDrawn_cons, run_loop_job, run_scope_job, run_skip, run_label, run_exit, run_goto, run_ret, run_seq, run_cond, run_block, run_loop, run_scope, run_region, pureK_some, pureO_call, callK_ret, callK_panic, opsK_val, opsK_new, opsK_eff, opsK_panic, opsK_enter, opsK_round, opsK_defer, wantK_true, wantK_false, consD_some, callD_ret, drawnK_val, drawnK_new, drawnK_eff, drawnK_enter, condK_true, condK_false, blockK_some, preO_some, thenR_norm, thenR_exit, thenR_goto, thenR_ret, thenR_panic, jumpK_some, jumpK_none, scopeK_goto, scopeK_norm, scopeK_exit, scopeK_ret, scopeK_panic, regO_some, regD_some, regionR_false, regionR_true, dynOk, loud, quietK, stepOp, stepBuiltin, start, Fr.put, putL, wantedA, yieldedA, lget?, ev, evs, evo, lget, plain, plainL, partsA, cx_und, cx_info, cx_flat, opBin, isShift, intOp, shiftOp, strOp, eqOp, opUn, opConvert, RR.pre, endsA, resA, resList, resOne, opPick, opExtract, opBuild, opBuildSlice, opBuild.lgetP, Nat.le_zero_eq, Nat.zero_le, opBox, opNilCheck, opField, opIndex, opCall, AX.inBlock, findLabel, isAggD, partA, placesA, fillA, opMakeFunc, opMakeIface, opPanic, opDefer, bnd, oneCells, vcells, over, opLoad, opStore, opAlloc, opFieldAddr, opIndexAddr, St.get_new, St.get_set, St.get_put, St.next_new, St.next_set, clash, SK.isFull, SK.lg, SK.rd, List.set_cons_succ, List.set_cons_zero, List.getElem?_cons_succ, List.getElem?_cons_zero, List.length_cons, List.length_nil, List.append_nil, List.nil_append, List.cons_append, List.replicate_succ, List.replicate_zero, List.drop_zero, List.drop_succ_cons, List.take_zero, List.take_succ_cons, List.take_nil, List.drop_nil, Option.map_some, Option.map_none, Bool.and_true, Bool.true_and, Bool.and_false, Bool.false_and, Bool.or_true, Bool.true_or, Bool.or_false, Bool.false_or, Bool.not_true, Bool.not_false, decide_true, decide_false, if_true, if_false, ite_true, ite_false, dite_true, dite_false, List.all_cons, List.all_nil, List.any_cons, List.any_nil, List.contains_cons, List.contains_nil, List.isEmpty_nil, List.isEmpty_cons, Nat.reduceAdd, Nat.reduceSub, Nat.reduceMul, Nat.reduceLeDiff, Nat.reduceLT, Nat.reduceEqDiff, Nat.zero_add, Nat.add_zero, beq_self_eq_true, Bool.true_beq, Bool.false_beq, bne_iff_ne, bne_self_eq_false, reduceCtorEq, List.getD_cons_succ, List.getD_cons_zero, List.getD_nil, and_true, true_and, and_self, not_true_eq_false, not_false_eq_true, eq_self, ne_eq, reduceIte, reduceDIte, Option.some.injEq, if_pos rfl, beq_iff_eq, Int.reduceLT, Int.reduceLE, Int.reduceEq, Int.reduceNeg, Int.reduceAdd, Int.reduceSub, Int.reduceMul, Nat.lt_irrefl, Nat.le_refl, Nat.succ_ne_self, List.size_toArray, Int.cast_ofNat_Int, Int.reduceToNat, Nat.zero_mul, Nat.one_mul, Nat.mul_one, nthC, divC, divB, loopOf, Option.getD, lget_put, lgetq_put, List.length_set, q8, ql, c1, Try.f96, Try.underlying3, info3, Try.t3, Try.underlying4, info4, Try.t4, Try.underlying112, info112, Try.t112, Try.underlying115, info115, Try.t115, Try.underlying154, info154, Try.t154] <;> rfl), ?_⟩
   constructor <;> simp only [lget_put, List.length_set, q0, q1, q6, q7, q8, ql, Nat.reduceEqDiff, Nat.reduceLT, if_true, if_false]
  have out : DC Try.prog false divC ⟨ts, []⟩ σ ⟨.exit 0, ⟨ts1, []⟩, σ, []⟩ := DC.seq_out r1 rfl
  exact ⟨σ, [], ts1, Q, u, DL.out out rfl, I, ⟨_, F1⟩, S, bu, nu, fun x hx => by simp at hx⟩
 | succ i ih =>
  intro Q r u σ ts hm I F S bu nu
  have q0 := F.t0
  have q1 := F.t1
  have q6 := F.t6
  have q7 := F.t7
  have q8 := F.t8
  have ql := F.len
  have e8 : ((i + 1 : Nat) : Int) - 1 = (i : Int) := by omega
  rw [e8] at q8
  have c1 : (0 : Int) ≤ (i : Int) := by omega
  obtain ⟨ts1, r1, l1, q0, q1, q6, q7, q8⟩ : ∃ ts1, DC Try.prog false (nthC 0 divC) ⟨ts, []⟩ σ ⟨.norm, ⟨ts1, []⟩, σ, []⟩ ∧ ts1.length = 60 ∧ lget ts1 0 = v ∧ lget ts1 1 = w ∧ lget ts1 6 = .slice (some ⟨bo, 0, some 0⟩) (dig a).length (dig a).length ∧ lget ts1 7 = u ∧ lget ts1 8 = .int .i64 (i : Int) := by
   refine ⟨_, runs Orc.none_ok 40 nobt (by kernel_rfl) (by simp only [nadd_le, nadd_lt, nle_add, nlt_add, nadd_eq, neq_add, Nat.add_le_add_iff_left, Nat.add_lt_add_iff_left, Nat.add_left_cancel_iff, Nat.add_assoc, Nat.testBit_eq_decide_div_mod_eq, Nat.reducePow, Nat.reduceDiv, Nat.reduceMod, runOps_nil, runOps_cons, runDrawn_nil, runDrawn_cons, run_loop_job, run_scope_job, run_skip, run_label, run_exit, run_goto, run_ret, run_seq, run_cond, run_block, run_loop, run_scope, run_region, pureK_some, pureO_call, callK_ret, callK_panic, opsK_val, opsK_new, opsK_eff, opsK_panic, opsK_enter, opsK_round, opsK_defer, wantK_true, wantK_false, consD_some, callD_ret, drawnK_val, drawnK_new, drawnK_eff, drawnK_enter, condK_true, condK_false, blockK_some, preO_some, thenR_norm, thenR_exit, thenR_goto, thenR_ret, thenR_panic, jumpK_some, jumpK_none, scopeK_goto, scopeK_norm, scopeK_exit, scopeK_ret, scopeK_panic, regO_some, regD_some, regionR_false, regionR_true, dynOk, loud, quietK, stepOp, stepBuiltin, start, Fr.put, putL, wantedA, yieldedA, lget?, ev, evs, evo, lget, plain, plainL, partsA, cx_und, cx_info, cx_flat, opBin, isShift, intOp, shiftOp, strOp, eqOp, opUn, opConvert, RR.pre, endsA, resA, resList, resOne, opPick, opExtract, opBuild, opBuildSlice, opBuild.lgetP, Nat.le_zero_eq, Nat.zero_le, opBox, opNilCheck, opField, opIndex, opCall, AX.inBlock, findLabel, isAggD, partA, placesA, fillA, opMakeFunc, opMakeIface, opPanic, opDefer, bnd, oneCells, vcells, over, opLoad, opStore, opAlloc, opFieldAddr, opIndexAddr, St.get_new, St.get_set, St.get_put, St.next_new, St.next_set, clash, SK.isFull, SK.lg, SK.rd, List.set_cons_succ, List.set_cons_zero, List.getElem?_cons_succ, List.getElem?_cons_zero, List.length_cons, List.length_nil, List.append_nil, List.nil_append, List.cons_append, List.replicate_succ, List.replicate_zero, List.drop_zero, List.drop_succ_cons, List.take_zero, List.take_succ_cons, List.take_nil, List.drop_nil, Option.map_some, Option.map_none, Bool.and_true, Bool.true_and, Bool.and_false, Bool.false_and, Bool.or_true, Bool.true_or, Bool.or_false, Bool.false_or, Bool.not_true, Bool.not_false, decide_true, decide_false, if_true, if_false, ite_true, ite_false, dite_true, dite_false, List.all_cons, List.all_nil, List.any_cons, List.any_nil, List.contains_cons, List.contains_nil, List.isEmpty_nil, List.isEmpty_cons, Nat.reduceAdd, Nat.reduceSub, Nat.reduceMul, Nat.reduceLeDiff, Nat.reduceLT, Nat.reduceEqDiff, Nat.zero_add, Nat.add_zero, beq_self_eq_true, Bool.true_beq, Bool.false_beq, bne_iff_ne, bne_self_eq_false, reduceCtorEq, List.getD_cons_succ, List.getD_cons_zero, List.getD_nil, and_true, true_and, and_self, not_true_eq_false, not_false_eq_true, eq_self, ne_eq, reduceIte, reduceDIte, Option.some.injEq, if_pos rfl, beq_iff_eq, Int.reduceLT, Int.reduceLE, Int.reduceEq, Int.reduceNeg, Int.reduceAdd, Int.reduceSub, Int.reduceMul, Nat.lt_irrefl, Nat.le_refl, Nat.succ_ne_self, List.size_toArray, Int.cast_ofNat_Int, Int.reduceToNat, Nat.zero_mul, Nat.one_mul, Nat.mul_one, nthC, divC, divB, loopOf, Option.getD, lget_put, lgetq_put, List.length_set, q8, ql, c1, Try.f96, Try.underlying3, info3, Try.t3, Try.underlying4, info4, Try.t4, Try.underlying112, info112, Try.t112, Try.underlying115, info115, Try.t115, Try.underlying154, info154, Try.t154] <;> rfl), ?_, ?_, ?_, ?_, ?_, ?_⟩ <;> simp only [lget_put, List.length_set, q0, q1, q6, q7, q8, ql, Nat.reduceEqDiff, Nat.reduceLT, if_true, if_false]
  have hj : i / 16 < (dig a).length := by omega
  obtain ⟨x, hx⟩ : ∃ x, (dig a)[i / 16]? = some x := ⟨_, List.getElem?_eq_getElem hj⟩
  have hbit := bit_at (dig_low a) hx
  rw [val_dig] at hbit
  have hx' := dig_low a x (List.mem_of_getElem? hx)
  obtain ⟨t, ht⟩ : ∃ t, a / 2 ^ i % 2 = t := ⟨_, rfl⟩
  have ht2 : t < 2 := by omega
  rw [ht] at hbit
  obtain ⟨j, hji⟩ : ∃ j, i / 16 = j := ⟨_, rfl⟩
  obtain ⟨s, hsi⟩ : ∃ s, i % 16 = s := ⟨_, rfl⟩
  rw [hji] at hx hj
  rw [hsi] at hbit
  have hs16 : s < 16 := by omega
  have ej : (i : Int).tdiv 16 = (j : Int) := by rw [Int.tdiv_eq_ediv_of_nonneg (by omega)]; omega
  have es : (i : Int).tmod 16 = (s : Int) := by rw [Int.tmod_eq_emod_of_nonneg (by omega)]; omega
  have wj : IntKind.i64.wrap (j : Int) = (j : Int) := by rw [IntKind.wrap_i64]; omega
  have ws : IntKind.i64.wrap (s : Int) = (s : Int) := by rw [IntKind.wrap_i64]; omega
  have cj : (0 : Int) ≤ (j : Int) ∧ (j : Int) < ((dig a).length : Int) := by omega
  have hn : ¬ (s : Int) < 0 := by omega
  have hmin : min s IntKind.u32.bits = s := by
   show min s 32 = s
   omega
  have hfd : (x : Int).fdiv (2 ^ s) = ((x / 2 ^ s : Nat) : Int) := by
   rw [Int.fdiv_eq_ediv_of_nonneg _ (Int.le_of_lt (Int.pow_pos (by omega)))]
   simp
  have hrem : ((x / 2 ^ s : Nat) : Int).tmod 2 = (t : Int) := by
   rw [Int.tmod_eq_emod_of_nonneg (Int.natCast_nonneg _), ← hbit]
   rfl
  obtain ⟨b1, sp1, cap1, vs1, ro1, rfl, hb1, hg1, he1⟩ := bA.at hx
  have g1 : σ.get b1 = some (.cells vs1 ro1) := (S.keep b1 hb1).trans hg1
  have w32 : IntKind.u32.wrap (t : Int) = (t : Int) := by rw [IntKind.wrap_u32]; omega
  obtain ⟨ts2, r2, l2, q0, q1, q6, q7, q8, q9⟩ : ∃ ts2, DC Try.prog false (nthC 0 (inBlk (nthC 1 divC))) ⟨ts1, []⟩ σ ⟨.norm, ⟨ts2, []⟩, σ, []⟩ ∧ ts2.length = 60 ∧ lget ts2 0 = .slice (some ⟨b1, 0, some sp1⟩) (dig a).length cap1 ∧ lget ts2 1 = w ∧ lget ts2 6 = .slice (some ⟨bo, 0, some 0⟩) (dig a).length (dig a).length ∧ lget ts2 7 = u ∧ lget ts2 8 = .int .i64 (i : Int) ∧ lget ts2 9 = .int .u32 (t : Int) := by
   refine ⟨_, runs Orc.none_ok 40 nobt (by kernel_rfl) (by simp only [nadd_le, nadd_lt, nle_add, nlt_add, nadd_eq, neq_add, Nat.add_le_add_iff_left, Nat.add_lt_add_iff_left, Nat.add_left_cancel_iff, Nat.add_assoc, Nat.testBit_eq_decide_div_mod_eq, Nat.reducePow, Nat.reduceDiv, Nat.reduceMod, runOps_nil, runOps_cons, runDrawn_nil, runDrawn_cons, run_loop_job, run_scope_job, run_skip, run_label, run_exit, run_goto, run_ret, run_seq, run_cond, run_block, run_loop, run_scope, run_region, pureK_some, pureO_call, callK_ret, callK_panic, opsK_val, opsK_new, opsK_eff, opsK_panic, opsK_enter, opsK_round, opsK_defer, wantK_true, wantK_false, consD_some, callD_ret, drawnK_val, drawnK_new, drawnK_eff, drawnK_enter, condK_true, condK_false, blockK_some, preO_some, thenR_norm, thenR_exit, thenR_goto, thenR_ret, thenR_panic, jumpK_some, jumpK_none, scopeK_goto, scopeK_norm, scopeK_exit, scopeK_ret, scopeK_panic, regO_some, regD_some, regionR_false, regionR_true, dynOk, loud, quietK, stepOp, stepBuiltin, start, Fr.put, putL, wantedA, yieldedA, lget?, ev, evs, evo, lget, plain, plainL, partsA, cx_und, cx_info, cx_flat, opBin, isShift, intOp, shiftOp, strOp, eqOp, opUn, opConvert, RR.pre, endsA, resA, resList, resOne, opPick, opExtract, opBuild, opBuildSlice, opBuild.lgetP, Nat.le_zero_eq, Nat.zero_le, opBox, opNilCheck, opField, opIndex, opCall, AX.inBlock, findLabel, isAggD, partA, placesA, fillA, opMakeFunc, opMakeIface, opPanic, opDefer, bnd, oneCells, vcells, over, opLoad, opStore, opAlloc, opFieldAddr, opIndexAddr, St.get_new, St.get_set, St.get_put, St.next_new, St.next_set, clash, SK.isFull, SK.lg, SK.rd, List.set_cons_succ, List.set_cons_zero, List.getElem?_cons_succ, List.getElem?_cons_zero, List.length_cons, List.length_nil, List.append_nil, List.nil_append, List.cons_append, List.replicate_succ, List.replicate_zero, List.drop_zero, List.drop_succ_cons, List.take_zero, List.take_succ_cons, List.take_nil, List.drop_nil, Option.map_some, Option.map_none, Bool.and_true, Bool.true_and, Bool.and_false, Bool.false_and, Bool.or_true, Bool.true_or, Bool.or_false, Bool.false_or, Bool.not_true, Bool.not_false, decide_true, decide_false, if_true, if_false, ite_true, ite_false, dite_true, dite_false, List.all_cons, List.all_nil, List.any_cons, List.any_nil, List.contains_cons, List.contains_nil, List.isEmpty_nil, List.isEmpty_cons, Nat.reduceAdd, Nat.reduceSub, Nat.reduceMul, Nat.reduceLeDiff, Nat.reduceLT, Nat.reduceEqDiff, Nat.zero_add, Nat.add_zero, beq_self_eq_true, Bool.true_beq, Bool.false_beq, bne_iff_ne, bne_self_eq_false, reduceCtorEq, List.getD_cons_succ, List.getD_cons_zero, List.getD_nil, and_true, true_and, and_self, not_true_eq_false, not_false_eq_true, eq_self, ne_eq, reduceIte, reduceDIte, Option.some.injEq, if_pos rfl, beq_iff_eq, Int.reduceLT, Int.reduceLE, Int.reduceEq, Int.reduceNeg, Int.reduceAdd, Int.reduceSub, Int.reduceMul, Nat.lt_irrefl, Nat.le_refl, Nat.succ_ne_self, List.size_toArray, Int.cast_ofNat_Int, Int.reduceToNat, Nat.zero_mul, Nat.one_mul, Nat.mul_one, nthC, inBlk, divC, divB, loopOf, Option.getD, lget_put, lgetq_put, List.length_set, q0, q8, l1, ej, es, wj, ws, cj, hn, hmin, hfd, hrem, g1, he1, Int.toNat_natCast, Try.f96, Try.underlying3, info3, Try.t3, Try.underlying4, info4, Try.t4, Try.underlying112, info112, Try.t112, Try.underlying115, info115, Try.t115, Try.underlying154, info154, Try.t154] <;> rfl), ?_, ?_, ?_, ?_, ?_, ?_, ?_⟩ <;> simp only [lget_put, List.length_set, q0, q1, q6, q7, q8, l1, Nat.reduceEqDiff, Nat.reduceLT, if_true, if_false]
  have hrlt : r < b := by rw [I.r]; exact Nat.mod_lt _ hb
  have sr : (dig r).length ≤ 20 := Nat.le_trans (dig_len_mono (Nat.le_of_lt hrlt)) sB
  obtain ⟨σa, ua, da, ba, na⟩ := add_call bu bu (dig_low r) (dig_low r) (by omega) (by omega)
  rw [val_dig] at ba
  have da' := da.pad
  have ka := same_of da'
  obtain ⟨σb, ub, db, bb, nb⟩ := of_call (n := t) (by omega) σa.pad
  have db' := db.pad
  have kb := same_of db'
  have s2r : (dig (r + r)).length ≤ 21 := by
   refine dig_length_le ?_
   have := val_lt (dig b) (dig_low b)
   rw [val_dig] at this
   have h2 : 65536 ^ (dig b).length ≤ 65536 ^ 20 := Nat.pow_le_pow_right (by omega) sB
   have h3 : (65536 : Nat) ^ 21 = 65536 ^ 20 * 65536 := Nat.pow_succ ..
   omega
  have st : (dig t).length ≤ 1 := dig_length_le (by omega)
  obtain ⟨σc, uc, dc, bc, nc⟩ := add_call (ba.pad.keep kb.1 kb.2) bb.pad (dig_low _) (dig_low _) (by omega) (by omega)
  rw [val_dig, val_dig] at bc
  have er : r + r + t = 2 * r + t := by omega
  rw [er] at bc
  have kc := same_of dc
  have nba : ¬ σa.pad = σ := St.ne_of_next (by rw [St.next_pad]; have := same_of da; omega)
  have nbb : ¬ σb.pad = σ := St.ne_of_next (by have := kb.1; rw [St.next_pad] at this ⊢; have := same_of da; have := same_of db; rw [St.next_pad] at this; omega)
  have wt : IntKind.u64.wrap (t : Int) = (t : Int) := by rw [IntKind.wrap_u64]; omega
  obtain ⟨ts3, r3, l3, q0, q1, q6, q7, q8⟩ : ∃ ts3, DC Try.prog false (nthC 1 (inBlk (nthC 1 divC))) ⟨ts2, []⟩ σ ⟨.norm, ⟨ts3, []⟩, σc, []⟩ ∧ ts3.length = 60 ∧ lget ts3 0 = .slice (some ⟨b1, 0, some sp1⟩) (dig a).length cap1 ∧ lget ts3 1 = w ∧ lget ts3 6 = .slice (some ⟨bo, 0, some 0⟩) (dig a).length (dig a).length ∧ lget ts3 7 = uc ∧ lget ts3 8 = .int .i64 (i : Int) := by
   refine ⟨_, runs (one_ok' (one_ok' (one_ok' Orc.none_ok dc) db') da') 40 nobt (by kernel_rfl) (by simp only [nadd_le, nadd_lt, nle_add, nlt_add, nadd_eq, neq_add, Nat.add_le_add_iff_left, Nat.add_lt_add_iff_left, Nat.add_left_cancel_iff, Nat.add_assoc, Nat.testBit_eq_decide_div_mod_eq, Nat.reducePow, Nat.reduceDiv, Nat.reduceMod, runOps_nil, runOps_cons, runDrawn_nil, runDrawn_cons, run_loop_job, run_scope_job, run_skip, run_label, run_exit, run_goto, run_ret, run_seq, run_cond, run_block, run_loop, run_scope, run_region, pureK_some, pureO_call, callK_ret, callK_panic, opsK_val, opsK_new, opsK_eff, opsK_panic, opsK_enter, opsK_round, opsK_defer, wantK_true, wantK_false, consD_some, callD_ret, drawnK_val, drawnK_new, drawnK_eff, drawnK_enter, condK_true, condK_false, blockK_some, preO_some, thenR_norm, thenR_exit, thenR_goto, thenR_ret, thenR_panic, jumpK_some, jumpK_none, scopeK_goto, scopeK_norm, scopeK_exit, scopeK_ret, scopeK_panic, regO_some, regD_some, regionR_false, regionR_true, dynOk, loud, quietK, stepOp, stepBuiltin, start, Fr.put, putL, wantedA, yieldedA, lget?, ev, evs, evo, lget, plain, plainL, partsA, cx_und, cx_info, cx_flat, opBin, isShift, intOp, shiftOp, strOp, eqOp, opUn, opConvert, RR.pre, endsA, resA, resList, resOne, opPick, opExtract, opBuild, opBuildSlice, opBuild.lgetP, Nat.le_zero_eq, Nat.zero_le, opBox, opNilCheck, opField, opIndex, opCall, AX.inBlock, findLabel, isAggD, partA, placesA, fillA, opMakeFunc, opMakeIface, opPanic, opDefer, bnd, oneCells, vcells, over, opLoad, opStore, opAlloc, opFieldAddr, opIndexAddr, St.get_new, St.get_set, St.get_put, St.next_new, St.next_set, clash, SK.isFull, SK.lg, SK.rd, List.set_cons_succ, List.set_cons_zero, List.getElem?_cons_succ, List.getElem?_cons_zero, List.length_cons, List.length_nil, List.append_nil, List.nil_append, List.cons_append, List.replicate_succ, List.replicate_zero, List.drop_zero, List.drop_succ_cons, List.take_zero, List.take_succ_cons, List.take_nil, List.drop_nil, Option.map_some, Option.map_none, Bool.and_true, Bool.true_and, Bool.and_false, Bool.false_and, Bool.or_true, Bool.true_or, Bool.or_false, Bool.false_or, Bool.not_true, Bool.not_false, decide_true, decide_false, if_true, if_false, ite_true, ite_false, dite_true, dite_false, List.all_cons, List.all_nil, List.any_cons, List.any_nil, List.contains_cons, List.contains_nil, List.isEmpty_nil, List.isEmpty_cons, Nat.reduceAdd, Nat.reduceSub, Nat.reduceMul, Nat.reduceLeDiff, Nat.reduceLT, Nat.reduceEqDiff, Nat.zero_add, Nat.add_zero, beq_self_eq_true, Bool.true_beq, Bool.false_beq, bne_iff_ne, bne_self_eq_false, reduceCtorEq, List.getD_cons_succ, List.getD_cons_zero, List.getD_nil, and_true, true_and, and_self, not_true_eq_false, not_false_eq_true, eq_self, ne_eq, reduceIte, reduceDIte, Option.some.injEq, if_pos rfl, beq_iff_eq, Int.reduceLT, Int.reduceLE, Int.reduceEq, Int.reduceNeg, Int.reduceAdd, Int.reduceSub, Int.reduceMul, Nat.lt_irrefl, Nat.le_refl, Nat.succ_ne_self, List.size_toArray, Int.cast_ofNat_Int, Int.reduceToNat, Nat.zero_mul, Nat.one_mul, Nat.mul_one, nthC, inBlk, divC, divB, loopOf, Option.getD, Orc.one_call, one_miss nba, one_miss nbb, one_other, lget_put, lgetq_put, List.length_set, q7, q9, l2, wt, Try.f96, Try.underlying3, info3, Try.t3, Try.underlying4, info4, Try.t4, Try.underlying112, info112, Try.t112, Try.underlying115, info115, Try.t115, Try.underlying154, info154, Try.t154, body55, body128] <;> rfl), ?_, ?_, ?_, ?_, ?_, ?_⟩ <;> simp only [lget_put, List.length_set, q0, q1, q6, q7, q8, l2, Nat.reduceEqDiff, Nat.reduceLT, if_true, if_false]
  have keep3 : σ.next ≤ σc.next ∧ ∀ c, c < σ.next → σc.get c = σ.get c := by
   have h1 := ka.1; have h2 := kb.1; have h3 := kc.1
   exact ⟨by omega, fun c hc => (kc.2 c (by omega)).trans ((kb.2 c (by omega)).trans (ka.2 c hc))⟩
  have S3 := S.later keep3.1 keep3.2
  have B3 : BigS σc w (dig b) := bB.keep (by have := S.lo; have := S.nx; omega) S3.keep
  have nuc : NewBlk (bo + 1) uc := fun b o sp len cap e => by
   have := nc b o sp len cap e
   have h1 := ka.1; have h2 := kb.1; have := S.nx; omega
  have dl := less_call' bc B3 (by
   have h1 : 2 * r + t < 65536 ^ 21 := by
    have := val_lt (dig b) (dig_low b)
    rw [val_dig] at this
    have h2 : 65536 ^ (dig b).length ≤ 65536 ^ 20 := Nat.pow_le_pow_right (by omega) sB
    have h3 : (65536 : Nat) ^ 21 = 65536 ^ 20 * 65536 := Nat.pow_succ ..
    omega
   have := dig_length_le h1
   omega) (by omega)
  have w8 : IntKind.i64.wrap ((i : Int) - 1) = (i : Int) - 1 := by rw [IntKind.wrap_i64]; omega
  have fin : ∀ (σ5 : St) (lg5 : Log) (ts5 : List Value) (Q5 : List Nat) (u5 : Value) (r5v : Nat), DC Try.prog false (inBlk (nthC 1 divC)) ⟨ts1, []⟩ σ ⟨.norm, ⟨ts5, []⟩, σ5, lg5⟩ → ts5.length = 60 → lget ts5 0 = .slice (some ⟨b1, 0, some sp1⟩) (dig a).length cap1 → lget ts5 1 = w → lget ts5 6 = .slice (some ⟨bo, 0, some 0⟩) (dig a).length (dig a).length → lget ts5 7 = u5 → lget ts5 8 = .int .i64 (i : Int) →
    DivI a b (dig a).length Q5 i r5v → MS σ₀ σ5 bo Q5 → BigS σ5 u5 (dig r5v) → NewBlk (bo + 1) u5 → (∀ x ∈ lg5, x = bo) →
    ∃ σ' lg ts' Q' u', DL Try.prog false divC ⟨ts, []⟩ σ ⟨.exit 0, ⟨ts', []⟩, σ', lg⟩ ∧ DivI a b (dig a).length Q' 0 (a % b) ∧ (∃ m', DF ts' (.slice (some ⟨b1, 0, some sp1⟩) (dig a).length cap1) w u' bo (dig a).length m') ∧ MS σ₀ σ' bo Q' ∧ BigS σ' u' (dig (a % b)) ∧ NewBlk (bo + 1) u' ∧ (∀ x ∈ lg, x = bo) := by
   intro σ5 lg5 ts5 Q5 u5 r5v d5 l5 p0 p1 p6 p7 p8 I5 S5 B5 N5 f5
   obtain ⟨ts6, r6, F6⟩ : ∃ ts6, DC Try.prog false (nthC 2 divC) ⟨ts5, []⟩ σ5 ⟨.norm, ⟨ts6, []⟩, σ5, []⟩ ∧ DF ts6 (.slice (some ⟨b1, 0, some sp1⟩) (dig a).length cap1) w u5 bo (dig a).length ((i : Int) - 1) := by
    refine ⟨_, runs Orc.none_ok 40 nobt (by kernel_rfl) (by simp only [nadd_le, nadd_lt, nle_add, nlt_add, nadd_eq, neq_add, Nat.add_le_add_iff_left, Nat.add_lt_add_iff_left, Nat.add_left_cancel_iff, Nat.add_assoc, Nat.testBit_eq_decide_div_mod_eq, Nat.reducePow, Nat.reduceDiv, Nat.reduceMod, runOps_nil, runOps_cons, runDrawn_nil, runDrawn_cons, run_loop_job, run_scope_job, run_skip, run_label, run_exit, run_goto, run_ret, run_seq, run_cond, run_block, run_loop, run_scope, run_region, pureK_some, pureO_call, callK_ret, callK_panic, opsK_val, opsK_new, opsK_eff, opsK_panic, opsK_enter, opsK_round, opsK_defer, wantK_true, wantK_false, consD_some, callD_ret, drawnK_val, drawnK_new, drawnK_eff, drawnK_enter, condK_true, condK_false, blockK_some, preO_some, thenR_norm, thenR_exit, thenR_goto, thenR_ret, thenR_panic, jumpK_some, jumpK_none, scopeK_goto, scopeK_norm, scopeK_exit, scopeK_ret, scopeK_panic, regO_some, regD_some, regionR_false, regionR_true, dynOk, loud, quietK, stepOp, stepBuiltin, start, Fr.put, putL, wantedA, yieldedA, lget?, ev, evs, evo, lget, plain, plainL, partsA, cx_und, cx_info, cx_flat, opBin, isShift, intOp, shiftOp, strOp, eqOp, opUn, opConvert, RR.pre, endsA, resA, resList, resOne, opPick, opExtract, opBuild, opBuildSlice, opBuild.lgetP, Nat.le_zero_eq, Nat.zero_le, opBox, opNilCheck, opField, opIndex, opCall, AX.inBlock, findLabel, isAggD, partA, placesA, fillA, opMakeFunc, opMakeIface, opPanic, opDefer, bnd, oneCells, vcells, over, opLoad, opStore, opAlloc, opFieldAddr, opIndexAddr, St.get_new, St.get_set, St.get_put, St.next_new, St.next_set, clash, SK.isFull, SK.lg, SK.rd, List.set_cons_succ, List.set_cons_zero, List.getElem?_cons_succ, List.getElem?_cons_zero, List.length_cons, List.length_nil, List.append_nil, List.nil_append, List.cons_append, List.replicate_succ, List.replicate_zero, List.drop_zero, List.drop_succ_cons, List.take_zero, List.take_succ_cons, List.take_nil, List.drop_nil, Option.map_some, Option.map_none, Bool.and_true, Bool.true_and, Bool.and_false, Bool.false_and, Bool.or_true, Bool.true_or, Bool.or_false, Bool.false_or, Bool.not_true, Bool.not_false, decide_true, decide_false, if_true, if_false, ite_true, ite_false, dite_true, dite_false, List.all_cons, List.all_nil, List.any_cons, List.any_nil, List.contains_cons, List.contains_nil, List.isEmpty_nil, List.isEmpty_cons, Nat.reduceAdd, Nat.reduceSub, Nat.reduceMul, Nat.reduceLeDiff, Nat.reduceLT, Nat.reduceEqDiff, Nat.zero_add, Nat.add_zero, beq_self_eq_true, Bool.true_beq, Bool.false_beq, bne_iff_ne, bne_self_eq_false, reduceCtorEq, List.getD_cons_succ, List.getD_cons_zero, List.getD_nil, and_true, true_and, and_self, not_true_eq_false, not_false_eq_true, eq_self, ne_eq, reduceIte, reduceDIte, Option.some.injEq, if_pos rfl, beq_iff_eq, Int.reduceLT, Int.reduceLE, Int.reduceEq, Int.reduceNeg, Int.reduceAdd, Int.reduceSub, Int.reduceMul, Nat.lt_irrefl, Nat.le_refl, Nat.succ_ne_self, List.size_toArray, Int.cast_ofNat_Int, Int.reduceToNat, Nat.zero_mul, Nat.one_mul, Nat.mul_one, nthC, divC, divB, loopOf, Option.getD, lget_put, lgetq_put, List.length_set, p8, l5, w8, Try.f96, Try.underlying3, info3, Try.t3, Try.underlying4, info4, Try.t4, Try.underlying112, info112, Try.t112, Try.underlying115, info115, Try.t115, Try.underlying154, info154, Try.t154] <;> rfl), ?_⟩
    constructor <;> simp only [lget_put, List.length_set, p0, p1, p6, p7, l5, Nat.reduceEqDiff, Nat.reduceLT, if_true, if_false]
   have round : DC Try.prog false divC ⟨ts, []⟩ σ ⟨.norm, ⟨ts6, []⟩, σ5, lg5 ++ []⟩ := DC.seq r1 rfl (DC.seq (DC.block d5) rfl r6)
   obtain ⟨σ', lg, ts', Q', u', a1, a2, a3, a4, a5, a6, a7⟩ := ih Q5 r5v u5 σ5 ts6 (by omega) I5 F6 S5 B5 N5
   refine ⟨σ', _, ts', Q', u', DL.next round rfl a1, a2, a3, a4, a5, a6, fun x hx => ?_⟩
   rw [List.append_nil] at hx
   rcases List.mem_append.1 hx with h | h
   ·exact f5 x h
   ·exact a7 x h
  by_cases hlt : 2 * r + t < b
  ·have hdec : decide (2 * r + t < b) = true := by simp [hlt]
   rw [hdec] at dl
   obtain ⟨ts4, r4, l4, p0, p1, p6, p7, p8, p40⟩ : ∃ ts4, DC Try.prog false (nthC 2 (inBlk (nthC 1 divC))) ⟨ts3, []⟩ σc ⟨.norm, ⟨ts4, []⟩, σc, []⟩ ∧ ts4.length = 60 ∧ lget ts4 0 = .slice (some ⟨b1, 0, some sp1⟩) (dig a).length cap1 ∧ lget ts4 1 = w ∧ lget ts4 6 = .slice (some ⟨bo, 0, some 0⟩) (dig a).length (dig a).length ∧ lget ts4 7 = uc ∧ lget ts4 8 = .int .i64 (i : Int) ∧ lget ts4 40 = .bool false := by
    refine ⟨_, runs (one_ok' Orc.none_ok dl) 40 nobt (by kernel_rfl) (by simp only [nadd_le, nadd_lt, nle_add, nlt_add, nadd_eq, neq_add, Nat.add_le_add_iff_left, Nat.add_lt_add_iff_left, Nat.add_left_cancel_iff, Nat.add_assoc, Nat.testBit_eq_decide_div_mod_eq, Nat.reducePow, Nat.reduceDiv, Nat.reduceMod, runOps_nil, runOps_cons, runDrawn_nil, runDrawn_cons, run_loop_job, run_scope_job, run_skip, run_label, run_exit, run_goto, run_ret, run_seq, run_cond, run_block, run_loop, run_scope, run_region, pureK_some, pureO_call, callK_ret, callK_panic, opsK_val, opsK_new, opsK_eff, opsK_panic, opsK_enter, opsK_round, opsK_defer, wantK_true, wantK_false, consD_some, callD_ret, drawnK_val, drawnK_new, drawnK_eff, drawnK_enter, condK_true, condK_false, blockK_some, preO_some, thenR_norm, thenR_exit, thenR_goto, thenR_ret, thenR_panic, jumpK_some, jumpK_none, scopeK_goto, scopeK_norm, scopeK_exit, scopeK_ret, scopeK_panic, regO_some, regD_some, regionR_false, regionR_true, dynOk, loud, quietK, stepOp, stepBuiltin, start, Fr.put, putL, wantedA, yieldedA, lget?, ev, evs, evo, lget, plain, plainL, partsA, cx_und, cx_info, cx_flat, opBin, isShift, intOp, shiftOp, strOp, eqOp, opUn, opConvert, RR.pre, endsA, resA, resList, resOne, opPick, opExtract, opBuild, opBuildSlice, opBuild.lgetP, Nat.le_zero_eq, Nat.zero_le, opBox, opNilCheck, opField, opIndex, opCall, AX.inBlock, findLabel, isAggD, partA, placesA, fillA, opMakeFunc, opMakeIface, opPanic, opDefer, bnd, oneCells, vcells, over, opLoad, opStore, opAlloc, opFieldAddr, opIndexAddr, St.get_new, St.get_set, St.get_put, St.next_new, St.next_set, clash, SK.isFull, SK.lg, SK.rd, List.set_cons_succ, List.set_cons_zero, List.getElem?_cons_succ, List.getElem?_cons_zero, List.length_cons, List.length_nil, List.append_nil, List.nil_append, List.cons_append, List.replicate_succ, List.replicate_zero, List.drop_zero, List.drop_succ_cons, List.take_zero, List.take_succ_cons, List.take_nil, List.drop_nil, Option.map_some, Option.map_none, Bool.and_true, Bool.true_and, Bool.and_false, Bool.false_and, Bool.or_true, Bool.true_or, Bool.or_false, Bool.false_or, Bool.not_true, Bool.not_false, decide_true, decide_false, if_true, if_false, ite_true, ite_false, dite_true, dite_false, List.all_cons, List.all_nil, List.any_cons, List.any_nil, List.contains_cons, List.contains_nil, List.isEmpty_nil, List.isEmpty_cons, Nat.reduceAdd, Nat.reduceSub, Nat.reduceMul, Nat.reduceLeDiff, Nat.reduceLT, Nat.reduceEqDiff, Nat.zero_add, Nat.add_zero, beq_self_eq_true, Bool.true_beq, Bool.false_beq, bne_iff_ne, bne_self_eq_false, reduceCtorEq, List.getD_cons_succ, List.getD_cons_zero, List.getD_nil, and_true, true_and, and_self, not_true_eq_false, not_false_eq_true, eq_self, ne_eq, reduceIte, reduceDIte, Option.some.injEq, if_pos rfl, beq_iff_eq, Int.reduceLT, Int.reduceLE, Int.reduceEq, Int.reduceNeg, Int.reduceAdd, Int.reduceSub, Int.reduceMul, Nat.lt_irrefl, Nat.le_refl, Nat.succ_ne_self, List.size_toArray, Int.cast_ofNat_Int, Int.reduceToNat, Nat.zero_mul, Nat.one_mul, Nat.mul_one, nthC, inBlk, divC, divB, loopOf, Option.getD, Orc.one_call, lget_put, lgetq_put, List.length_set, q1, q7, l3, Try.f96, Try.underlying3, info3, Try.t3, Try.underlying4, info4, Try.t4, Try.underlying112, info112, Try.t112, Try.underlying115, info115, Try.t115, Try.underlying154, info154, Try.t154, body57] <;> rfl), ?_, ?_, ?_, ?_, ?_, ?_, ?_⟩ <;> simp only [lget_put, List.length_set, q0, q1, q6, q7, q8, l3, Nat.reduceEqDiff, Nat.reduceLT, if_true, if_false]
   have dcond : DC Try.prog false (nthC 3 (inBlk (nthC 1 divC))) ⟨ts4, []⟩ σc ⟨.norm, ⟨ts4, []⟩, σc, []⟩ := DC.cond (t := false) (by show some (lget ts4 40) = _; rw [p40]) (DC.skip _ _ _)
   have blk : DC Try.prog false (inBlk (nthC 1 divC)) ⟨ts1, []⟩ σ ⟨.norm, ⟨ts4, []⟩, σc, []⟩ := DC.seq r2 rfl (DC.seq r3 rfl (DC.seq r4 rfl dcond))
   rw [← ht] at hlt bc
   exact fin σc [] ts4 Q uc _ blk l4 p0 p1 p6 p7 p8 (I.low_step hb hlt) S3 bc nuc (fun x hx => by simp at hx)
  ·have hdec : decide (2 * r + t < b) = false := by simp [hlt]
   rw [hdec] at dl
   obtain ⟨ts4, r4, l4, p0, p1, p6, p7, p8, p40⟩ : ∃ ts4, DC Try.prog false (nthC 2 (inBlk (nthC 1 divC))) ⟨ts3, []⟩ σc ⟨.norm, ⟨ts4, []⟩, σc, []⟩ ∧ ts4.length = 60 ∧ lget ts4 0 = .slice (some ⟨b1, 0, some sp1⟩) (dig a).length cap1 ∧ lget ts4 1 = w ∧ lget ts4 6 = .slice (some ⟨bo, 0, some 0⟩) (dig a).length (dig a).length ∧ lget ts4 7 = uc ∧ lget ts4 8 = .int .i64 (i : Int) ∧ lget ts4 40 = .bool true := by
    refine ⟨_, runs (one_ok' Orc.none_ok dl) 40 nobt (by kernel_rfl) (by simp only [nadd_le, nadd_lt, nle_add, nlt_add, nadd_eq, neq_add, Nat.add_le_add_iff_left, Nat.add_lt_add_iff_left, Nat.add_left_cancel_iff, Nat.add_assoc, Nat.testBit_eq_decide_div_mod_eq, Nat.reducePow, Nat.reduceDiv, Nat.reduceMod, runOps_nil, runOps_cons, runDrawn_nil, runDrawn_cons, run_loop_job, run_scope_job, run_skip, run_label, run_exit, run_goto, run_ret, run_seq, run_cond, run_block, run_loop, run_scope, run_region, pureK_some, pureO_call, callK_ret, callK_panic, opsK_val, opsK_new, opsK_eff, opsK_panic, opsK_enter, opsK_round, opsK_defer, wantK_true, wantK_false, consD_some, callD_ret, drawnK_val, drawnK_new, drawnK_eff, drawnK_enter, condK_true, condK_false, blockK_some, preO_some, thenR_norm, thenR_exit, thenR_goto, thenR_ret, thenR_panic, jumpK_some, jumpK_none, scopeK_goto, scopeK_norm, scopeK_exit, scopeK_ret, scopeK_panic, regO_some, regD_some, regionR_false, regionR_true, dynOk, loud, quietK, stepOp, stepBuiltin, start, Fr.put, putL, wantedA, yieldedA, lget?, ev, evs, evo, lget, plain, plainL, partsA, cx_und, cx_info, cx_flat, opBin, isShift, intOp, shiftOp, strOp, eqOp, opUn, opConvert, RR.pre, endsA, resA, resList, resOne, opPick, opExtract, opBuild, opBuildSlice, opBuild.lgetP, Nat.le_zero_eq, Nat.zero_le, opBox, opNilCheck, opField, opIndex, opCall, AX.inBlock, findLabel, isAggD, partA, placesA, fillA, opMakeFunc, opMakeIface, opPanic, opDefer, bnd, oneCells, vcells, over, opLoad, opStore, opAlloc, opFieldAddr, opIndexAddr, St.get_new, St.get_set, St.get_put, St.next_new, St.next_set, clash, SK.isFull, SK.lg, SK.rd, List.set_cons_succ, List.set_cons_zero, List.getElem?_cons_succ, List.getElem?_cons_zero, List.length_cons, List.length_nil, List.append_nil, List.nil_append, List.cons_append, List.replicate_succ, List.replicate_zero, List.drop_zero, List.drop_succ_cons, List.take_zero, List.take_succ_cons, List.take_nil, List.drop_nil, Option.map_some, Option.map_none, Bool.and_true, Bool.true_and, Bool.and_false, Bool.false_and, Bool.or_true, Bool.true_or, Bool.or_false, Bool.false_or, Bool.not_true, Bool.not_false, decide_true, decide_false, if_true, if_false, ite_true, ite_false, dite_true, dite_false, List.all_cons, List.all_nil, List.any_cons, List.any_nil, List.contains_cons, List.contains_nil, List.isEmpty_nil, List.isEmpty_cons, Nat.reduceAdd, Nat.reduceSub, Nat.reduceMul, Nat.reduceLeDiff, Nat.reduceLT, Nat.reduceEqDiff, Nat.zero_add, Nat.add_zero, beq_self_eq_true, Bool.true_beq, Bool.false_beq, bne_iff_ne, bne_self_eq_false, reduceCtorEq, List.getD_cons_succ, List.getD_cons_zero, List.getD_nil, and_true, true_and, and_self, not_true_eq_false, not_false_eq_true, eq_self, ne_eq, reduceIte, reduceDIte, Option.some.injEq, if_pos rfl, beq_iff_eq, Int.reduceLT, Int.reduceLE, Int.reduceEq, Int.reduceNeg, Int.reduceAdd, Int.reduceSub, Int.reduceMul, Nat.lt_irrefl, Nat.le_refl, Nat.succ_ne_self, List.size_toArray, Int.cast_ofNat_Int, Int.reduceToNat, Nat.zero_mul, Nat.one_mul, Nat.mul_one, nthC, inBlk, divC, divB, loopOf, Option.getD, Orc.one_call, lget_put, lgetq_put, List.length_set, q1, q7, l3, Try.f96, Try.underlying3, info3, Try.t3, Try.underlying4, info4, Try.t4, Try.underlying112, info112, Try.t112, Try.underlying115, info115, Try.t115, Try.underlying154, info154, Try.t154, body57] <;> rfl), ?_, ?_, ?_, ?_, ?_, ?_, ?_⟩ <;> simp only [lget_put, List.length_set, q0, q1, q6, q7, q8, l3, Nat.reduceEqDiff, Nat.reduceLT, if_true, if_false]
   obtain ⟨σd, ud, dd, bd, nd⟩ := sub_call bc B3 (by omega) (by
    have h1 : 2 * r + t < 65536 ^ 21 := by
     have := val_lt (dig b) (dig_low b)
     rw [val_dig] at this
     have h2 : 65536 ^ (dig b).length ≤ 65536 ^ 20 := Nat.pow_le_pow_right (by omega) sB
     have h3 : (65536 : Nat) ^ 21 = 65536 ^ 20 * 65536 := Nat.pow_succ ..
     omega
    have := dig_length_le h1
    omega)
   have kd := same_of dd
   have S4 := S3.later kd.1 kd.2
   obtain ⟨y, hy⟩ : ∃ y, Q[j]? = some y := ⟨_, List.getElem?_eq_getElem (by rw [I.len]; exact hj)⟩
   obtain ⟨hroom, I5⟩ := I.up_step hb (by rw [ht]; omega) (by rw [hji]; exact hy)
   rw [hji, hsi] at I5
   rw [hsi] at hroom
   rw [ht] at I5
   obtain ⟨z, hz⟩ : ∃ z, y + 2 ^ s = z := ⟨_, rfl⟩
   rw [hz] at hroom I5
   have gQ := S4.get
   have eQ := dcells_at hy
   have lQ : j + 1 ≤ (dcells Q).length := by rw [dcells_length, I.len]; omega
   have ov := over_digit Q j z (by rw [I.len]; omega)
   have hp2 : 2 ^ s < 65536 := by omega
   have ws1 : IntKind.u32.wrap (1 * 2 ^ s) = ((2 ^ s : Nat) : Int) := by
    rw [IntKind.wrap_u32]
    have : (1 * 2 ^ s : Int) = ((2 ^ s : Nat) : Int) := by simp
    rw [this]
    generalize 2 ^ s = p at hp2
    omega
   have wz : IntKind.u32.wrap ((y : Int) + ((2 ^ s : Nat) : Int)) = (z : Int) := by
    rw [IntKind.wrap_u32]
    generalize 2 ^ s = p at hz
    omega
   have ny : ¬ σd.next ≤ bo := by have := S4.nx; omega
   let σ5 := σd.set bo (.cells (dcells (Q.set j z)) false)
   obtain ⟨ts5, r5, l5, p0, p1, p6, p7, p8⟩ : ∃ ts5, DC Try.prog false (nthC 3 (inBlk (nthC 1 divC))) ⟨ts4, []⟩ σc ⟨.norm, ⟨ts5, []⟩, σ5, [bo]⟩ ∧ ts5.length = 60 ∧ lget ts5 0 = .slice (some ⟨b1, 0, some sp1⟩) (dig a).length cap1 ∧ lget ts5 1 = w ∧ lget ts5 6 = .slice (some ⟨bo, 0, some 0⟩) (dig a).length (dig a).length ∧ lget ts5 7 = ud ∧ lget ts5 8 = .int .i64 (i : Int) := by
    refine ⟨_, runs (one_ok' Orc.none_ok dd) 40 bt96 (by kernel_rfl) (by simp only [nadd_le, nadd_lt, nle_add, nlt_add, nadd_eq, neq_add, Nat.add_le_add_iff_left, Nat.add_lt_add_iff_left, Nat.add_left_cancel_iff, Nat.add_assoc, Nat.testBit_eq_decide_div_mod_eq, Nat.reducePow, Nat.reduceDiv, Nat.reduceMod, runOps_nil, runOps_cons, runDrawn_nil, runDrawn_cons, run_loop_job, run_scope_job, run_skip, run_label, run_exit, run_goto, run_ret, run_seq, run_cond, run_block, run_loop, run_scope, run_region, pureK_some, pureO_call, callK_ret, callK_panic, opsK_val, opsK_new, opsK_eff, opsK_panic, opsK_enter, opsK_round, opsK_defer, wantK_true, wantK_false, consD_some, callD_ret, drawnK_val, drawnK_new, drawnK_eff, drawnK_enter, condK_true, condK_false, blockK_some, preO_some, thenR_norm, thenR_exit, thenR_goto, thenR_ret, thenR_panic, jumpK_some, jumpK_none, scopeK_goto, scopeK_norm, scopeK_exit, scopeK_ret, scopeK_panic, regO_some, regD_some, regionR_false, regionR_true, dynOk, loud, quietK, stepOp, stepBuiltin, start, Fr.put, putL, wantedA, yieldedA, lget?, ev, evs, evo, lget, plain, plainL, partsA, cx_und, cx_info, cx_flat, opBin, isShift, intOp, shiftOp, strOp, eqOp, opUn, opConvert, RR.pre, endsA, resA, resList, resOne, opPick, opExtract, opBuild, opBuildSlice, opBuild.lgetP, Nat.le_zero_eq, Nat.zero_le, opBox, opNilCheck, opField, opIndex, opCall, AX.inBlock, findLabel, isAggD, partA, placesA, fillA, opMakeFunc, opMakeIface, opPanic, opDefer, bnd, oneCells, vcells, over, opLoad, opStore, opAlloc, opFieldAddr, opIndexAddr, St.get_new, St.get_set, St.get_put, St.next_new, St.next_set, clash, SK.isFull, SK.lg, SK.rd, List.set_cons_succ, List.set_cons_zero, List.getElem?_cons_succ, List.getElem?_cons_zero, List.length_cons, List.length_nil, List.append_nil, List.nil_append, List.cons_append, List.replicate_succ, List.replicate_zero, List.drop_zero, List.drop_succ_cons, List.take_zero, List.take_succ_cons, List.take_nil, List.drop_nil, Option.map_some, Option.map_none, Bool.and_true, Bool.true_and, Bool.and_false, Bool.false_and, Bool.or_true, Bool.true_or, Bool.or_false, Bool.false_or, Bool.not_true, Bool.not_false, decide_true, decide_false, if_true, if_false, ite_true, ite_false, dite_true, dite_false, List.all_cons, List.all_nil, List.any_cons, List.any_nil, List.contains_cons, List.contains_nil, List.isEmpty_nil, List.isEmpty_cons, Nat.reduceAdd, Nat.reduceSub, Nat.reduceMul, Nat.reduceLeDiff, Nat.reduceLT, Nat.reduceEqDiff, Nat.zero_add, Nat.add_zero, beq_self_eq_true, Bool.true_beq, Bool.false_beq, bne_iff_ne, bne_self_eq_false, reduceCtorEq, List.getD_cons_succ, List.getD_cons_zero, List.getD_nil, and_true, true_and, and_self, not_true_eq_false, not_false_eq_true, eq_self, ne_eq, reduceIte, reduceDIte, Option.some.injEq, if_pos rfl, beq_iff_eq, Int.reduceLT, Int.reduceLE, Int.reduceEq, Int.reduceNeg, Int.reduceAdd, Int.reduceSub, Int.reduceMul, Nat.lt_irrefl, Nat.le_refl, Nat.succ_ne_self, List.size_toArray, Int.cast_ofNat_Int, Int.reduceToNat, Nat.zero_mul, Nat.one_mul, Nat.mul_one, σ5, bt96, nthC, inBlk, divC, divB, loopOf, Option.getD, Orc.one_call, lget_put, lgetq_put, List.length_set, p1, p6, p7, p8, p40, l4, ej, es, wj, ws, cj, hn, hmin, ws1, wz, gQ, eQ, lQ, ov, ny, Int.toNat_natCast, Try.f96, Try.underlying3, info3, Try.t3, Try.underlying4, info4, Try.t4, Try.underlying112, info112, Try.t112, Try.underlying115, info115, Try.t115, Try.underlying154, info154, Try.t154, body129] <;> rfl), ?_, ?_, ?_, ?_, ?_, ?_⟩ <;> simp only [lget_put, List.length_set, p0, p1, p6, p7, p8, l4, Nat.reduceEqDiff, Nat.reduceLT, if_true, if_false]
   have blk : DC Try.prog false (inBlk (nthC 1 divC)) ⟨ts1, []⟩ σ ⟨.norm, ⟨ts5, []⟩, σ5, [bo]⟩ := DC.seq r2 rfl (DC.seq r3 rfl (DC.seq r4 rfl r5))
   have nud : NewBlk (bo + 1) ud := fun b o sp len cap e => by
    have := nd b o sp len cap e
    have := S3.nx; omega
   exact fin σ5 [bo] ts5 _ ud _ blk l5 p0 p1 p6 p7 p8 I5 ⟨S4.lo, S4.nx, by rw [St.get_set, if_pos rfl], fun c hc => by rw [St.get_set, if_neg (by have := S4.lo; omega)]; exact S4.keep c hc⟩
    (bd.set _ (nud.ne (Nat.lt_succ_self _))) nud (fun x hx => by simpa using hx)
end Go.Ab
namespace Go.Ab
open Go.Proofs
theorem div_call {a b : Nat} {v w : Value} {σ : St} (bA : BigS σ v (dig a)) (bB : BigS σ w (dig b)) (hb : 0 < b) (sA : (dig a).length ≤ 20) (sB : (dig b).length ≤ 20) :
  ∃ σ' q r, DCall Try.prog 96 [v, w] σ (.ret (.tuple ⟨[q, r]⟩)) σ' [] ∧ BigS σ' q (dig (a / b)) ∧ BigS σ' r (dig (a % b)) ∧ NewBlk σ.next q ∧ NewBlk σ.next r := by
 obtain ⟨ts0, h0, l0, q0, q1⟩ : ∃ ts0, start [v, w] Try.f96.ntmps = ⟨ts0, []⟩ ∧ ts0.length = 60 ∧ lget ts0 0 = v ∧ lget ts0 1 = w := ⟨(start [v, w] 60).ts, rfl, rfl, rfl, rfl⟩
 have oA := bA.len
 obtain ⟨L, hL⟩ : ∃ L, (dig a).length = L := ⟨_, rfl⟩
 obtain ⟨ts1, r1, l1, q0, q1⟩ : ∃ ts1, DC Try.prog false (nthC 0 divB) ⟨ts0, []⟩ σ ⟨.norm, ⟨ts1, []⟩, σ, []⟩ ∧ ts1.length = 60 ∧ lget ts1 0 = v ∧ lget ts1 1 = w := by
  refine ⟨_, runs Orc.none_ok 40 nobt (by kernel_rfl) (by simp only [go_sem, seval, if_pos rfl, nthC, divB, Option.getD, lget_put, lgetq_put, List.length_set, l0, Try.f96, Try.underlying3, info3, Try.t3, Try.underlying4, info4, Try.t4, Try.underlying112, info112, Try.t112, Try.underlying115, info115, Try.t115, Try.underlying154, info154, Try.t154] <;> rfl), ?_, ?_, ?_⟩ <;> simp only [lget_put, List.length_set, q0, q1, l0, Nat.reduceEqDiff, Nat.reduceLT, if_true, if_false]
 let σ1 := σ.new (.cells (dcells (List.replicate L 0)) false)
 rw [hL] at oA
 have c1 : (0 : Int) ≤ (L : Int) := by omega
 have c2 : (L : Int) < 4294967296 := by omega
 obtain ⟨ts2, r2, l2, q0, q1, q6⟩ : ∃ ts2, DC Try.prog false (nthC 1 divB) ⟨ts1, []⟩ σ ⟨.norm, ⟨ts2, []⟩, σ1, []⟩ ∧ ts2.length = 60 ∧ lget ts2 0 = v ∧ lget ts2 1 = w ∧ lget ts2 6 = .slice (some ⟨σ.next, 0, some 0⟩) L L := by
  refine ⟨_, runs Orc.none_ok 40 nobt (by kernel_rfl) (by simp only [go_sem, seval, if_pos rfl, σ1, nthC, divB, Option.getD, lget_put, lgetq_put, List.length_set, q0, l1, oA, c1, c2, opMakeSlice, zeros_digits, Int.toNat_natCast, Int.le_refl, Try.f96, Try.underlying3, info3, Try.t3, Try.underlying4, info4, Try.t4, Try.underlying112, info112, Try.t112, Try.underlying115, info115, Try.t115, Try.underlying154, info154, Try.t154] <;> rfl), ?_, ?_, ?_, ?_⟩ <;> simp only [lget_put, List.length_set, q0, q1, l1, Nat.reduceEqDiff, Nat.reduceLT, if_true, if_false]
 obtain ⟨ts3, r3, l3, q0, q1, q6, q7⟩ : ∃ ts3, DC Try.prog false (nthC 2 divB) ⟨ts2, []⟩ σ1 ⟨.norm, ⟨ts3, []⟩, σ1, []⟩ ∧ ts3.length = 60 ∧ lget ts3 0 = v ∧ lget ts3 1 = w ∧ lget ts3 6 = .slice (some ⟨σ.next, 0, some 0⟩) L L ∧ lget ts3 7 = .slice none 0 0 := by
  refine ⟨_, runs Orc.none_ok 40 nobt (by kernel_rfl) (by simp only [go_sem, seval, if_pos rfl, nthC, divB, Option.getD, lget_put, lgetq_put, List.length_set, l2, Try.f96, Try.underlying3, info3, Try.t3, Try.underlying4, info4, Try.t4, Try.underlying112, info112, Try.t112, Try.underlying115, info115, Try.t115, Try.underlying154, info154, Try.t154] <;> rfl), ?_, ?_, ?_, ?_, ?_⟩ <;> simp only [lget_put, List.length_set, q0, q1, q6, l2, Nat.reduceEqDiff, Nat.reduceLT, if_true, if_false]
 have w1 : IntKind.i64.wrap (16 * (L : Int)) = 16 * (L : Int) := by rw [IntKind.wrap_i64]; omega
 have w2 : IntKind.i64.wrap (16 * (L : Int) - 1) = ((16 * L : Nat) : Int) - 1 := by rw [IntKind.wrap_i64]; omega
 obtain ⟨ts4, r4, F4⟩ : ∃ ts4, DC Try.prog false (nthC 0 (nthC 3 divB)) ⟨ts3, []⟩ σ1 ⟨.norm, ⟨ts4, []⟩, σ1, []⟩ ∧ DF ts4 v w (.slice none 0 0) σ.next L (((16 * L : Nat) : Int) - 1) := by
  refine ⟨_, runs Orc.none_ok 40 nobt (by kernel_rfl) (by simp only [go_sem, seval, if_pos rfl, nthC, divB, Option.getD, lget_put, lgetq_put, List.length_set, q0, l3, oA, w1, w2, Try.f96, Try.underlying3, info3, Try.t3, Try.underlying4, info4, Try.t4, Try.underlying112, info112, Try.t112, Try.underlying115, info115, Try.t115, Try.underlying154, info154, Try.t154] <;> rfl), ?_⟩
  constructor <;> simp only [lget_put, List.length_set, q0, q1, q6, q7, l3, Nat.reduceEqDiff, Nat.reduceLT, if_true, if_false]
 subst hL
 have S1 : MS σ σ1 σ.next (List.replicate (dig a).length 0) := ⟨Nat.le_refl _, Nat.lt_succ_self _, by rw [St.get_new, if_pos rfl], fun c hc => by rw [St.get_new, if_neg (by omega)]⟩
 have ha : a / 2 ^ (16 * (dig a).length) = 0 := by
  have := val_lt _ (dig_low a)
  rw [val_dig, pow_bits] at this
  exact Nat.div_eq_of_lt this
 have I1 : DivI a b (dig a).length (List.replicate (dig a).length 0) (16 * (dig a).length) 0 := ⟨by simp, fun x hx => by have := List.eq_of_mem_replicate hx; omega, by rw [ha]; simp, by rw [ha, val_zeros]; simp⟩
 obtain ⟨σ5, lg5, ts5, Q, u, d5, I5, ⟨m', F5⟩, S5, bu, nu, f5⟩ := div_loop bA bB hb sA sB (16 * (dig a).length) _ 0 _ σ1 ts4 (Nat.le_refl _) I1 F4 S1 (BigS.nil _) (fun b o sp len cap e => by cases e)
 have vQ : val Q = a / b := by have := I5.q; simpa using this
 have hbig : BigS σ5 (.slice (some ⟨σ.next, 0, some 0⟩) (dig a).length (dig a).length) Q := .inr ⟨σ.next, 0, (dig a).length, [], false, by rw [I5.len], .inl rfl, by rw [I5.len]; exact Nat.le_refl _, S5.nx, by rw [S5.get, List.append_nil]⟩
 obtain ⟨q, dt, bq, nq⟩ := trim_call (by rw [I5.len]; omega) hbig I5.low
 rw [vQ] at bq
 have q6 := F5.t6
 have q7 := F5.t7
 have l5 := F5.len
 obtain ⟨ts6, r6, p4, p5⟩ : ∃ ts6, DC Try.prog false (nthC 4 divB) ⟨ts5, []⟩ σ5 ⟨.norm, ⟨ts6, []⟩, σ5, []⟩ ∧ lget ts6 4 = q ∧ lget ts6 5 = u := by
  refine ⟨_, runs (one_ok' Orc.none_ok dt) 40 nobt (by kernel_rfl) (by simp only [go_sem, seval, if_pos rfl, nthC, divB, Option.getD, Orc.one_call, lget_put, lgetq_put, List.length_set, q6, q7, l5, Try.f96, Try.underlying3, info3, Try.t3, Try.underlying4, info4, Try.t4, Try.underlying112, info112, Try.t112, Try.underlying115, info115, Try.t115, Try.underlying154, info154, Try.t154, body85] <;> rfl), ?_, ?_⟩ <;> simp only [lget_put, List.length_set, q7, l5, Nat.reduceEqDiff, Nat.reduceLT, if_true, if_false]
 refine ⟨σ5, q, u, DCall.fresh (callsD Try.func96 (rfl : Try.f96.body = some divB) (h0 ▸ DC.seq r1 rfl (DC.seq r2 rfl (DC.seq r3 rfl (DC.seq (DC.seq r4 rfl (DC.block (DC.loop d5))) rfl (DC.seq r6 rfl (DC.ret _ _ _)))))) ?_ rfl rfl) (fun c hc => ?_), bq, bu, nq _ (fun b o sp len cap e => by cases e; exact Nat.le_refl _), fun b o sp len cap e => by have := nu b o sp len cap e; omega⟩
 ·simp only [endsA, Try.f96, resA, resList, resOne, p4, p5, Option.map, RR.pre]
 ·have := f5 c (by simpa [RR.pre] using hc)
  omega
noncomputable def gcdB : Code := Try.f95.body.getD .skip
noncomputable def gcdC : Code := loopOf gcdB
theorem gcdB_loop : ∀ (n a b : Nat) (v w : Value) (σ : St) (ts : List Value), b < n → BigS σ v (dig a) → BigS σ w (dig b) → (dig a).length ≤ 20 → (dig b).length ≤ 20 → ts.length = 19 → lget ts 0 = v → lget ts 1 = w →
  ∃ σ' ts' g, DL Try.prog false gcdC ⟨ts, []⟩ σ ⟨.exit 0, ⟨ts', []⟩, σ', []⟩ ∧ ts'.length = 19 ∧ lget ts' 0 = g ∧ BigS σ' g (dig (Nat.gcd a b)) := by
 intro n
 induction n with
 | zero => intro a b v w σ ts hk; omega
 | succ n ih =>
  intro a b v w σ ts hk bA bB sA sB hl q0 q1
  have oB := bB.len
  by_cases h0 : b = 0
  ·subst h0
   rw [dig_zero] at oB
   simp only [List.length_nil, Int.natCast_zero] at oB
   obtain ⟨ts1, r1, l1, p0⟩ : ∃ ts1, DC Try.prog false gcdC ⟨ts, []⟩ σ ⟨.exit 0, ⟨ts1, []⟩, σ, []⟩ ∧ ts1.length = 19 ∧ lget ts1 0 = v := by
    refine ⟨_, runs Orc.none_ok 40 nobt (by kernel_rfl) (by simp only [go_sem, seval, if_pos rfl, gcdC, gcdB, loopOf, Option.getD, lget_put, lgetq_put, List.length_set, q1, hl, oB, Int.lt_irrefl, Try.f95, Try.underlying3, info3, Try.t3, Try.underlying4, info4, Try.t4, Try.underlying112, info112, Try.t112, Try.underlying115, info115, Try.t115, Try.underlying154, info154, Try.t154] <;> rfl), ?_, ?_⟩ <;> simp only [lget_put, List.length_set, q0, hl, Nat.reduceEqDiff, Nat.reduceLT, if_true, if_false]
   exact ⟨σ, ts1, v, DL.out r1 rfl, l1, p0, by rw [Nat.gcd_zero_right]; exact bA⟩
  ·have hlt : a % b < b := Nat.mod_lt _ (by omega)
   obtain ⟨σ1, q, r, dd, bq, br, _, _⟩ := div_call bA bB (by omega) sA sB
   have kd := same_of dd
   have hp : 0 < (dig b).length := by
    rcases Nat.eq_zero_or_pos (dig b).length with h | h
    ·exact absurd (dig_nil.1 (List.eq_nil_of_length_eq_zero h)) h0
    ·exact h
   have c1 : (0 : Int) < ((dig b).length : Int) := by omega
   obtain ⟨ts1, r1, l1, p0, p1⟩ : ∃ ts1, DC Try.prog false gcdC ⟨ts, []⟩ σ ⟨.norm, ⟨ts1, []⟩, σ1, []⟩ ∧ ts1.length = 19 ∧ lget ts1 0 = w ∧ lget ts1 1 = r := by
    refine ⟨_, runs (one_ok' Orc.none_ok dd) 40 nobt (by kernel_rfl) (by simp only [go_sem, seval, if_pos rfl, gcdC, gcdB, loopOf, Option.getD, Orc.one_call, lget_put, lgetq_put, List.length_set, q0, q1, hl, oB, c1, Try.f95, Try.underlying3, info3, Try.t3, Try.underlying4, info4, Try.t4, Try.underlying112, info112, Try.t112, Try.underlying115, info115, Try.t115, Try.underlying154, info154, Try.t154, Try.underlying164, info164, Try.t164, body96] <;> rfl), ?_, ?_, ?_⟩ <;> simp only [lget_put, List.length_set, q0, q1, hl, Nat.reduceEqDiff, Nat.reduceLT, if_true, if_false]
   obtain ⟨σ', ts', g, a1, a2, a3, a4⟩ := ih b (a % b) w r σ1 ts1 (by omega) (bB.keep kd.1 kd.2) br sB (Nat.le_trans (dig_len_mono (Nat.le_of_lt hlt)) sB) l1 p0 p1
   refine ⟨σ', ts', g, DL.next r1 rfl a1, a2, a3, ?_⟩
   rw [Nat.gcd_comm a b, Nat.gcd_rec b a, Nat.gcd_comm]
   exact a4
theorem gcdB_call {a b : Nat} {v w : Value} {σ : St} (bA : BigS σ v (dig a)) (bB : BigS σ w (dig b)) (sA : (dig a).length ≤ 20) (sB : (dig b).length ≤ 20) :
  ∃ σ' g, DCall Try.prog 95 [v, w] σ (.ret g) σ' [] ∧ BigS σ' g (dig (Nat.gcd a b)) := by
 obtain ⟨ts0, h0, l0, q0, q1⟩ : ∃ ts0, start [v, w] Try.f95.ntmps = ⟨ts0, []⟩ ∧ ts0.length = 19 ∧ lget ts0 0 = v ∧ lget ts0 1 = w := ⟨(start [v, w] 19).ts, rfl, rfl, rfl, rfl⟩
 obtain ⟨ts1, r1, l1, q0, q1⟩ : ∃ ts1, DC Try.prog false (nthC 0 gcdB) ⟨ts0, []⟩ σ ⟨.norm, ⟨ts1, []⟩, σ, []⟩ ∧ ts1.length = 19 ∧ lget ts1 0 = v ∧ lget ts1 1 = w := by
  refine ⟨_, runs Orc.none_ok 40 nobt (by kernel_rfl) (by simp only [go_sem, seval, if_pos rfl, nthC, gcdB, Option.getD, lget_put, lgetq_put, List.length_set, l0, Try.f95, Try.underlying3, info3, Try.t3, Try.underlying4, info4, Try.t4, Try.underlying112, info112, Try.t112, Try.underlying115, info115, Try.t115, Try.underlying154, info154, Try.t154] <;> rfl), ?_, ?_, ?_⟩ <;> simp only [lget_put, List.length_set, q0, q1, l0, Nat.reduceEqDiff, Nat.reduceLT, if_true, if_false]
 obtain ⟨σ2, ts2, g, d2, l2, p0, bg⟩ := gcdB_loop (b + 1) a b v w σ ts1 (by omega) bA bB sA sB l1 q0 q1
 obtain ⟨ts3, r3, p4⟩ : ∃ ts3, DC Try.prog false (nthC 2 gcdB) ⟨ts2, []⟩ σ2 ⟨.norm, ⟨ts3, []⟩, σ2, []⟩ ∧ lget ts3 4 = g := by
  refine ⟨_, runs Orc.none_ok 40 nobt (by kernel_rfl) (by simp only [go_sem, seval, if_pos rfl, nthC, gcdB, Option.getD, lget_put, lgetq_put, List.length_set, p0, l2, Try.f95, Try.underlying3, info3, Try.t3, Try.underlying4, info4, Try.t4, Try.underlying112, info112, Try.t112, Try.underlying115, info115, Try.t115, Try.underlying154, info154, Try.t154] <;> rfl), ?_⟩
  simp only [lget_put, List.length_set, p0, l2, Nat.reduceEqDiff, Nat.reduceLT, if_true, if_false]
 refine ⟨σ2, g, callsD Try.func95 (rfl : Try.f95.body = some gcdB) (h0 ▸ DC.seq r1 rfl (DC.seq (DC.block (DC.loop d2)) rfl (DC.seq r3 rfl (DC.ret _ _ _)))) ?_ rfl rfl, bg⟩
 simp only [endsA, Try.f95, resA, resList, resOne, p4, Option.map, RR.pre]
end Go.Ab
namespace Go.Ab
open Go.Proofs
theorem sizeB_call (n : Int) (σ : St) (h : okI n = true) : DCall Try.prog 56 [.int .i64 n] σ (.ret (.int .u64 n.natAbs)) σ [] := by
 simp only [okI, Bool.and_eq_true, decide_eq_true_eq] at h
 refine calls Orc.none_ok Try.func56 rfl 20 nobt (by kernel_rfl) ?_
 by_cases hn : n < 0
 ·have w1 : IntKind.i64.wrap (-1 - n) = -1 - n := by rw [IntKind.wrap_i64]; omega
  have w2 : IntKind.u64.wrap (-1 - n) = -1 - n := by rw [IntKind.wrap_u64]; omega
  have w3 : IntKind.u64.wrap (1 + (-1 - n)) = (n.natAbs : Int) := by rw [IntKind.wrap_u64]; omega
  exact ⟨_, by simp only [go_sem, seval, if_pos rfl, hn, w1, w2, w3, Try.f56, Try.underlying2, info2, Try.t2, Try.underlying4, info4, Try.t4, Try.underlying115, info115, Try.t115] <;> rfl, by simp only [go_sem, seval, if_pos rfl, Try.f56], rfl, rfl⟩
 ·have w1 : IntKind.u64.wrap n = (n.natAbs : Int) := by rw [IntKind.wrap_u64]; omega
  exact ⟨_, by simp only [go_sem, seval, if_pos rfl, hn, w1, Try.f56, Try.underlying2, info2, Try.t2, Try.underlying4, info4, Try.t4, Try.underlying115, info115, Try.t115] <;> rfl, by simp only [go_sem, seval, if_pos rfl, Try.f56], rfl, rfl⟩
def q1 : FuncId → List Value → Option Value
 | 56, [.int .i64 n] => if okI n then some (.int .u64 n.natAbs) else none
 | f, args => p8 f args
theorem q1_is : ∀ f args v, q1 f args = some v → ∀ σ, DCall Try.prog f args σ (.ret v) σ [] := fun f args v h σ => by
 unfold q1 at h
 split at h
 ·split at h
  ·rename_i hn
   cases h
   exact sizeB_call _ σ hn
  ·cases h
 ·exact p8_is f args v h σ
theorem q1_ok : (pureO q1).Ok Try.prog := pureO_ok q1_is
def bt116 : Nat → List Nat
 | 3 => [0, 1, 3, 7, 0, 16, 48, 127, 255, 511]
 | _ => []
noncomputable def rightB : Code := Try.f116.body.getD .skip
theorem dig_single {g x : Nat} (h : dig g = [x]) : g = x := by
 have := val_dig g
 rw [h] at this
 simpa [val] using this.symm
set_option maxRecDepth 20000 in
theorem right_call (n d : Int) (σ : St) (hn : okI n = true) (hd : okI d = true) : DCall Try.prog 116 [.agg ⟨[.int .i64 n, .int .i64 d]⟩] σ (.ret (.bool (decide (chk n d)))) σ [] := by
 have hn' := hn
 have hd' := hd
 simp only [okI, Bool.and_eq_true, decide_eq_true_eq] at hn' hd'
 obtain ⟨ts0, h0, l0, q0⟩ : ∃ ts0, start [.agg ⟨[.int .i64 n, .int .i64 d]⟩] Try.f116.ntmps = ⟨ts0, []⟩ ∧ ts0.length = 31 ∧ lget ts0 0 = .agg ⟨[.int .i64 n, .int .i64 d]⟩ := ⟨(start [.agg ⟨[.int .i64 n, .int .i64 d]⟩] 31).ts, rfl, rfl, rfl⟩
 let σ1 := σ.new (.cells [.int .i64 n, .int .i64 d] false)
 have g1 : σ1.get σ.next = some (.cells [.int .i64 n, .int .i64 d] false) := by rw [St.get_new, if_pos rfl]
 obtain ⟨ts1, r1, l1, q1'⟩ : ∃ ts1, DC Try.prog false (nthC 0 rightB) ⟨ts0, []⟩ σ ⟨.norm, ⟨ts1, []⟩, σ1, []⟩ ∧ ts1.length = 31 ∧ lget ts1 1 = .pointer (some ⟨σ.next, 0, none⟩) := by
  refine ⟨_, runs Orc.none_ok 40 nobt (by kernel_rfl) (by simp only [go_sem, seval, if_pos rfl, σ1, nthC, rightB, Option.getD, lget_put, lgetq_put, List.length_set, q0, l0, Try.f116, Try.underlying2, info2, Try.t2, Try.underlying3, info3, Try.t3, Try.underlying4, info4, Try.t4, Try.underlying23, info23, Try.t23, Try.underlying24, info24, Try.t24, Try.underlying112, info112, Try.t112, Try.underlying115, info115, Try.t115, Try.underlying154, info154, Try.t154] <;> rfl), ?_, ?_⟩ <;> simp only [lget_put, List.length_set, l0, Nat.reduceEqDiff, Nat.reduceLT, if_true, if_false]
 by_cases hd1 : d < 1
 ·have hc : decide (chk n d) = false := decide_eq_false fun h => by have := h.1; omega
  rw [hc]
  obtain ⟨ts2, r2, p2⟩ : ∃ ts2, DC Try.prog false (nthC 1 rightB) ⟨ts1, []⟩ σ1 ⟨.ret, ⟨ts2, []⟩, σ1, []⟩ ∧ lget ts2 2 = .bool false := by
   refine ⟨_, runs q1_ok 40 nobt (by kernel_rfl) (by simp only [go_sem, seval, if_pos rfl, nthC, rightB, Option.getD, lget_put, lgetq_put, List.length_set, q1', l1, g1, hd1, Try.f116, Try.underlying2, info2, Try.t2, Try.underlying3, info3, Try.t3, Try.underlying4, info4, Try.t4, Try.underlying23, info23, Try.t23, Try.underlying24, info24, Try.t24, Try.underlying112, info112, Try.t112, Try.underlying115, info115, Try.t115, Try.underlying154, info154, Try.t154, body56] <;> rfl), ?_⟩
   simp only [lget_put, List.length_set, l1, Nat.reduceEqDiff, Nat.reduceLT, if_true, if_false]
  refine DCall.forget (σ' := σ1) (callsD Try.func116 (rfl : Try.f116.body = some rightB) (h0 ▸ DC.seq r1 rfl (DC.seq_out r2 rfl)) ?_ rfl rfl) rfl
  simp only [endsA, Try.f116, resA, resList, resOne, p2, Option.map, RR.pre]
 ·by_cases hmin : n = -9223372036854775808
  ·have hc : decide (chk n d) = false := by simp [chk, hmin]
   rw [hc]
   have c1 : (9223372036854775808 : Int) ≤ (n.natAbs : Int) := by omega
   obtain ⟨ts2, r2, p2⟩ : ∃ ts2, DC Try.prog false (nthC 1 rightB) ⟨ts1, []⟩ σ1 ⟨.ret, ⟨ts2, []⟩, σ1, []⟩ ∧ lget ts2 2 = .bool false := by
    refine ⟨_, runs q1_ok 40 nobt (by kernel_rfl) (by simp only [go_sem, seval, if_pos rfl, q1, nthC, rightB, Option.getD, lget_put, lgetq_put, List.length_set, q1', l1, g1, hd1, hn, c1, Try.f116, Try.underlying2, info2, Try.t2, Try.underlying3, info3, Try.t3, Try.underlying4, info4, Try.t4, Try.underlying23, info23, Try.t23, Try.underlying24, info24, Try.t24, Try.underlying112, info112, Try.t112, Try.underlying115, info115, Try.t115, Try.underlying154, info154, Try.t154, body56] <;> rfl), ?_⟩
    simp only [lget_put, List.length_set, l1, Nat.reduceEqDiff, Nat.reduceLT, if_true, if_false]
   refine DCall.forget (σ' := σ1) (callsD Try.func116 (rfl : Try.f116.body = some rightB) (h0 ▸ DC.seq r1 rfl (DC.seq_out r2 rfl)) ?_ rfl rfl) rfl
   simp only [endsA, Try.f116, resA, resList, resOne, p2, Option.map, RR.pre]
  ·have c1 : ¬ (9223372036854775808 : Int) ≤ (n.natAbs : Int) := by omega
   obtain ⟨ts2, r2, l2, q2'⟩ : ∃ ts2, DC Try.prog false (nthC 1 rightB) ⟨ts1, []⟩ σ1 ⟨.norm, ⟨ts2, []⟩, σ1, []⟩ ∧ ts2.length = 31 ∧ lget ts2 1 = .pointer (some ⟨σ.next, 0, none⟩) := by
    refine ⟨_, runs q1_ok 40 nobt (by kernel_rfl) (by simp only [go_sem, seval, if_pos rfl, q1, nthC, rightB, Option.getD, lget_put, lgetq_put, List.length_set, q1', l1, g1, hd1, hn, c1, Try.f116, Try.underlying2, info2, Try.t2, Try.underlying3, info3, Try.t3, Try.underlying4, info4, Try.t4, Try.underlying23, info23, Try.t23, Try.underlying24, info24, Try.t24, Try.underlying112, info112, Try.t112, Try.underlying115, info115, Try.t115, Try.underlying154, info154, Try.t154, body56] <;> rfl), ?_, ?_⟩ <;> simp only [lget_put, List.length_set, q1', l1, Nat.reduceEqDiff, Nat.reduceLT, if_true, if_false]
   obtain ⟨σa, va, da, ba, _⟩ := of_call (n := n.natAbs) (by omega) σ1
   have da' := da.pad
   have ka := same_of da'
   obtain ⟨σb, vb, db, bb, _⟩ := of_call (n := d.natAbs) (by omega) σa.pad
   have db' := db.pad
   have kb := same_of db'
   have la : (dig n.natAbs).length ≤ 4 := dig_length_le (by omega)
   have lb : (dig d.natAbs).length ≤ 4 := dig_length_le (by omega)
   obtain ⟨σc, vc, dc, bc⟩ := gcdB_call (ba.pad.keep kb.1 kb.2) bb.pad (by omega) (by omega)
   have kc := same_of dc
   have ed : IntKind.u64.wrap d = (d.natAbs : Int) := by rw [IntKind.wrap_u64]; omega
   have nab : ¬ σa.pad = σ1 := St.ne_of_next (by rw [St.next_pad]; have := same_of da; omega)
   have gb : σa.pad.get σ.next = some (.cells [.int .i64 n, .int .i64 d] false) := (ka.2 _ (Nat.lt_succ_self _)).trans g1
   have n1 : ¬ σ1.next ≤ σ.next := by show ¬ σ.next + 1 ≤ σ.next; omega
   obtain ⟨ts3, r3, l3, q3⟩ : ∃ ts3, DC Try.prog false (nthC 2 rightB) ⟨ts2, []⟩ σ1 ⟨.norm, ⟨ts3, []⟩, σc, []⟩ ∧ ts3.length = 31 ∧ lget ts3 3 = vc := by
    refine ⟨_, runs (one_ok' (one_ok' (one_ok' q1_ok dc) db') da') 40 bt116 (by kernel_rfl) (by simp only [go_sem, seval, if_pos rfl, bt116, q1, nthC, rightB, Option.getD, Orc.one_call, one_other, one_miss nab, lget_put, lgetq_put, List.length_set, q2', l2, g1, gb, hn, ed, n1, Try.f116, Try.underlying2, info2, Try.t2, Try.underlying3, info3, Try.t3, Try.underlying4, info4, Try.t4, Try.underlying23, info23, Try.t23, Try.underlying24, info24, Try.t24, Try.underlying112, info112, Try.t112, Try.underlying115, info115, Try.t115, Try.underlying154, info154, Try.t154, body55, body56, body95] <;> rfl), ?_, ?_⟩ <;> simp only [lget_put, List.length_set, l2, Nat.reduceEqDiff, Nat.reduceLT, if_true, if_false]
   obtain ⟨g, hg⟩ : ∃ g, Nat.gcd n.natAbs d.natAbs = g := ⟨_, rfl⟩
   rw [hg] at bc
   have hchk : chk n d ↔ g = 1 := by
    unfold chk
    rw [← hg]
    constructor
    ·rintro ⟨_, _, h⟩; exact h
    ·intro h; exact ⟨by omega, hmin, h⟩
   have oC := bc.len
   have last : ∀ r : Bool, r = decide (chk n d) → (∃ ts4, DC Try.prog false (nthC 3 rightB) ⟨ts3, []⟩ σc ⟨.norm, ⟨ts4, []⟩, σc, []⟩ ∧ lget ts4 2 = .bool r) → DCall Try.prog 116 [.agg ⟨[.int .i64 n, .int .i64 d]⟩] σ (.ret (.bool (decide (chk n d)))) σ [] := by
    rintro r hr ⟨ts4, r4, p2⟩
    rw [← hr]
    refine DCall.forget (σ' := σc) (callsD Try.func116 (rfl : Try.f116.body = some rightB) (h0 ▸ DC.seq r1 rfl (DC.seq r2 rfl (DC.seq r3 rfl (DC.seq r4 rfl (DC.ret _ _ _))))) ?_ rfl rfl) rfl
    simp only [endsA, Try.f116, resA, resList, resOne, p2, Option.map, RR.pre]
   by_cases h1 : (dig g).length = 1
   ·obtain ⟨x, hx⟩ : ∃ x, dig g = [x] := List.length_eq_one_iff.1 h1
    have hgx := dig_single hx
    obtain ⟨b, sp, cap, vs, ro, rfl, hb, hgv, he⟩ := bc.at (i := 0) (d := x) (by rw [hx]; rfl)
    rw [h1] at q3 oC
    have e1 : (((1 : Nat) : Int) == 1) = true := by decide
    by_cases hx1 : x = 1
    ·have e2 : ((x : Int) == 1) = true := by rw [hx1]; decide
     refine last true (by rw [decide_eq_true (hchk.2 (by omega))]) ⟨_, runs Orc.none_ok 40 nobt (by kernel_rfl) (by simp only [go_sem, seval, if_pos rfl, nthC, rightB, Option.getD, lget_put, lgetq_put, List.length_set, q3, l3, oC, hgv, he, e1, e2, Int.natCast_one, Try.f116, Try.underlying2, info2, Try.t2, Try.underlying3, info3, Try.t3, Try.underlying4, info4, Try.t4, Try.underlying23, info23, Try.t23, Try.underlying24, info24, Try.t24, Try.underlying112, info112, Try.t112, Try.underlying115, info115, Try.t115, Try.underlying154, info154, Try.t154] <;> rfl), ?_⟩
     simp only [lget_put, List.length_set, l3, Nat.reduceEqDiff, Nat.reduceLT, if_true, if_false]
    ·have e2 : ((x : Int) == 1) = false := by simp; omega
     refine last false (by rw [decide_eq_false (fun h => hx1 (by have := hchk.1 h; omega))]) ⟨_, runs Orc.none_ok 40 nobt (by kernel_rfl) (by simp only [go_sem, seval, if_pos rfl, nthC, rightB, Option.getD, lget_put, lgetq_put, List.length_set, q3, l3, oC, hgv, he, e1, e2, Int.natCast_one, Try.f116, Try.underlying2, info2, Try.t2, Try.underlying3, info3, Try.t3, Try.underlying4, info4, Try.t4, Try.underlying23, info23, Try.t23, Try.underlying24, info24, Try.t24, Try.underlying112, info112, Try.t112, Try.underlying115, info115, Try.t115, Try.underlying154, info154, Try.t154] <;> rfl), ?_⟩
     simp only [lget_put, List.length_set, l3, Nat.reduceEqDiff, Nat.reduceLT, if_true, if_false]
   ·have e1 : (((dig g).length : Int) == 1) = false := by simp; omega
    refine last false (by rw [decide_eq_false (fun h => h1 (by rw [hchk.1 h]; rfl))]) ⟨_, runs Orc.none_ok 40 nobt (by kernel_rfl) (by simp only [go_sem, seval, if_pos rfl, nthC, rightB, Option.getD, lget_put, lgetq_put, List.length_set, q3, l3, oC, e1, Try.f116, Try.underlying2, info2, Try.t2, Try.underlying3, info3, Try.t3, Try.underlying4, info4, Try.t4, Try.underlying23, info23, Try.t23, Try.underlying24, info24, Try.t24, Try.underlying112, info112, Try.t112, Try.underlying115, info115, Try.t115, Try.underlying154, info154, Try.t154] <;> rfl), ?_⟩
    simp only [lget_put, List.length_set, l3, Nat.reduceEqDiff, Nat.reduceLT, if_true, if_false]
end Go.Ab
namespace Go.Ab
open Go.Proofs
def bt20 : Nat → List Nat
 | 1 => [0, 1, 3, 7, 0, 16, 48, 127, 255, 0, 512, 2047, 4095, 0, 8192, 24576, 65535, 131071, 262143, 524287]
 | _ => []
noncomputable def cmpB : Code := Try.f20.body.getD .skip
theorem cmp_of {n₁ d₁ n₂ d₂ : Int} (h1 : 1 ≤ d₁) (h2 : 1 ≤ d₂) : ((n₁.natAbs * d₂.natAbs : Nat) : Int) = (if n₁ < 0 then -(n₁ * d₂) else n₁ * d₂) ∧ ((n₂.natAbs * d₁.natAbs : Nat) : Int) = (if n₂ < 0 then -(n₂ * d₁) else n₂ * d₁) := by
 have e : ∀ n d : Int, 1 ≤ d → ((n.natAbs * d.natAbs : Nat) : Int) = if n < 0 then -(n * d) else n * d := fun n d hd => by
  rw [Int.natCast_mul]
  have ed : (d.natAbs : Int) = d := by omega
  rw [ed]
  split
  ·have : (n.natAbs : Int) = -n := by omega
   rw [this, Int.neg_mul]
  ·have : (n.natAbs : Int) = n := by omega
   rw [this]
 exact ⟨e _ _ h2, e _ _ h1⟩
set_option maxRecDepth 20000 in
theorem cmpB_call (n₁ d₁ n₂ d₂ : Int) (σ : St) (hn₁ : okI n₁ = true) (hd₁ : okI d₁ = true) (hn₂ : okI n₂ = true) (hd₂ : okI d₂ = true) (p₁ : 1 ≤ d₁) (p₂ : 1 ≤ d₂) :
  DCall Try.prog 20 [.agg ⟨[.int .i64 n₁, .int .i64 d₁]⟩, .agg ⟨[.int .i64 n₂, .int .i64 d₂]⟩] σ (.ret (.int .i64 (cmpR n₁ d₁ n₂ d₂))) σ [] := by
 have i1 := hn₁
 have i2 := hd₁
 have i3 := hn₂
 have i4 := hd₂
 simp only [okI, Bool.and_eq_true, decide_eq_true_eq] at i1 i2 i3 i4
 obtain ⟨ts0, h0, l0, q0, q1'⟩ : ∃ ts0, start [.agg ⟨[.int .i64 n₁, .int .i64 d₁]⟩, .agg ⟨[.int .i64 n₂, .int .i64 d₂]⟩] Try.f20.ntmps = ⟨ts0, []⟩ ∧ ts0.length = 55 ∧ lget ts0 0 = .agg ⟨[.int .i64 n₁, .int .i64 d₁]⟩ ∧ lget ts0 1 = .agg ⟨[.int .i64 n₂, .int .i64 d₂]⟩ :=
  ⟨(start [.agg ⟨[.int .i64 n₁, .int .i64 d₁]⟩, .agg ⟨[.int .i64 n₂, .int .i64 d₂]⟩] 55).ts, rfl, rfl, rfl, rfl⟩
 let σ1 := (σ.new (.cells [.int .i64 n₁, .int .i64 d₁] false)).new (.cells [.int .i64 n₂, .int .i64 d₂] false)
 have g1 : σ1.get σ.next = some (.cells [.int .i64 n₁, .int .i64 d₁] false) := by rw [St.get_new, if_neg (by simp), St.get_new, if_pos rfl]
 have g2 : σ1.get (σ.next + 1) = some (.cells [.int .i64 n₂, .int .i64 d₂] false) := by rw [St.get_new, if_pos (by rfl)]
 have nx1 : σ1.next = σ.next + 2 := rfl
 obtain ⟨ts1, r1, l1, q2, q3⟩ : ∃ ts1, DC Try.prog false (nthC 0 cmpB) ⟨ts0, []⟩ σ ⟨.norm, ⟨ts1, []⟩, σ1, []⟩ ∧ ts1.length = 55 ∧ lget ts1 2 = .pointer (some ⟨σ.next, 0, none⟩) ∧ lget ts1 3 = .pointer (some ⟨σ.next + 1, 0, none⟩) := by
  refine ⟨_, runs Orc.none_ok 40 nobt (by kernel_rfl) (by simp only [go_sem, seval, if_pos rfl, σ1, nthC, cmpB, Option.getD, lget_put, lgetq_put, List.length_set, q0, q1', l0, Try.f20, Try.underlying2, info2, Try.t2, Try.underlying3, info3, Try.t3, Try.underlying4, info4, Try.t4, Try.underlying23, info23, Try.t23, Try.underlying24, info24, Try.t24, Try.underlying112, info112, Try.t112, Try.underlying115, info115, Try.t115, Try.underlying154, info154, Try.t154] <;> rfl), ?_, ?_, ?_⟩ <;> simp only [lget_put, List.length_set, l0, Nat.reduceEqDiff, Nat.reduceLT, if_true, if_false, St.next_new]
 obtain ⟨σa, va, da, ba, _⟩ := of_call (n := n₁.natAbs) (by omega) σ1
 have da' := da.pad
 have ka := same_of da'
 obtain ⟨σb, vb, db, bb, _⟩ := of_call (n := d₂.natAbs) (by omega) σa.pad
 have db' := db.pad
 have kb := same_of db'
 have ln1 : (dig n₁.natAbs).length ≤ 4 := dig_length_le (by omega)
 have ln2 : (dig n₂.natAbs).length ≤ 4 := dig_length_le (by omega)
 have ld1 : (dig d₁.natAbs).length ≤ 4 := dig_length_le (by omega)
 have ld2 : (dig d₂.natAbs).length ≤ 4 := dig_length_le (by omega)
 obtain ⟨σc, vc, dc, bc, _⟩ := mul_call (ba.pad.keep kb.1 kb.2) bb.pad (dig_low _) (dig_low _) (by omega) (by omega)
 rw [val_dig, val_dig] at bc
 have dc' := dc.pad
 have kc := same_of dc'
 obtain ⟨σd, vd, dd, bd, _⟩ := of_call (n := n₂.natAbs) (by omega) σc.pad
 have dd' := dd.pad
 have kd := same_of dd'
 obtain ⟨σe, ve, de, be, _⟩ := of_call (n := d₁.natAbs) (by omega) σd.pad
 have de' := de.pad
 have ke := same_of de'
 obtain ⟨σf, vf, df, bf, _⟩ := mul_call (bd.pad.keep ke.1 ke.2) be.pad (dig_low _) (dig_low _) (by omega) (by omega)
 rw [val_dig, val_dig] at bf
 have kf := same_of df
 have X1 : BigS σf vc (dig (n₁.natAbs * d₂.natAbs)) := ((bc.pad.keep kd.1 kd.2).keep ke.1 ke.2).keep kf.1 kf.2
 obtain ⟨X, hX⟩ : ∃ X, n₁.natAbs * d₂.natAbs = X := ⟨_, rfl⟩
 obtain ⟨Y, hY⟩ : ∃ Y, n₂.natAbs * d₁.natAbs = Y := ⟨_, rfl⟩
 have hXb : X < 65536 ^ 8 := by
  rw [← hX]
  have : n₁.natAbs * d₂.natAbs < 65536 ^ 4 * 65536 ^ 4 := Nat.mul_lt_mul'' (by omega) (by omega)
  simpa using this
 have hYb : Y < 65536 ^ 8 := by
  rw [← hY]
  have : n₂.natAbs * d₁.natAbs < 65536 ^ 4 * 65536 ^ 4 := Nat.mul_lt_mul'' (by omega) (by omega)
  simpa using this
 have lX := dig_length_le hXb
 have lY := dig_length_le hYb
 have hcmp := cmp_of (n₁ := n₁) (n₂ := n₂) p₁ p₂
 rw [hX, hY] at hcmp
 rw [hX] at X1
 rw [hY] at bf
 have e1 : IntKind.u64.wrap d₁ = (d₁.natAbs : Int) := by rw [IntKind.wrap_u64]; omega
 have e2 : IntKind.u64.wrap d₂ = (d₂.natAbs : Int) := by rw [IntKind.wrap_u64]; omega
 have na := ka.1
 have nb := kb.1
 have nc := kc.1
 have nd := kd.1
 have ne := ke.1
 have sa := (same_of da).1
 have sb := (same_of db).1
 have sc := (same_of dc).1
 have sd := (same_of dd).1
 have se := (same_of de).1
 simp only [St.next_pad] at na nb nc nd ne sa sb sc sd se
 have m1 : ¬ σa.pad = σ1 := St.ne_of_next (by rw [St.next_pad]; omega)
 have m2 : ¬ σb.pad = σ1 := St.ne_of_next (by rw [St.next_pad]; omega)
 have m3 : ¬ σb.pad = σa.pad := St.ne_of_next (by rw [St.next_pad, St.next_pad]; omega)
 have m4 : ¬ σc.pad = σ1 := St.ne_of_next (by rw [St.next_pad]; omega)
 have m5 : ¬ σc.pad = σa.pad := St.ne_of_next (by rw [St.next_pad, St.next_pad]; omega)
 have m6 : ¬ σc.pad = σb.pad := St.ne_of_next (by rw [St.next_pad, St.next_pad]; omega)
 have m7 : ¬ σd.pad = σ1 := St.ne_of_next (by rw [St.next_pad]; omega)
 have m8 : ¬ σd.pad = σa.pad := St.ne_of_next (by rw [St.next_pad, St.next_pad]; omega)
 have m9 : ¬ σd.pad = σb.pad := St.ne_of_next (by rw [St.next_pad, St.next_pad]; omega)
 have m10 : ¬ σd.pad = σc.pad := St.ne_of_next (by rw [St.next_pad, St.next_pad]; omega)
 have m11 : ¬ σe.pad = σ1 := St.ne_of_next (by rw [St.next_pad]; omega)
 have m12 : ¬ σe.pad = σa.pad := St.ne_of_next (by rw [St.next_pad, St.next_pad]; omega)
 have m13 : ¬ σe.pad = σb.pad := St.ne_of_next (by rw [St.next_pad, St.next_pad]; omega)
 have m14 : ¬ σe.pad = σc.pad := St.ne_of_next (by rw [St.next_pad, St.next_pad]; omega)
 have m15 : ¬ σe.pad = σd.pad := St.ne_of_next (by rw [St.next_pad, St.next_pad]; omega)
 have get_at : ∀ c, c < σ.next + 2 → σa.pad.get c = σ1.get c ∧ σb.pad.get c = σ1.get c ∧ σc.pad.get c = σ1.get c ∧ σd.pad.get c = σ1.get c ∧ σe.pad.get c = σ1.get c ∧ σf.get c = σ1.get c := fun c hc => by
  have t1 := ka.2 c (by omega)
  have t2 := kb.2 c (by rw [St.next_pad]; omega)
  have t3 := kc.2 c (by rw [St.next_pad]; omega)
  have t4 := kd.2 c (by rw [St.next_pad]; omega)
  have t5 := ke.2 c (by rw [St.next_pad]; omega)
  have t6 := kf.2 c (by rw [St.next_pad]; omega)
  exact ⟨t1, t2.trans t1, t3.trans (t2.trans t1), t4.trans (t3.trans (t2.trans t1)), t5.trans (t4.trans (t3.trans (t2.trans t1))), t6.trans (t5.trans (t4.trans (t3.trans (t2.trans t1))))⟩
 have ga := get_at σ.next (by omega)
 have gb := get_at (σ.next + 1) (by omega)
 rw [g1] at ga
 rw [g2] at gb
 have n1 : ¬ σ1.next ≤ σ.next := by omega
 have n2 : ¬ σ1.next ≤ σ.next + 1 := by omega
 have za0 : ¬ σa.pad.next ≤ σ.next := by rw [St.next_pad]; omega
 have za1 : ¬ σa.pad.next ≤ σ.next + 1 := by rw [St.next_pad]; omega
 have zb0 : ¬ σb.pad.next ≤ σ.next := by rw [St.next_pad]; omega
 have zb1 : ¬ σb.pad.next ≤ σ.next + 1 := by rw [St.next_pad]; omega
 have zc0 : ¬ σc.pad.next ≤ σ.next := by rw [St.next_pad]; omega
 have zc1 : ¬ σc.pad.next ≤ σ.next + 1 := by rw [St.next_pad]; omega
 have zd0 : ¬ σd.pad.next ≤ σ.next := by rw [St.next_pad]; omega
 have zd1 : ¬ σd.pad.next ≤ σ.next + 1 := by rw [St.next_pad]; omega
 have ze0 : ¬ σe.pad.next ≤ σ.next := by rw [St.next_pad]; omega
 have ze1 : ¬ σe.pad.next ≤ σ.next + 1 := by rw [St.next_pad]; omega
 obtain ⟨ts2, r2, l2, p2, p3, p5, p6⟩ : ∃ ts2, DC Try.prog false (nthC 1 cmpB) ⟨ts1, []⟩ σ1 ⟨.norm, ⟨ts2, []⟩, σf, []⟩ ∧ ts2.length = 55 ∧ lget ts2 2 = .pointer (some ⟨σ.next, 0, none⟩) ∧ lget ts2 3 = .pointer (some ⟨σ.next + 1, 0, none⟩) ∧ lget ts2 5 = vc ∧ lget ts2 6 = vf := by
  refine ⟨_, runs (one_ok' (one_ok' (one_ok' (one_ok' (one_ok' (one_ok' q1_ok df) de') dd') dc') db') da') 60 bt20 (by kernel_rfl) (by simp only [go_sem, seval, if_pos rfl, bt20, q1, nthC, cmpB, Option.getD, Orc.one_call, one_other, one_miss m1, one_miss m2, one_miss m3, one_miss m4, one_miss m5, one_miss m6, one_miss m7, one_miss m8, one_miss m9, one_miss m10, one_miss m11, one_miss m12, one_miss m13, one_miss m14, one_miss m15, lget_put, lgetq_put, List.length_set, q2, q3, l1, g1, g2, ga, gb, hn₁, hn₂, e1, e2, n1, n2, za0, za1, zb0, zb1, zc0, zc1, zd0, zd1, ze0, ze1, Try.f20, Try.underlying2, info2, Try.t2, Try.underlying3, info3, Try.t3, Try.underlying4, info4, Try.t4, Try.underlying23, info23, Try.t23, Try.underlying24, info24, Try.t24, Try.underlying112, info112, Try.t112, Try.underlying115, info115, Try.t115, Try.underlying154, info154, Try.t154, body54, body55, body56] <;> rfl), ?_, ?_, ?_, ?_, ?_⟩ <;> simp only [lget_put, List.length_set, q2, q3, l1, Nat.reduceEqDiff, Nat.reduceLT, if_true, if_false]
 have gf1 := ga.2.2.2.2.2
 have gf2 := gb.2.2.2.2.2
 have dXY := less_call' X1 bf (by omega) (by omega)
 have dYX := less_call' bf X1 (by omega) (by omega)
 have tail : ∀ (x y : Value) (U V : Nat) (ts3 : List Value) (r : Int), DCall Try.prog 57 [x, y] σf (.ret (.bool (decide (U < V)))) σf [] → DCall Try.prog 57 [y, x] σf (.ret (.bool (decide (V < U)))) σf [] → DC Try.prog false (nthC 2 cmpB) ⟨ts2, []⟩ σf ⟨.norm, ⟨ts3, []⟩, σf, []⟩ → ts3.length = 55 → lget ts3 5 = x → lget ts3 6 = y →
   r = (if U < V then -1 else if V < U then 1 else 0) → DCall Try.prog 20 [.agg ⟨[.int .i64 n₁, .int .i64 d₁]⟩, .agg ⟨[.int .i64 n₂, .int .i64 d₂]⟩] σ (.ret (.int .i64 r)) σ [] := by
  intro x y U V ts3 r dxy dyx r3 l3 p5 p6 hr
  by_cases h1 : U < V
  ·have e1 : decide (U < V) = true := by simp [h1]
   rw [e1] at dxy
   rw [if_pos h1] at hr
   obtain ⟨ts4, r4, p4⟩ : ∃ ts4, DC Try.prog false (nthC 3 cmpB) ⟨ts3, []⟩ σf ⟨.ret, ⟨ts4, []⟩, σf, []⟩ ∧ lget ts4 4 = .int .i64 (-1) := by
    refine ⟨_, runs (one_ok' Orc.none_ok dxy) 60 nobt (by kernel_rfl) (by simp only [go_sem, seval, if_pos rfl, nthC, cmpB, Option.getD, Orc.one_call, lget_put, lgetq_put, List.length_set, p5, p6, l3, Try.f20, Try.underlying2, info2, Try.t2, Try.underlying3, info3, Try.t3, Try.underlying4, info4, Try.t4, Try.underlying23, info23, Try.t23, Try.underlying24, info24, Try.t24, Try.underlying112, info112, Try.t112, Try.underlying115, info115, Try.t115, Try.underlying154, info154, Try.t154, body57] <;> rfl), ?_⟩
    simp only [lget_put, List.length_set, l3, Nat.reduceEqDiff, Nat.reduceLT, if_true, if_false]
   rw [hr]
   refine DCall.forget (σ' := σf) (callsD Try.func20 (rfl : Try.f20.body = some cmpB) (h0 ▸ DC.seq r1 rfl (DC.seq r2 rfl (DC.seq r3 rfl (DC.seq_out r4 rfl)))) ?_ rfl rfl) rfl
   simp only [endsA, Try.f20, resA, resList, resOne, p4, Option.map, RR.pre]
  ·have e1 : decide (U < V) = false := by simp [h1]
   rw [e1] at dxy
   rw [if_neg h1] at hr
   obtain ⟨ts4, r4, l4, p5, p6⟩ : ∃ ts4, DC Try.prog false (nthC 3 cmpB) ⟨ts3, []⟩ σf ⟨.norm, ⟨ts4, []⟩, σf, []⟩ ∧ ts4.length = 55 ∧ lget ts4 5 = x ∧ lget ts4 6 = y := by
    refine ⟨_, runs (one_ok' Orc.none_ok dxy) 60 nobt (by kernel_rfl) (by simp only [go_sem, seval, if_pos rfl, nthC, cmpB, Option.getD, Orc.one_call, lget_put, lgetq_put, List.length_set, p5, p6, l3, Try.f20, Try.underlying2, info2, Try.t2, Try.underlying3, info3, Try.t3, Try.underlying4, info4, Try.t4, Try.underlying23, info23, Try.t23, Try.underlying24, info24, Try.t24, Try.underlying112, info112, Try.t112, Try.underlying115, info115, Try.t115, Try.underlying154, info154, Try.t154, body57] <;> rfl), ?_, ?_, ?_⟩ <;> simp only [lget_put, List.length_set, p5, p6, l3, Nat.reduceEqDiff, Nat.reduceLT, if_true, if_false]
   by_cases h2 : V < U
   ·have e2 : decide (V < U) = true := by simp [h2]
    rw [e2] at dyx
    rw [if_pos h2] at hr
    obtain ⟨ts5, r5, p4⟩ : ∃ ts5, DC Try.prog false (nthC 4 cmpB) ⟨ts4, []⟩ σf ⟨.ret, ⟨ts5, []⟩, σf, []⟩ ∧ lget ts5 4 = .int .i64 1 := by
     refine ⟨_, runs (one_ok' Orc.none_ok dyx) 60 nobt (by kernel_rfl) (by simp only [go_sem, seval, if_pos rfl, nthC, cmpB, Option.getD, Orc.one_call, lget_put, lgetq_put, List.length_set, p5, p6, l4, Try.f20, Try.underlying2, info2, Try.t2, Try.underlying3, info3, Try.t3, Try.underlying4, info4, Try.t4, Try.underlying23, info23, Try.t23, Try.underlying24, info24, Try.t24, Try.underlying112, info112, Try.t112, Try.underlying115, info115, Try.t115, Try.underlying154, info154, Try.t154, body57] <;> rfl), ?_⟩
     simp only [lget_put, List.length_set, l4, Nat.reduceEqDiff, Nat.reduceLT, if_true, if_false]
    rw [hr]
    refine DCall.forget (σ' := σf) (callsD Try.func20 (rfl : Try.f20.body = some cmpB) (h0 ▸ DC.seq r1 rfl (DC.seq r2 rfl (DC.seq r3 rfl (DC.seq r4 rfl (DC.seq_out r5 rfl))))) ?_ rfl rfl) rfl
    simp only [endsA, Try.f20, resA, resList, resOne, p4, Option.map, RR.pre]
   ·have e2 : decide (V < U) = false := by simp [h2]
    rw [e2] at dyx
    rw [if_neg h2] at hr
    obtain ⟨ts5, r5, l5⟩ : ∃ ts5, DC Try.prog false (nthC 4 cmpB) ⟨ts4, []⟩ σf ⟨.norm, ⟨ts5, []⟩, σf, []⟩ ∧ ts5.length = 55 := by
     refine ⟨_, runs (one_ok' Orc.none_ok dyx) 60 nobt (by kernel_rfl) (by simp only [go_sem, seval, if_pos rfl, nthC, cmpB, Option.getD, Orc.one_call, lget_put, lgetq_put, List.length_set, p5, p6, l4, Try.f20, Try.underlying2, info2, Try.t2, Try.underlying3, info3, Try.t3, Try.underlying4, info4, Try.t4, Try.underlying23, info23, Try.t23, Try.underlying24, info24, Try.t24, Try.underlying112, info112, Try.t112, Try.underlying115, info115, Try.t115, Try.underlying154, info154, Try.t154, body57] <;> rfl), ?_⟩
     simp only [List.length_set, l4]
    obtain ⟨ts6, r6, p4⟩ : ∃ ts6, DC Try.prog false (nthC 5 cmpB) ⟨ts5, []⟩ σf ⟨.norm, ⟨ts6, []⟩, σf, []⟩ ∧ lget ts6 4 = .int .i64 0 := by
     refine ⟨_, runs Orc.none_ok 60 nobt (by kernel_rfl) (by simp only [go_sem, seval, if_pos rfl, nthC, cmpB, Option.getD, lget_put, lgetq_put, List.length_set, l5, Try.f20, Try.underlying2, info2, Try.t2, Try.underlying3, info3, Try.t3, Try.underlying4, info4, Try.t4, Try.underlying23, info23, Try.t23, Try.underlying24, info24, Try.t24, Try.underlying112, info112, Try.t112, Try.underlying115, info115, Try.t115, Try.underlying154, info154, Try.t154] <;> rfl), ?_⟩
     simp only [lget_put, List.length_set, l5, Nat.reduceEqDiff, Nat.reduceLT, if_true, if_false]
    rw [hr]
    refine DCall.forget (σ' := σf) (callsD Try.func20 (rfl : Try.f20.body = some cmpB) (h0 ▸ DC.seq r1 rfl (DC.seq r2 rfl (DC.seq r3 rfl (DC.seq r4 rfl (DC.seq r5 rfl (DC.seq r6 rfl (DC.ret _ _ _))))))) ?_ rfl rfl) rfl
    simp only [endsA, Try.f20, resA, resList, resOne, p4, Option.map, RR.pre]
 by_cases s1 : n₁ < 0
 ·by_cases s2 : n₂ < 0
  ·have s2' : ¬ 0 ≤ n₂ := by omega
   have s1' : ¬ 0 ≤ n₁ := by omega
   obtain ⟨ts3, r3, l3, t5, t6⟩ : ∃ ts3, DC Try.prog false (nthC 2 cmpB) ⟨ts2, []⟩ σf ⟨.norm, ⟨ts3, []⟩, σf, []⟩ ∧ ts3.length = 55 ∧ lget ts3 5 = vf ∧ lget ts3 6 = vc := by
    refine ⟨_, runs Orc.none_ok 60 nobt (by kernel_rfl) (by simp only [go_sem, seval, if_pos rfl, nthC, cmpB, Option.getD, lget_put, lgetq_put, List.length_set, p2, p3, p5, p6, l2, gf1, gf2, s1, s1', s2', Try.f20, Try.underlying2, info2, Try.t2, Try.underlying3, info3, Try.t3, Try.underlying4, info4, Try.t4, Try.underlying23, info23, Try.t23, Try.underlying24, info24, Try.t24, Try.underlying112, info112, Try.t112, Try.underlying115, info115, Try.t115, Try.underlying154, info154, Try.t154] <;> rfl), ?_, ?_, ?_⟩ <;> simp only [lget_put, List.length_set, p5, p6, l2, Nat.reduceEqDiff, Nat.reduceLT, if_true, if_false]
   refine tail vf vc Y X ts3 _ dYX dXY r3 l3 t5 t6 ?_
   rw [if_pos s1, if_pos s2] at hcmp
   unfold cmpR
   repeat' split
   all_goals omega
  ·have s2' : 0 ≤ n₂ := by omega
   obtain ⟨ts3, r3, p4⟩ : ∃ ts3, DC Try.prog false (nthC 2 cmpB) ⟨ts2, []⟩ σf ⟨.ret, ⟨ts3, []⟩, σf, []⟩ ∧ lget ts3 4 = .int .i64 (-1) := by
    refine ⟨_, runs Orc.none_ok 60 nobt (by kernel_rfl) (by simp only [go_sem, seval, if_pos rfl, nthC, cmpB, Option.getD, lget_put, lgetq_put, List.length_set, p2, p3, p5, p6, l2, gf1, gf2, s1, s2', Try.f20, Try.underlying2, info2, Try.t2, Try.underlying3, info3, Try.t3, Try.underlying4, info4, Try.t4, Try.underlying23, info23, Try.t23, Try.underlying24, info24, Try.t24, Try.underlying112, info112, Try.t112, Try.underlying115, info115, Try.t115, Try.underlying154, info154, Try.t154] <;> rfl), ?_⟩
    simp only [lget_put, List.length_set, l2, Nat.reduceEqDiff, Nat.reduceLT, if_true, if_false]
   have hr : cmpR n₁ d₁ n₂ d₂ = -1 := by
    have h1 : n₁ * d₂ < 0 := Int.mul_neg_of_neg_of_pos s1 (by omega)
    have h2 : 0 ≤ n₂ * d₁ := Int.mul_nonneg s2' (by omega)
    unfold cmpR
    repeat' split
    all_goals omega
   rw [hr]
   refine DCall.forget (σ' := σf) (callsD Try.func20 (rfl : Try.f20.body = some cmpB) (h0 ▸ DC.seq r1 rfl (DC.seq r2 rfl (DC.seq_out r3 rfl))) ?_ rfl rfl) rfl
   simp only [endsA, Try.f20, resA, resList, resOne, p4, Option.map, RR.pre]
 ·have s1' : 0 ≤ n₁ := by omega
  by_cases s2 : n₂ < 0
  ·obtain ⟨ts3, r3, p4⟩ : ∃ ts3, DC Try.prog false (nthC 2 cmpB) ⟨ts2, []⟩ σf ⟨.ret, ⟨ts3, []⟩, σf, []⟩ ∧ lget ts3 4 = .int .i64 1 := by
    refine ⟨_, runs Orc.none_ok 60 nobt (by kernel_rfl) (by simp only [go_sem, seval, if_pos rfl, nthC, cmpB, Option.getD, lget_put, lgetq_put, List.length_set, p2, p3, p5, p6, l2, gf1, gf2, s1, s1', s2, Try.f20, Try.underlying2, info2, Try.t2, Try.underlying3, info3, Try.t3, Try.underlying4, info4, Try.t4, Try.underlying23, info23, Try.t23, Try.underlying24, info24, Try.t24, Try.underlying112, info112, Try.t112, Try.underlying115, info115, Try.t115, Try.underlying154, info154, Try.t154] <;> rfl), ?_⟩
    simp only [lget_put, List.length_set, l2, Nat.reduceEqDiff, Nat.reduceLT, if_true, if_false]
   have hr : cmpR n₁ d₁ n₂ d₂ = 1 := by
    have h1 : n₂ * d₁ < 0 := Int.mul_neg_of_neg_of_pos s2 (by omega)
    have h2 : 0 ≤ n₁ * d₂ := Int.mul_nonneg s1' (by omega)
    unfold cmpR
    repeat' split
    all_goals omega
   rw [hr]
   refine DCall.forget (σ' := σf) (callsD Try.func20 (rfl : Try.f20.body = some cmpB) (h0 ▸ DC.seq r1 rfl (DC.seq r2 rfl (DC.seq_out r3 rfl))) ?_ rfl rfl) rfl
   simp only [endsA, Try.f20, resA, resList, resOne, p4, Option.map, RR.pre]
  ·obtain ⟨ts3, r3, l3, t5, t6⟩ : ∃ ts3, DC Try.prog false (nthC 2 cmpB) ⟨ts2, []⟩ σf ⟨.norm, ⟨ts3, []⟩, σf, []⟩ ∧ ts3.length = 55 ∧ lget ts3 5 = vc ∧ lget ts3 6 = vf := by
    refine ⟨_, runs Orc.none_ok 60 nobt (by kernel_rfl) (by simp only [go_sem, seval, if_pos rfl, nthC, cmpB, Option.getD, lget_put, lgetq_put, List.length_set, p2, p3, p5, p6, l2, gf1, gf2, s1, s1', s2, Try.f20, Try.underlying2, info2, Try.t2, Try.underlying3, info3, Try.t3, Try.underlying4, info4, Try.t4, Try.underlying23, info23, Try.t23, Try.underlying24, info24, Try.t24, Try.underlying112, info112, Try.t112, Try.underlying115, info115, Try.t115, Try.underlying154, info154, Try.t154] <;> rfl), ?_, ?_, ?_⟩ <;> simp only [lget_put, List.length_set, p5, p6, l2, Nat.reduceEqDiff, Nat.reduceLT, if_true, if_false]
   refine tail vc vf X Y ts3 _ dXY dYX r3 l3 t5 t6 ?_
   rw [if_neg s1, if_neg s2] at hcmp
   unfold cmpR
   repeat' split
   all_goals omega
end Go.Ab
namespace Go.Ab
open Go.Proofs
def q2 : FuncId → List Value → Option Value
 | 116, [.agg ⟨[.int .i64 n, .int .i64 d]⟩] => if okI n && okI d then some (.bool (decide (chk n d))) else none
 | 20, [.agg ⟨[.int .i64 n₁, .int .i64 d₁]⟩, .agg ⟨[.int .i64 n₂, .int .i64 d₂]⟩] => if okR n₁ d₁ && okR n₂ d₂ then some (.int .i64 (cmpR n₁ d₁ n₂ d₂)) else none
 | f, args => q1 f args
theorem q2_is : ∀ f args v, q2 f args = some v → ∀ σ, DCall Try.prog f args σ (.ret v) σ [] := fun f args v h σ => by
 unfold q2 at h
 split at h
 ·split at h
  ·rename_i hn
   rw [Bool.and_eq_true] at hn
   cases h
   exact right_call _ _ σ hn.1 hn.2
  ·cases h
 ·split at h
  ·rename_i hn
   rw [Bool.and_eq_true] at hn
   cases h
   have h1 := hn.1
   have h2 := hn.2
   simp only [okR, Bool.and_eq_true, decide_eq_true_eq] at h1 h2
   exact cmpB_call _ _ _ _ σ h1.1.1 h1.1.2 h2.1.1 h2.1.2 h1.2.1 h2.2.1
  ·cases h
 ·exact q1_is f args v h σ
theorem q2_ok : (pureO q2).Ok Try.prog := pureO_ok q2_is
theorem mayH_call (id n d : Int) (σ : St) (hn : okI n = true) (hd : okI d = true) : DCall Try.prog 82 [.int .i64 id, .agg ⟨[.int .i64 n, .int .i64 d]⟩] σ (.ret (.bool (decide (0 ≤ id) && decide (id ≤ 4611686018427387904) && decide (chk n d)))) σ [] := by
 have g1 : (σ.new (.cells [.int .i64 n, .int .i64 d] false)).get σ.next = some (.cells [.int .i64 n, .int .i64 d] false) := by rw [St.get_new, if_pos rfl]
 refine DCall.forget (σ' := σ.new (.cells [.int .i64 n, .int .i64 d] false)) ?_ rfl
 refine callsL q2_ok Try.func82 rfl 40 nobt (by kernel_rfl) ?_
 have fin : ∀ c, c < σ.next → (σ.new (.cells [.int .i64 n, .int .i64 d] false)).get c = σ.get c := fun c hc => by rw [St.get_new, if_neg (by omega)]
 by_cases r1 : 0 ≤ id
 ·by_cases r2 : id ≤ 4611686018427387904
  ·by_cases r3 : chk n d
   ·exact ⟨_, by simp only [go_sem, seval, if_pos rfl, q2, r1, r2, r3, hn, hd, Try.f82, Try.underlying2, info2, Try.t2, Try.underlying3, info3, Try.t3, Try.underlying4, info4, Try.t4, Try.underlying23, info23, Try.t23, Try.underlying24, info24, Try.t24, body116] <;> rfl, by simp only [go_sem, seval, if_pos rfl, r1, r2, r3, Try.f82], rfl, fin⟩
   ·exact ⟨_, by simp only [go_sem, seval, if_pos rfl, q2, r1, r2, r3, hn, hd, Try.f82, Try.underlying2, info2, Try.t2, Try.underlying3, info3, Try.t3, Try.underlying4, info4, Try.t4, Try.underlying23, info23, Try.t23, Try.underlying24, info24, Try.t24, body116] <;> rfl, by simp only [go_sem, seval, if_pos rfl, r1, r2, r3, Try.f82], rfl, fin⟩
  ·exact ⟨_, by simp only [go_sem, seval, if_pos rfl, q2, r1, r2, hn, hd, Try.f82, Try.underlying2, info2, Try.t2, Try.underlying3, info3, Try.t3, Try.underlying4, info4, Try.t4, Try.underlying23, info23, Try.t23, Try.underlying24, info24, Try.t24, body116] <;> rfl, by simp only [go_sem, seval, if_pos rfl, r1, r2, Try.f82], rfl, fin⟩
 ·exact ⟨_, by simp only [go_sem, seval, if_pos rfl, q2, r1, hn, hd, Try.f82, Try.underlying2, info2, Try.t2, Try.underlying3, info3, Try.t3, Try.underlying4, info4, Try.t4, Try.underlying23, info23, Try.t23, Try.underlying24, info24, Try.t24, body116] <;> rfl, by simp only [go_sem, seval, if_pos rfl, r1, Try.f82], rfl, fin⟩
end Go.Ab
namespace Go.Ab
open Go.Proofs
def mayB (id n d : Int) : Bool := decide (0 ≤ id) && decide (id ≤ 4611686018427387904) && decide (chk n d)
def q3 : FuncId → List Value → Option Value
 | 82, [.int .i64 id, .agg ⟨[.int .i64 n, .int .i64 d]⟩] => if okI n && okI d then some (.bool (mayB id n d)) else none
 | 30, [.agg ⟨[.slice none 0 0, .int .i64 0]⟩, .int .i64 _] => some (.int .i64 (-1))
 | f, args => q2 f args
theorem append_none (σ : St) : opAppend (cP Try.prog).T σ 37 37 (.slice none 0 0) (.slice none 0 0) = some (.val (.slice none 0 0) []) := by
 have h37 : (cP Try.prog).T.und 37 = some (.slice 31) := (cx_und 37).trans Try.underlying37
 have h31 : (cP Try.prog).T.info 31 = some Try.t31 := (cx_info 31).trans info31
 simp only [opAppend, h37, h31, srcLen, Try.t31, srcCells]
 simp [isSeqD, oneCells, plain, plainL, vcells]
theorem append_no_more (σ : St) (b : Nat) : opAppend (cP Try.prog).T σ 37 37 (.slice (some ⟨b, 0, some 6⟩) 1 1) (.slice none 0 0) = some (.val (.slice (some ⟨b, 0, some 6⟩) 1 1) []) := by
 have h37 : (cP Try.prog).T.und 37 = some (.slice 31) := (cx_und 37).trans Try.underlying37
 have h31 : (cP Try.prog).T.info 31 = some Try.t31 := (cx_info 31).trans info31
 simp only [opAppend, h37, h31, srcLen, Try.t31, srcCells]
 simp [isSeqD, oneCells, plain, plainL, vcells]
end Go.Ab
namespace Go.Ab
variable {P : Program}
def callX (P : Program) (f : FuncId) (args : List Value) (σ : St) (K : AE → St → Log → Prop) : Prop := ∃ e σ' l, DCall P f args σ e σ' l ∧ K e σ' l
def roundX (P : Program) (r : Nat) (args : List Value) (σ : St) (K : AE → St → Log → Prop) : Prop := ∃ e σ' l, DRound P r args σ e σ' l ∧ K e σ' l
structure PureTab (P : Program) where
 get : FuncId → List Value → Option Value
 ok : ∀ f args v, get f args = some v → ∀ σ, DCall P f args σ (.ret v) σ []
def callO (P : Program) (f : FuncId) (args : List Value) (σ : St) (K : AE → St → Log → Prop) : Option Value → Prop
 | some v => K (.ret v) σ []
 | none => callX P f args σ K
def callW (p : PureTab P) (f : FuncId) (args : List Value) (σ : St) (K : AE → St → Log → Prop) : Prop := callO P f args σ K (p.get f args)
theorem callW.sound {p : PureTab P} {f : FuncId} {args : List Value} {σ : St} {K : AE → St → Log → Prop} (h : callW p f args σ K) : callX P f args σ K := by
 unfold callW at h
 cases hp : p.get f args with
 | some v => rw [hp] at h; exact ⟨_, _, _, p.ok f args v hp σ, h⟩
 | none => rw [hp] at h; exact h
theorem callX.of {f : FuncId} {args : List Value} {σ σ' : St} {e : AE} {l : Log} {K : AE → St → Log → Prop} (d : DCall P f args σ e σ' l) (k : K e σ' l) : callX P f args σ K := ⟨_, _, _, d, k⟩
theorem callX.use {f : FuncId} {args : List Value} {σ : St} {K K' : AE → St → Log → Prop} (d : callX P f args σ K') (k : ∀ e σ' l, Logged σ σ' l → K' e σ' l → K e σ' l) : callX P f args σ K :=
 let ⟨e, σ', l, h, h'⟩ := d
 ⟨e, σ', l, h, k e σ' l h.1 h'⟩
def retW (fr : Fr) (dst : Option Tmp) (lg : Log) (k : Fr → St → Log → Prop) (Q : RR → Prop) : AE → St → Log → Prop
 | .ret v, σ', l => k (fr.put dst v) σ' (lg ++ l)
 | .panic c, σ', l => Q ⟨.panic c, fr, σ', lg ++ l⟩
def opsW (p : PureTab P) (rnd : Bool) (dst : Option Tmp) (fr : Fr) (σ : St) (lg : Log) (k : Fr → St → Log → Prop) (Q : RR → Prop) : Option ORes → Prop
 | some (.val v _) => k (fr.put dst v) σ lg
 | some (.new ob v _) => k (fr.put dst v) (σ.new ob) lg
 | some (.eff v σ' l) => k (fr.put dst v) σ' (lg ++ l)
 | some (.panic v) => Q ⟨.panic [{ v, recovered := false }], fr, σ, lg⟩
 | some (.enter f args) => callW p f args σ (retW fr dst lg k Q)
 | some (.round r args) => roundX P r args σ (retW fr dst lg k Q)
 | some (.defer d) => rnd = false ∧ k ({ fr with ds := d :: fr.ds }.put dst undef) σ lg
 | _ => False
def wOps (C : Cx) (p : PureTab P) (rnd : Bool) (ops : List Oper) (Q : RR → Prop) : List Oper → Fr → St → Log → Prop
 | [], fr, σ, lg => Q ⟨.norm, fr, σ, lg⟩
 | o :: rest, fr, σ, lg => opsW p rnd o.dst fr σ lg (wOps C p rnd ops Q rest) Q (wantK C.T C.bodies o fr.ts σ (wantedA ops o fr.ts))
theorem wOps_sound {C : Cx} {p : PureTab P} {rnd : Bool} {ops : List Oper} {Q : RR → Prop} : ∀ (rest : List Oper) (fr : Fr) (σ : St) (lg : Log), wOps C p rnd ops Q rest fr σ lg →
  ∃ x fr' σ' l, OpsR P C rnd ops rest fr σ x fr' σ' l ∧ Q ⟨x, fr', σ', lg ++ l⟩ := by
 intro rest
 induction rest with
 | nil => intro fr σ lg h; exact ⟨_, _, _, _, .nil, by simpa [wOps] using h⟩
 | cons o rest ih =>
  intro fr σ lg h
  simp only [wOps] at h
  cases hw : wantedA ops o fr.ts with
  | false =>
   rw [hw] at h
   obtain ⟨x, fr', σ', l, h1, h2⟩ := ih _ _ _ h
   exact ⟨_, _, _, _, .skip hw h1, h2⟩
  | true =>
   rw [hw] at h
   simp only [wantK] at h
   unfold opsW at h
   split at h
   ·rename_i hs
    obtain ⟨x, fr', σ', l, h1, h2⟩ := ih _ _ _ h
    exact ⟨_, _, _, _, .val hw hs h1, h2⟩
   ·rename_i hs
    obtain ⟨x, fr', σ', l, h1, h2⟩ := ih _ _ _ h
    exact ⟨_, _, _, _, .new hw hs h1, h2⟩
   ·rename_i hs
    obtain ⟨x, fr', σ', l, h1, h2⟩ := ih _ _ _ h
    exact ⟨_, _, _, _, .eff hw hs h1, by rw [← List.append_assoc]; exact h2⟩
   ·rename_i hs
    exact ⟨_, _, _, _, .panic hw hs, by simpa using h⟩
   ·rename_i hs
    obtain ⟨e, σ₁, l₁, hc, hk⟩ := h.sound
    cases e with
    | ret v =>
     obtain ⟨x, fr', σ', l, h1, h2⟩ := ih _ _ _ hk
     exact ⟨_, _, _, _, .call hw hs hc h1, by rw [← List.append_assoc]; exact h2⟩
    | panic c => exact ⟨_, _, _, _, .callP hw hs hc, hk⟩
   ·rename_i hs
    obtain ⟨e, σ₁, l₁, hc, hk⟩ := h
    cases e with
    | ret v =>
     obtain ⟨x, fr', σ', l, h1, h2⟩ := ih _ _ _ hk
     exact ⟨_, _, _, _, .round hw hs hc h1, by rw [← List.append_assoc]; exact h2⟩
    | panic c => exact ⟨_, _, _, _, .roundP hw hs hc, hk⟩
   ·rename_i hs
    obtain ⟨x, fr', σ', l, h1, h2⟩ := ih _ _ _ h.2
    exact ⟨_, _, _, _, .defer hw h.1 hs h1, h2⟩
   ·exact h.elim
abbrev Loud := List (Nat × SK × Nat × Nat)
abbrev DK := List Value → St → Log → Loud → Prop
def loudOne (k : Nat) (kd : SK) (lo hi : Nat) : Loud := if quietK kd then [] else [(k, kd, lo, hi)]
def retD (kn : Nat) (σ : St) (dst : Option Tmp) (ts : List Value) (acc : Loud) (lg : Log) (k : DK) : AE → St → Log → Prop
 | .ret v, σ', l => k (putL ts dst v) σ' (lg ++ l) (acc ++ [(kn, .full l, σ.next, σ'.next)])
 | .panic _, _, _ => False
def drawnW (p : PureTab P) (kn : Nat) (dst : Option Tmp) (ts : List Value) (σ : St) (acc : Loud) (lg : Log) (k : DK) : Option ORes → Prop
 | some (.val v rd) => k (putL ts dst v) σ lg (acc ++ loudOne kn (.pure rd) σ.next σ.next)
 | some (.new ob v rd) => k (putL ts dst v) (σ.new ob) lg (acc ++ [(kn, .alloc ob rd, σ.next, σ.next + 1)])
 | some (.eff v σ' l) => k (putL ts dst v) σ' (lg ++ l) (acc ++ [(kn, .full l, σ.next, σ'.next)])
 | some (.enter f args) => callW p f args σ (retD kn σ dst ts acc lg k)
 | _ => False
def wDrawn (C : Cx) (p : PureTab P) (ops : List Oper) (K : DK) : List Oper → Nat → List Value → St → Log → Loud → Prop
 | [], _, ts, σ, lg, acc => K ts σ lg acc
 | o :: rest, kn, ts, σ, lg, acc => drawnW p kn o.dst ts σ acc lg (wDrawn C p ops K rest (kn + 1)) (wantK C.T C.bodies o ts σ (wantedA ops o ts))
theorem loud_cons {s : Stp} {r : Dr} {σ' : St} {k : Nat} (h : r.σAt 0 = σ') : loud (s :: r.st) r.σ k = loudOne k s.kd s.σ.next σ'.next ++ loud r.st r.σ (k + 1) := by
 have hi : (match r.st with | [] => r.σ.next | s' :: _ => s'.σ.next) = σ'.next := by
  rw [← h]
  unfold Dr.σAt
  cases r.st with
  | nil => rfl
  | cons s' l => rfl
 have hu : loud (s :: r.st) r.σ k = if quietK s.kd then loud r.st r.σ (k + 1) else (k, s.kd, s.σ.next, (match r.st with | [] => r.σ.next | s' :: _ => s'.σ.next)) :: loud r.st r.σ (k + 1) := rfl
 rw [hu, hi]
 unfold loudOne
 split <;> simp
theorem wDrawn_sound {C : Cx} {p : PureTab P} (hC : C.Ok P) {ops : List Oper} {K : DK} : ∀ (rest : List Oper) (kn : Nat) (ts : List Value) (σ : St) (lg : Log) (acc : Loud), wDrawn C p ops K rest kn ts σ lg acc →
  ∃ r : Dr, Chain P C ops rest ts σ r ∧ K r.ts r.σ (lg ++ r.lg) (acc ++ loud r.st r.σ kn) := by
 intro rest
 induction rest with
 | nil =>
  intro kn ts σ lg acc h
  exact ⟨⟨[], ts, σ, []⟩, ⟨rfl, rfl, rfl, fun k o h => by simp at h, logged_self _ _⟩, by simpa [loud, wDrawn] using h⟩
 | cons o rest ih =>
  intro kn ts σ lg acc h
  simp only [wDrawn] at h
  cases hw : wantedA ops o ts with
  | false =>
   rw [hw] at h
   obtain ⟨r, h1, h2⟩ := ih _ _ _ _ _ h
   refine ⟨_, Chain.cons (s := ⟨ts, σ, undef, .pure []⟩) (l := []) h1 rfl rfl (.skip hw rfl rfl rfl) (logged_self _ _), ?_⟩
   show K r.ts r.σ (lg ++ ([] ++ r.lg)) (acc ++ loud (_ :: r.st) r.σ kn)
   rw [loud_cons h1.σ0, List.nil_append, ← List.append_assoc]
   exact h2
  | true =>
   rw [hw] at h
   simp only [wantK] at h
   unfold drawnW at h
   split at h
   ·rename_i v rd hs
    obtain ⟨r, h1, h2⟩ := ih _ _ _ _ _ h
    refine ⟨_, Chain.cons (s := ⟨ts, σ, v, .pure rd⟩) (l := []) h1 rfl rfl (.val hw hs rfl rfl) (logged_self _ _), ?_⟩
    show K r.ts r.σ (lg ++ ([] ++ r.lg)) (acc ++ loud (_ :: r.st) r.σ kn)
    rw [loud_cons h1.σ0, List.nil_append, ← List.append_assoc]
    exact h2
   ·rename_i ob v rd hs
    obtain ⟨r, h1, h2⟩ := ih _ _ _ _ _ h
    refine ⟨_, Chain.cons (s := ⟨ts, σ, v, .alloc ob rd⟩) (l := []) h1 rfl rfl (.new hw hs rfl rfl) (logged_new _ _), ?_⟩
    show K r.ts r.σ (lg ++ ([] ++ r.lg)) (acc ++ loud (_ :: r.st) r.σ kn)
    rw [loud_cons h1.σ0, List.nil_append, ← List.append_assoc]
    exact h2
   ·rename_i v σ' l hs
    obtain ⟨r, h1, h2⟩ := ih _ _ _ _ _ h
    refine ⟨_, Chain.cons (s := ⟨ts, σ, v, .full l⟩) h1 rfl rfl (.eff hw hs rfl) (stepOp_log hC hs), ?_⟩
    show K r.ts r.σ (lg ++ (l ++ r.lg)) (acc ++ loud (_ :: r.st) r.σ kn)
    rw [loud_cons h1.σ0, ← List.append_assoc, ← List.append_assoc]
    exact h2
   ·rename_i f args hs
    obtain ⟨e, σ', l, hc, hk⟩ := h.sound
    cases e with
    | ret v =>
     obtain ⟨r, h1, h2⟩ := ih _ _ _ _ _ hk
     refine ⟨_, Chain.cons (s := ⟨ts, σ, v, .full l⟩) h1 rfl rfl (.call hw hs hc rfl) hc.1, ?_⟩
     show K r.ts r.σ (lg ++ (l ++ r.lg)) (acc ++ loud (_ :: r.st) r.σ kn)
     rw [loud_cons h1.σ0, ← List.append_assoc, ← List.append_assoc]
     exact h2
    | panic c => exact hk.elim
   ·exact h.elim
def pairOk (bj i j : Nat) (ki kj : SK) (lo hi : Nat) : Bool := decide (j ≤ i) || bj.testBit i || !clash ki kj lo hi
def dynL (B : List Nat) (l : Loud) : Bool :=
 match l with
 | [] => true
 | [_] => true
 | _ => l.all fun (j, kj, _, _) => l.all fun (i, ki, lo, hi) => pairOk (B.getD j 0) i j ki kj lo hi
def regW (C : Cx) (p : PureTab P) (rnd draw : Bool) (B : List Nat) (ops : Array Oper) (fr : Fr) (σ : St) (Q : RR → Prop) : Prop :=
 match draw with
 | false => wOps C p rnd ops.toList Q ops.toList fr σ []
 | true => wDrawn C p ops.toList (fun ts σ' lg acc => dynL B acc = true ∧ Q ⟨.norm, { fr with ts := ts }, σ', lg⟩) ops.toList 0 fr.ts σ [] []
theorem regW_sound {C : Cx} {p : PureTab P} (hC : C.Ok P) (hm : P.follows .mixedOrders = true) {bt : Nat → List Nat} {rnd draw : Bool} {id : Nat} {ops : Array Oper} {fr : Fr} {σ : St} {Q : RR → Prop} (hs : statAll bt (.region id ops draw) = true)
  (h : regW C p rnd draw (bt id) ops fr σ Q) : ∃ r, DC P rnd (.region id ops draw) fr σ r ∧ Q r := by
 cases draw with
 | false =>
  obtain ⟨x, fr', σ', l, h1, h2⟩ := wOps_sound _ _ _ _ h
  exact ⟨_, DC.ops hC h1, h2⟩
 | true =>
  obtain ⟨r, h1, h2, h3⟩ := wDrawn_sound hC _ _ _ _ _ _ h
  exact ⟨_, DC.chain hC hm (by simpa [statAll] using hs) h1 h2, h3⟩
def preW (lg : Log) (Q : RR → Prop) (r : RR) : Prop := Q (r.pre lg)
def blockW (id : Nat) (Q : RR → Prop) (r : RR) : Prop := Q { r with x := r.x.inBlock id }
def preK (lg : Log) (K : AE → St → Log → Prop) (e : AE) (σ : St) (l : Log) : Prop := K e σ (lg ++ l)
def thenW (k : Fr → St → (RR → Prop) → Prop) (Q : RR → Prop) (r : RR) : Prop :=
 match r.x with
 | .norm => k r.fr r.σ (preW r.lg Q)
 | _ => Q r
def condW (a b : Prop) : Option Value → Prop
 | some (.bool t) => if t then a else b
 | _ => False
def loopX (P : Program) (rnd : Bool) (b : Code) (fr : Fr) (σ : St) (Q : RR → Prop) : Prop := ∃ r, DL P rnd b fr σ r ∧ Q r
def scopeX (P : Program) (rnd : Bool) (body c : Code) (fr : Fr) (σ : St) (Q : RR → Prop) : Prop := ∃ r, DS P rnd body c fr σ r ∧ Q r
def rangeX (P : Program) (rnd : Bool) (g : Operand) (ps : Array Tmp) (a b : Code) (fr : Fr) (σ : St) (Q : RR → Prop) : Prop := ∃ r, DC P rnd (.rangeFunc g ps a b) fr σ r ∧ Q r
def wp (C : Cx) (p : PureTab P) (bt : Nat → List Nat) (rnd : Bool) : Code → Fr → St → (RR → Prop) → Prop
 | .skip, fr, σ, Q => Q ⟨.norm, fr, σ, []⟩
 | .label _, fr, σ, Q => Q ⟨.norm, fr, σ, []⟩
 | .exit i, fr, σ, Q => Q ⟨.exit i, fr, σ, []⟩
 | .goto i, fr, σ, Q => Q ⟨.goto i, fr, σ, []⟩
 | .ret, fr, σ, Q => Q ⟨.ret, fr, σ, []⟩
 | .seq a b, fr, σ, Q => wp C p bt rnd a fr σ (thenW (wp C p bt rnd b) Q)
 | .cond c a b, fr, σ, Q => condW (wp C p bt rnd a fr σ Q) (wp C p bt rnd b fr σ Q) (ev fr.ts c)
 | .block id b, fr, σ, Q => wp C p bt rnd b fr σ (blockW id Q)
 | .region id ops draw, fr, σ, Q => regW C p rnd draw (bt id) ops fr σ Q
 | .loop b, fr, σ, Q => loopX P rnd b fr σ Q
 | .scope b, fr, σ, Q => scopeX P rnd b b fr σ Q
 | .rangeFunc g ps a b, fr, σ, Q => rangeX P rnd g ps a b fr σ Q
 | _, _, _, _ => False
theorem wp_sound {C : Cx} {p : PureTab P} (hC : C.Ok P) (hm : P.follows .mixedOrders = true) {bt : Nat → List Nat} {rnd : Bool} : ∀ (c : Code) (fr : Fr) (σ : St) (Q : RR → Prop), statAll bt c = true → wp C p bt rnd c fr σ Q → ∃ r, DC P rnd c fr σ r ∧ Q r := by
 intro c
 induction c with
 | skip => intro fr σ Q _ h; exact ⟨_, DC.skip _ _ _, h⟩
 | label l => intro fr σ Q _ h; exact ⟨_, DC.label _ _ _ _, h⟩
 | exit i => intro fr σ Q _ h; exact ⟨_, DC.exit _ _ _ _, h⟩
 | goto i => intro fr σ Q _ h; exact ⟨_, DC.goto _ _ _ _, h⟩
 | ret => intro fr σ Q _ h; exact ⟨_, DC.ret _ _ _, h⟩
 | seq a b iha ihb =>
  intro fr σ Q hs h
  simp only [statAll, Bool.and_eq_true] at hs
  obtain ⟨r, h1, h2⟩ := iha _ _ _ hs.1 h
  unfold thenW at h2
  cases hx : r.x with
  | norm =>
   rw [hx] at h2
   obtain ⟨r', h3, h4⟩ := ihb _ _ _ hs.2 h2
   exact ⟨_, DC.seq h1 hx h3, h4⟩
  | exit i => rw [hx] at h2; exact ⟨_, DC.seq_out h1 (by rw [hx]; rfl), h2⟩
  | goto i => rw [hx] at h2; exact ⟨_, DC.seq_out h1 (by rw [hx]; rfl), h2⟩
  | ret => rw [hx] at h2; exact ⟨_, DC.seq_out h1 (by rw [hx]; rfl), h2⟩
  | panic ch => rw [hx] at h2; exact ⟨_, DC.seq_out h1 (by rw [hx]; rfl), h2⟩
 | cond c a b iha ihb =>
  intro fr σ Q hs h
  simp only [statAll, Bool.and_eq_true] at hs
  simp only [wp] at h
  unfold condW at h
  split at h
  ·rename_i t hc
   cases t with
   | true =>
    obtain ⟨r, h1, h2⟩ := iha _ _ _ hs.1 (by simpa using h)
    exact ⟨r, DC.cond (t := true) hc h1, h2⟩
   | false =>
    obtain ⟨r, h1, h2⟩ := ihb _ _ _ hs.2 (by simpa using h)
    exact ⟨r, DC.cond (t := false) hc h1, h2⟩
  ·exact h.elim
 | block id b ih =>
  intro fr σ Q hs h
  obtain ⟨r, h1, h2⟩ := ih _ _ _ hs h
  exact ⟨_, DC.block h1, h2⟩
 | region id ops draw => intro fr σ Q hs h; exact regW_sound hC hm hs h
 | loop b => intro fr σ Q _ h; obtain ⟨r, h1, h2⟩ := h; exact ⟨r, DC.loop h1, h2⟩
 | scope b => intro fr σ Q _ h; obtain ⟨r, h1, h2⟩ := h; exact ⟨r, DC.scope h1, h2⟩
 | rangeFunc g ps a b => intro fr σ Q _ h; exact h
 | _ => intro fr σ Q _ h; exact h.elim
theorem loopX.step {C : Cx} {p : PureTab P} (hC : C.Ok P) (hm : P.follows .mixedOrders = true) {bt : Nat → List Nat} {rnd : Bool} {b : Code} {fr : Fr} {σ : St} {Q : RR → Prop} (hs : statAll bt b = true)
  (h : wp C p bt rnd b fr σ (thenW (loopX P rnd b) Q)) : loopX P rnd b fr σ Q := by
 obtain ⟨r, h1, h2⟩ := wp_sound hC hm b fr σ _ hs h
 unfold thenW at h2
 cases hx : r.x with
 | norm =>
  rw [hx] at h2
  obtain ⟨r', h3, h4⟩ := h2
  exact ⟨_, DL.next h1 hx h3, h4⟩
 | exit i => rw [hx] at h2; exact ⟨_, DL.out h1 (by rw [hx]; rfl), h2⟩
 | goto i => rw [hx] at h2; exact ⟨_, DL.out h1 (by rw [hx]; rfl), h2⟩
 | ret => rw [hx] at h2; exact ⟨_, DL.out h1 (by rw [hx]; rfl), h2⟩
 | panic ch => rw [hx] at h2; exact ⟨_, DL.out h1 (by rw [hx]; rfl), h2⟩
theorem loopX.mono {rnd : Bool} {b : Code} {fr : Fr} {σ : St} {Q Q' : RR → Prop} (h : loopX P rnd b fr σ Q) (k : ∀ r, Logged σ r.σ r.lg → Q r → Q' r) : loopX P rnd b fr σ Q' :=
 let ⟨r, h1, h2⟩ := h
 ⟨r, h1, k r h1.1 h2⟩
def scopeW (P : Program) (rnd : Bool) (body : Code) (Q : RR → Prop) (r : RR) : Prop :=
 match r.x with
 | .goto l => match findLabel body l with
  | some rest => scopeX P rnd body rest r.fr r.σ (preW r.lg Q)
  | none => Q r
 | _ => Q r
def endW (C : Cx) (rs : List ResultVar) (K : AE → St → Log → Prop) (r : RR) : Prop :=
 match endsA C.T rs r with
 | some e => K e r.σ r.lg
 | none => False
theorem callX.enter {C : Cx} {p : PureTab P} (hC : C.Ok P) (hm : P.follows .mixedOrders = true) {bt : Nat → List Nat} {f : FuncId} {fn : Func} {c : Code} {args : List Value} {σ : St} {K : AE → St → Log → Prop}
  (hf : P.funcs[f]? = some fn) (hb : fn.body = some c) (hs : statAll bt c = true) (h : wp C p bt false c (start args fn.ntmps) σ (endW C fn.results.toList K)) : callX P f args σ K := by
 obtain ⟨r, h1, h2⟩ := wp_sound hC hm c _ _ _ hs h
 unfold endW at h2
 split at h2
 ·rename_i e he
  exact ⟨_, _, _, DCall.of_code hC.T ⟨hf, hb⟩ h1 he, h2⟩
 ·exact h2.elim
def leaveX (P : Program) (fn : Func) (ts : List Value) (ds : List Deferred) (u : AM) (σ : St) (K : AE → St → Log → Prop) : Prop := ∃ e σ' l, DLeave P fn ts ds u σ e σ' l ∧ K e σ' l
theorem leaveX.ret {C : Cx} (hC : C.Ok P) {fn : Func} {ts : List Value} {σ : St} {v : Value} {K : AE → St → Log → Prop} (h : resA C.T σ ts fn.results.toList = some v) (k : K (.ret v) σ []) : leaveX P fn ts [] .returning σ K := ⟨_, _, _, DLeave.returned hC.T h, k⟩
def leaveK (P : Program) (fn : Func) (ts : List Value) (ds : List Deferred) (K : AE → St → Log → Prop) (e : AE) (u : AM) (σ : St) (l : Log) : Prop :=
 match nextMode e u with
 | some u₂ => leaveX P fn ts ds u₂ σ (preK l K)
 | none => False
def endD (P : Program) (C : Cx) (fn : Func) (K : AE → St → Log → Prop) (r : RR) : Prop :=
 match modeOf r.x with
 | some u => leaveX P fn r.fr.ts r.fr.ds u r.σ (preK r.lg K)
 | none => False
theorem callX.enterD {C : Cx} {p : PureTab P} (hC : C.Ok P) (hm : P.follows .mixedOrders = true) {bt : Nat → List Nat} {f : FuncId} {fn : Func} {c : Code} {args : List Value} {σ : St} {K : AE → St → Log → Prop}
  (hf : P.funcs[f]? = some fn) (hb : fn.body = some c) (hs : statAll bt c = true) (h : wp C p bt false c (start args fn.ntmps) σ (endD P C fn K)) : callX P f args σ K := by
 obtain ⟨r, h1, h2⟩ := wp_sound hC hm c _ _ _ hs h
 unfold endD at h2
 split at h2
 ·rename_i u hu
  obtain ⟨e, σ', l, h3, h4⟩ := h2
  refine ⟨_, _, _, DCall.of_code_defers ⟨hf, hb⟩ h1 ?_ h3, h4⟩
  unfold modeOf at hu
  split at hu <;> cases hu <;> simp_all
 ·exact h2.elim
section eqs
variable {C : Cx} {p : PureTab P} {bt : Nat → List Nat} {rnd : Bool} {fr : Fr} {σ : St} {Q : RR → Prop}
theorem wp_skip : wp C p bt rnd .skip fr σ Q = Q ⟨.norm, fr, σ, []⟩ := (rfl)
theorem wp_label {l : Nat} : wp C p bt rnd (.label l) fr σ Q = Q ⟨.norm, fr, σ, []⟩ := (rfl)
theorem wp_exit {i : Nat} : wp C p bt rnd (.exit i) fr σ Q = Q ⟨.exit i, fr, σ, []⟩ := (rfl)
theorem wp_goto {i : Nat} : wp C p bt rnd (.goto i) fr σ Q = Q ⟨.goto i, fr, σ, []⟩ := (rfl)
theorem wp_ret : wp C p bt rnd .ret fr σ Q = Q ⟨.ret, fr, σ, []⟩ := (rfl)
theorem wp_seq {a b : Code} : wp C p bt rnd (.seq a b) fr σ Q = wp C p bt rnd a fr σ (thenW (wp C p bt rnd b) Q) := (rfl)
theorem wp_cond {c : Operand} {a b : Code} : wp C p bt rnd (.cond c a b) fr σ Q = condW (wp C p bt rnd a fr σ Q) (wp C p bt rnd b fr σ Q) (ev fr.ts c) := (rfl)
theorem wp_block {id : Nat} {b : Code} : wp C p bt rnd (.block id b) fr σ Q = wp C p bt rnd b fr σ (blockW id Q) := (rfl)
theorem wp_ops {id : Nat} {ops : List Oper} : wp C p bt rnd (.region id ⟨ops⟩ false) fr σ Q = wOps C p rnd ops Q ops fr σ [] := (rfl)
theorem wp_drawn {id : Nat} {ops : List Oper} : wp C p bt rnd (.region id ⟨ops⟩ true) fr σ Q = wDrawn C p ops (fun ts σ' lg acc => dynL (bt id) acc = true ∧ Q ⟨.norm, { fr with ts := ts }, σ', lg⟩) ops 0 fr.ts σ [] [] := (rfl)
theorem wp_loop {b : Code} : wp C p bt rnd (.loop b) fr σ Q = loopX P rnd b fr σ Q := (rfl)
theorem wp_scope {b : Code} : wp C p bt rnd (.scope b) fr σ Q = scopeX P rnd b b fr σ Q := (rfl)
theorem wp_range {g : Operand} {ps : Array Tmp} {a b : Code} : wp C p bt rnd (.rangeFunc g ps a b) fr σ Q = rangeX P rnd g ps a b fr σ Q := (rfl)
theorem wOps_nil {ops : List Oper} {lg : Log} : wOps C p rnd ops Q [] fr σ lg = Q ⟨.norm, fr, σ, lg⟩ := (rfl)
theorem wOps_cons {ops rest : List Oper} {o : Oper} {lg : Log} : wOps C p rnd ops Q (o :: rest) fr σ lg = opsW p rnd o.dst fr σ lg (wOps C p rnd ops Q rest) Q (wantK C.T C.bodies o fr.ts σ (wantedA ops o fr.ts)) := (rfl)
theorem wDrawn_nil {ops : List Oper} {K : DK} {kn : Nat} {ts : List Value} {lg : Log} {acc : Loud} : wDrawn C p ops K [] kn ts σ lg acc = K ts σ lg acc := (rfl)
theorem wDrawn_cons {ops rest : List Oper} {o : Oper} {K : DK} {kn : Nat} {ts : List Value} {lg : Log} {acc : Loud} : wDrawn C p ops K (o :: rest) kn ts σ lg acc = drawnW p kn o.dst ts σ acc lg (wDrawn C p ops K rest (kn + 1)) (wantK C.T C.bodies o ts σ (wantedA ops o ts)) := (rfl)
theorem wp_congr {c : Code} {fr' : Fr} {σ' : St} (h : fr = fr') (h' : σ = σ') : wp C p bt rnd c fr σ Q = wp C p bt rnd c fr' σ' Q := by rw [h, h']
theorem wOps_congr {ops rest : List Oper} {fr' : Fr} {σ' : St} {lg lg' : Log} (h : fr = fr') (h' : σ = σ') (h2 : lg = lg') : wOps C p rnd ops Q rest fr σ lg = wOps C p rnd ops Q rest fr' σ' lg' := by rw [h, h', h2]
theorem opsW_congr {dst : Option Tmp} {lg : Log} {k : Fr → St → Log → Prop} {o o' : Option ORes} (h : o = o') : opsW p rnd dst fr σ lg k Q o = opsW p rnd dst fr σ lg k Q o' := by rw [h]
theorem wDrawn_congr {ops rest : List Oper} {K : DK} {kn kn' : Nat} {ts ts' : List Value} {σ' : St} {lg lg' : Log} {acc acc' : Loud} (h0 : kn = kn') (h : ts = ts') (h' : σ = σ') (h2 : lg = lg') (h3 : acc = acc') : wDrawn C p ops K rest kn ts σ lg acc = wDrawn C p ops K rest kn' ts' σ' lg' acc' := by rw [h0, h, h', h2, h3]
theorem drawnW_congr {kn : Nat} {dst : Option Tmp} {ts : List Value} {acc : Loud} {lg : Log} {k : DK} {o o' : Option ORes} (h : o = o') : drawnW p kn dst ts σ acc lg k o = drawnW p kn dst ts σ acc lg k o' := by rw [h]
theorem condW_congr {a b : Prop} {o o' : Option Value} (h : o = o') : condW a b o = condW a b o' := by rw [h]
theorem condW_true {a b : Prop} : condW a b (some (.bool true)) = a := (rfl)
theorem condW_false {a b : Prop} : condW a b (some (.bool false)) = b := (rfl)
theorem condW_dec {a b c : Prop} [Decidable c] : condW a b (some (.bool (decide c))) = if c then a else b := by
 by_cases h : c <;> simp [condW, h]
theorem thenW_norm {k : Fr → St → (RR → Prop) → Prop} {lg : Log} : thenW k Q ⟨.norm, fr, σ, lg⟩ = k fr σ (preW lg Q) := (rfl)
theorem thenW_exit {k : Fr → St → (RR → Prop) → Prop} {lg : Log} {i : Nat} : thenW k Q ⟨.exit i, fr, σ, lg⟩ = Q ⟨.exit i, fr, σ, lg⟩ := (rfl)
theorem thenW_goto {k : Fr → St → (RR → Prop) → Prop} {lg : Log} {i : Nat} : thenW k Q ⟨.goto i, fr, σ, lg⟩ = Q ⟨.goto i, fr, σ, lg⟩ := (rfl)
theorem thenW_ret {k : Fr → St → (RR → Prop) → Prop} {lg : Log} : thenW k Q ⟨.ret, fr, σ, lg⟩ = Q ⟨.ret, fr, σ, lg⟩ := (rfl)
theorem thenW_panic {k : Fr → St → (RR → Prop) → Prop} {lg : Log} {c : List PanicEntry} : thenW k Q ⟨.panic c, fr, σ, lg⟩ = Q ⟨.panic c, fr, σ, lg⟩ := (rfl)
theorem retW_ret {dst : Option Tmp} {lg l : Log} {k : Fr → St → Log → Prop} {v : Value} : retW fr dst lg k Q (.ret v) σ l = k (fr.put dst v) σ (lg ++ l) := (rfl)
theorem retW_panic {dst : Option Tmp} {lg l : Log} {k : Fr → St → Log → Prop} {c : List PanicEntry} : retW fr dst lg k Q (.panic c) σ l = Q ⟨.panic c, fr, σ, lg ++ l⟩ := (rfl)
theorem opsW_val {dst : Option Tmp} {lg : Log} {k : Fr → St → Log → Prop} {v : Value} {rd : List Nat} : opsW p rnd dst fr σ lg k Q (some (.val v rd)) = k (fr.put dst v) σ lg := (rfl)
theorem opsW_new {dst : Option Tmp} {lg : Log} {k : Fr → St → Log → Prop} {v : Value} {ob : AObj} {rd : List Nat} : opsW p rnd dst fr σ lg k Q (some (.new ob v rd)) = k (fr.put dst v) (σ.new ob) lg := (rfl)
theorem opsW_eff {dst : Option Tmp} {lg l : Log} {k : Fr → St → Log → Prop} {v : Value} {σ' : St} : opsW p rnd dst fr σ lg k Q (some (.eff v σ' l)) = k (fr.put dst v) σ' (lg ++ l) := (rfl)
theorem opsW_panic {dst : Option Tmp} {lg : Log} {k : Fr → St → Log → Prop} {v : Value} : opsW p rnd dst fr σ lg k Q (some (.panic v)) = Q ⟨.panic [{ v, recovered := false }], fr, σ, lg⟩ := (rfl)
theorem opsW_enter {dst : Option Tmp} {lg : Log} {k : Fr → St → Log → Prop} {f : FuncId} {args : List Value} : opsW p rnd dst fr σ lg k Q (some (.enter f args)) = callW p f args σ (retW fr dst lg k Q) := (rfl)
theorem opsW_round {dst : Option Tmp} {lg : Log} {k : Fr → St → Log → Prop} {r : Nat} {args : List Value} : opsW p rnd dst fr σ lg k Q (some (.round r args)) = roundX P r args σ (retW fr dst lg k Q) := (rfl)
theorem opsW_defer {dst : Option Tmp} {lg : Log} {k : Fr → St → Log → Prop} {d : Deferred} : opsW p false dst fr σ lg k Q (some (.defer d)) = k ({ fr with ds := d :: fr.ds }.put dst undef) σ lg := by simp [opsW]
theorem retD_ret {kn : Nat} {dst : Option Tmp} {ts : List Value} {acc : Loud} {lg l : Log} {k : DK} {v : Value} {σ' : St} : retD kn σ dst ts acc lg k (.ret v) σ' l = k (putL ts dst v) σ' (lg ++ l) (acc ++ [(kn, .full l, σ.next, σ'.next)]) := (rfl)
theorem drawnW_val {kn : Nat} {dst : Option Tmp} {ts : List Value} {acc : Loud} {lg : Log} {k : DK} {v : Value} {rd : List Nat} : drawnW p kn dst ts σ acc lg k (some (.val v rd)) = k (putL ts dst v) σ lg (acc ++ loudOne kn (.pure rd) σ.next σ.next) := (rfl)
theorem drawnW_new {kn : Nat} {dst : Option Tmp} {ts : List Value} {acc : Loud} {lg : Log} {k : DK} {v : Value} {ob : AObj} {rd : List Nat} : drawnW p kn dst ts σ acc lg k (some (.new ob v rd)) = k (putL ts dst v) (σ.new ob) lg (acc ++ [(kn, .alloc ob rd, σ.next, σ.next + 1)]) := (rfl)
theorem drawnW_eff {kn : Nat} {dst : Option Tmp} {ts : List Value} {acc : Loud} {lg l : Log} {k : DK} {v : Value} {σ' : St} : drawnW p kn dst ts σ acc lg k (some (.eff v σ' l)) = k (putL ts dst v) σ' (lg ++ l) (acc ++ [(kn, .full l, σ.next, σ'.next)]) := (rfl)
theorem drawnW_enter {kn : Nat} {dst : Option Tmp} {ts : List Value} {acc : Loud} {lg : Log} {k : DK} {f : FuncId} {args : List Value} : drawnW p kn dst ts σ acc lg k (some (.enter f args)) = callW p f args σ (retD kn σ dst ts acc lg k) := (rfl)
theorem loudOne_quiet {kn lo hi : Nat} : loudOne kn (.pure []) lo hi = [] := (rfl)
theorem loudOne_pure {kn lo hi r : Nat} {rd : List Nat} : loudOne kn (.pure (r :: rd)) lo hi = [(kn, .pure (r :: rd), lo, hi)] := (rfl)
theorem callW_congr {f : FuncId} {args args' : List Value} {K : AE → St → Log → Prop} {σ' : St} (h : args = args') (h' : σ = σ') : callW p f args σ K = callW p f args' σ' K := by rw [h, h']
theorem callX_congr {f : FuncId} {args args' : List Value} {K : AE → St → Log → Prop} {σ' : St} (h : args = args') (h' : σ = σ') : callX P f args σ K = callX P f args' σ' K := by rw [h, h']
theorem callO_congr {f : FuncId} {args args' : List Value} {K : AE → St → Log → Prop} {σ' : St} {o o' : Option Value} (h : args = args') (h' : σ = σ') (h2 : o = o') : callO P f args σ K o = callO P f args' σ' K o' := by rw [h, h', h2]
theorem callO_some {f : FuncId} {args : List Value} {K : AE → St → Log → Prop} {v : Value} : callO P f args σ K (some v) = K (.ret v) σ [] := (rfl)
theorem callO_none {f : FuncId} {args : List Value} {K : AE → St → Log → Prop} : callO P f args σ K none = callX P f args σ K := (rfl)
theorem loopX_congr {b : Code} {fr' : Fr} {σ' : St} (h : fr = fr') (h' : σ = σ') : loopX P rnd b fr σ Q = loopX P rnd b fr' σ' Q := by rw [h, h']
theorem scopeX_congr {b c : Code} {fr' : Fr} {σ' : St} (h : fr = fr') (h' : σ = σ') : scopeX P rnd b c fr σ Q = scopeX P rnd b c fr' σ' Q := by rw [h, h']
theorem rangeX_congr {g : Operand} {ps : Array Tmp} {a b : Code} {fr' : Fr} {σ' : St} (h : fr = fr') (h' : σ = σ') : rangeX P rnd g ps a b fr σ Q = rangeX P rnd g ps a b fr' σ' Q := by rw [h, h']
theorem thenW_congr {k : Fr → St → (RR → Prop) → Prop} {r r' : RR} (h : r = r') : thenW k Q r = thenW k Q r' := by rw [h]
theorem retW_congr {dst : Option Tmp} {lg l l' : Log} {k : Fr → St → Log → Prop} {e e' : AE} {σ' : St} (h : e = e') (h' : σ = σ') (h2 : l = l') : retW fr dst lg k Q e σ l = retW fr dst lg k Q e' σ' l' := by rw [h, h', h2]
theorem retD_congr {kn : Nat} {dst : Option Tmp} {ts : List Value} {acc : Loud} {lg l l' : Log} {k : DK} {e e' : AE} {σ₁ σ₂ : St} (h : e = e') (h' : σ₁ = σ₂) (h2 : l = l') : retD kn σ dst ts acc lg k e σ₁ l = retD kn σ dst ts acc lg k e' σ₂ l' := by rw [h, h', h2]
def endK (K : AE → St → Log → Prop) (σ : St) (lg : Log) : Option AE → Prop
 | some e => K e σ lg
 | none => False
theorem endK_some {K : AE → St → Log → Prop} {lg : Log} {e : AE} : endK K σ lg (some e) = K e σ lg := (rfl)
theorem endK_congr {K : AE → St → Log → Prop} {lg lg' : Log} {e e' : Option AE} {σ' : St} (h : e = e') (h' : σ = σ') (h2 : lg = lg') : endK K σ lg e = endK K σ' lg' e' := by rw [h, h', h2]
theorem endW_mk {rs : List ResultVar} {K : AE → St → Log → Prop} {x : AX} {lg : Log} : endW C rs K ⟨x, fr, σ, lg⟩ = endK K σ lg (endsA C.T rs ⟨x, fr, σ, lg⟩) := by
 unfold endW endK
 cases endsA C.T rs ⟨x, fr, σ, lg⟩ <;> rfl
theorem endD_ret {fn : Func} {K : AE → St → Log → Prop} {lg : Log} {ts : List Value} {ds : List Deferred} : endD P C fn K ⟨.ret, ⟨ts, ds⟩, σ, lg⟩ = leaveX P fn ts ds .returning σ (preK lg K) := (rfl)
theorem endD_norm {fn : Func} {K : AE → St → Log → Prop} {lg : Log} {ts : List Value} {ds : List Deferred} : endD P C fn K ⟨.norm, ⟨ts, ds⟩, σ, lg⟩ = leaveX P fn ts ds .returning σ (preK lg K) := (rfl)
theorem endD_panic {fn : Func} {K : AE → St → Log → Prop} {lg : Log} {ts : List Value} {ds : List Deferred} {c : List PanicEntry} : endD P C fn K ⟨.panic c, ⟨ts, ds⟩, σ, lg⟩ = leaveX P fn ts ds (.panicking c) σ (preK lg K) := (rfl)
theorem leaveX_congr {fn : Func} {K : AE → St → Log → Prop} {ts ts' : List Value} {ds ds' : List Deferred} {u : AM} {σ' : St} (h : ts = ts') (h1 : ds = ds') (h2 : σ = σ') : leaveX P fn ts ds u σ K = leaveX P fn ts' ds' u σ' K := by rw [h, h1, h2]
theorem leaveK_ret {fn : Func} {ts : List Value} {ds : List Deferred} {K : AE → St → Log → Prop} {v : Value} {l : Log} : leaveK P fn ts ds K (.ret v) .returning σ l = leaveX P fn ts ds .returning σ (preK l K) := (rfl)
theorem leaveK_done {fn : Func} {ts : List Value} {ds : List Deferred} {K : AE → St → Log → Prop} {v w : Value} {l : Log} : leaveK P fn ts ds K (.ret v) (.panicking [{ v := w, recovered := true }]) σ l = leaveX P fn ts ds .returning σ (preK l K) := (rfl)
theorem preW_mk {x : AX} {l lg : Log} : preW l Q ⟨x, fr, σ, lg⟩ = Q ⟨x, fr, σ, l ++ lg⟩ := (rfl)
theorem blockW_mk {id : Nat} {x : AX} {lg : Log} : blockW id Q ⟨x, fr, σ, lg⟩ = Q ⟨x.inBlock id, fr, σ, lg⟩ := (rfl)
theorem preK_eq {K : AE → St → Log → Prop} {e : AE} {l lg : Log} : preK l K e σ lg = K e σ (l ++ lg) := (rfl)
theorem scopeW_goto {body : Code} {lg : Log} {l : Nat} : scopeW P rnd body Q ⟨.goto l, fr, σ, lg⟩ = match findLabel body l with | some rest => scopeX P rnd body rest fr σ (preW lg Q) | none => Q ⟨.goto l, fr, σ, lg⟩ := (rfl)
theorem scopeW_norm {body : Code} {lg : Log} : scopeW P rnd body Q ⟨.norm, fr, σ, lg⟩ = Q ⟨.norm, fr, σ, lg⟩ := (rfl)
theorem scopeW_ret {body : Code} {lg : Log} : scopeW P rnd body Q ⟨.ret, fr, σ, lg⟩ = Q ⟨.ret, fr, σ, lg⟩ := (rfl)
theorem scopeW_exit {body : Code} {lg : Log} {i : Nat} : scopeW P rnd body Q ⟨.exit i, fr, σ, lg⟩ = Q ⟨.exit i, fr, σ, lg⟩ := (rfl)
theorem scopeW_panic {body : Code} {lg : Log} {c : List PanicEntry} : scopeW P rnd body Q ⟨.panic c, fr, σ, lg⟩ = Q ⟨.panic c, fr, σ, lg⟩ := (rfl)
end eqs
def withExt (C : Cx) (e : FuncId → Option Ext) : Cx := { T := { info := C.T.info, flat := C.T.flat, ext := e }, bodies := C.bodies }
theorem withExt_ok {C : Cx} (hC : C.Ok P) {e : FuncId → Option Ext} (he : ∀ g x, e g = some x → ExtIs P g x) : (withExt C e).Ok P := ⟨⟨hC.T.info, hC.T.flat, he⟩, hC.bodies⟩
theorem withExt_und (C : Cx) (e : FuncId → Option Ext) (t : TypeId) : (withExt C e).T.und t = C.T.und t := rfl
theorem withExt_info (C : Cx) (e : FuncId → Option Ext) (t : TypeId) : (withExt C e).T.info t = C.T.info t := rfl
theorem withExt_flat (C : Cx) (e : FuncId → Option Ext) (t : TypeId) : (withExt C e).T.flat t = C.T.flat t := rfl
theorem withExt_ext (C : Cx) (e : FuncId → Option Ext) (t : TypeId) : (withExt C e).T.ext t = e t := rfl
theorem withExt_bodies (C : Cx) (e : FuncId → Option Ext) (g : FuncId) : (withExt C e).bodies g = C.bodies g := rfl
end Go.Ab
namespace Go.Ab
open Go.Proofs
def HN (σ : St) (own : List Nat) (h m : Nat) (t : Int) : Prop := (own = [h, m] ∧ HE σ h m t) ∨ ∃ e, own = [h, e, m] ∧ HE2 σ h e m t
def HO (σ : St) (own : List Nat) (h m : Nat) (L : List Item) (t : Int) : Prop :=
 (L = [] ∧ HN σ own h m t) ∨ ∃ a cap, own = [h, a, m] ∧ HI σ h a m L cap t
section
variable {σ σ' : St} {own : List Nat} {h m k : Nat} {L R : List Item} {t : Int}
theorem HO.toV (H : HO σ own h m L t) (hL : L ≠ []) : HV σ 0 h m L t := by
 rcases H with ⟨h1, _⟩ | ⟨a, cap, _, H⟩
 ·exact absurd h1 hL
 ·exact ⟨Nat.zero_le _, Nat.zero_le _, Nat.zero_le _, .inr ⟨a, cap, Nat.zero_le _, H⟩⟩
theorem HO.hm (H : HO σ own h m L t) : ∃ s f, HM σ h m s (.int .i64 t) f ∧ ∀ id, f id = none ↔ ∀ x ∈ L, x.id ≠ id := by
 rcases H with ⟨rfl, ⟨_, H⟩ | ⟨e, _, H⟩⟩ | ⟨a, cap, _, H⟩
 ·obtain ⟨ck, gm⟩ := H.gm
  exact ⟨_, fun _ => none, ⟨H.gh, ⟨[], ck, gm, KV.nil, fun _ => rfl⟩, H.lt⟩, fun id => by simp⟩
 ·obtain ⟨ck, gm⟩ := H.gm
  exact ⟨_, fun _ => none, ⟨H.gh, ⟨[], ck, gm, KV.nil, fun _ => rfl⟩, ⟨H.lt.1, H.lt.2.1⟩⟩, fun id => by simp⟩
 ·exact HV.hm (lo := 0) ⟨Nat.zero_le _, Nat.zero_le _, Nat.zero_le _, .inr ⟨a, cap, Nat.zero_le _, H⟩⟩
theorem ho_len (H : HO σ own h m L t) : DCall Try.prog 17 [.pointer (some ⟨h, 0, none⟩)] σ (.ret (.int .i64 L.length)) σ [] := by
 rcases H with ⟨rfl, ⟨_, H⟩ | ⟨e, _, H⟩⟩ | ⟨a, cap, _, H⟩
 ·exact len_call0 H.gh
 ·exact len_call H.gh
 ·obtain ⟨f, H1, _⟩ := H.hs
  exact len_call H1.gh
theorem HO.lt (H : HO σ own h m L t) : ∀ c ∈ own, c < σ.next := by
 rcases H with ⟨rfl, ⟨rfl, H⟩ | ⟨e, rfl, H⟩⟩ | ⟨a, cap, rfl, H⟩
 ·intro c hc
  have := H.lt
  simp at hc
  omega
 ·intro c hc
  have := H.lt
  simp at hc
  omega
 ·obtain ⟨f, H1, _⟩ := H.hs
  have := H1.lt
  intro c hc
  simp at hc
  omega
theorem HO.keep (H : HO σ own h m L t) (hn : σ.next ≤ σ'.next) (hg : ∀ c ∈ own, σ'.get c = σ.get c) : HO σ' own h m L t := by
 rcases H with ⟨rfl, ⟨rfl, H⟩ | ⟨e, rfl, H⟩⟩ | ⟨a, cap, rfl, H⟩
 ·obtain ⟨ck, gm⟩ := H.gm
  exact .inl ⟨rfl, .inl ⟨rfl, ⟨(hg h (by simp)).trans H.gh, ⟨ck, (hg m (by simp)).trans gm⟩, H.ne, by have := H.lt; omega⟩⟩⟩
 ·obtain ⟨ck, gm⟩ := H.gm
  exact .inl ⟨rfl, .inr ⟨e, rfl, ⟨(hg h (by simp)).trans H.gh, (hg e (by simp)).trans H.ge, ⟨ck, (hg m (by simp)).trans gm⟩, H.ne, by have := H.lt; omega⟩⟩⟩
 ·obtain ⟨f, H1, hi⟩ := H.hs
  obtain ⟨G, ga, hG⟩ := H1.ga
  obtain ⟨es, ck, gm, hkv⟩ := H1.gm
  exact .inr ⟨a, cap, rfl, ⟨⟨f, ⟨(hg h (by simp)).trans H1.gh, ⟨G, (hg a (by simp)).trans ga, hG⟩, ⟨es, ck, (hg m (by simp)).trans gm, hkv⟩, H1.ne, by have := H1.lt; omega⟩, hi⟩, H.ok, H.small⟩⟩
theorem HO.grow (H : HO σ own h m L t) (hn : σ.next ≤ σ'.next) (hg : ∀ c, c < σ.next → σ'.get c = σ.get c) : HO σ' own h m L t := H.keep hn fun c hc => hg c (H.lt c hc)
theorem HO.ok (H : HO σ own h m L t) : ∀ x ∈ L, x.ok = true := by
 rcases H with ⟨rfl, H⟩ | ⟨a, cap, rfl, H⟩
 ·intro x hx; simp at hx
 ·exact H.ok
theorem HO.pos (H : HO σ own h m L t) : AllPos L := fun x hx => Item.ok_pos (H.ok x hx)
theorem HO.dist (H : HO σ own h m L t) : Dist L := by
 rcases H with ⟨rfl, H⟩ | ⟨a, cap, rfl, H⟩
 ·intro i j x y hi; simp at hi
 ·exact H.dist
structure Left (σ : St) (own : List Nat) (lg : Log) (own' : List Nat) : Prop where
 log : ∀ c ∈ lg, c ∈ own
 own : ∀ c ∈ own', c ∈ own ∨ σ.next ≤ c
theorem Left.same : Left σ own [] own := ⟨fun c hc => by simp at hc, fun c hc => .inl hc⟩
theorem I4.tu (I : I4 L t k) : Turns L t := ⟨I.turn, I.one⟩
theorem Mir.found (M : Mir L R) (hd : Dist L) {id : Int} (h : findI id R 0 ≠ -1) : ∃ (n : Nat) (x : Item), L[n]? = some x ∧ R[(findI id R 0).toNat]? = some x ∧ x.id = id := by
 obtain ⟨j, x, h1, h2, h3⟩ := findI_some h
 have h4 : (findI id R 0).toNat = j := by omega
 obtain ⟨n, hn⟩ := List.getElem?_of_mem ((M.mem x).1 (List.mem_of_getElem? h2))
 exact ⟨n, x, hn, by rw [h4]; exact h2, h3⟩
theorem Mir.missing (M : Mir L R) {id : Int} (h : findI id R 0 = -1) : ∀ x ∈ L, x.id ≠ id := fun x hx => findI_none.1 h x ((M.mem x).2 hx)
def putR (R : List Item) (t id n d : Int) : List Item × Int × Int :=
 if mayB id n d = true then (if findI id R 0 = -1 then (layL ⟨id, n, d, t + 1⟩ R, t + 1, 0) else (R, t, 210)) else (R, t, 2)
def setR (R : List Item) (id n d : Int) : List Item × Int :=
 if mayB id n d = true then (if findI id R 0 = -1 then (R, 5) else match R[(findI id R 0).toNat]? with | some x => (layL (x.key n d) (R.eraseIdx (findI id R 0).toNat), 0) | none => (R, 0)) else (R, 2)
def dropR (R : List Item) (id : Int) : List Item × Int :=
 if findI id R 0 = -1 then (R, 5) else (R.eraseIdx (findI id R 0).toNat, 0)
def takeR : List Item → List Item × Item × Bool
 | [] => ([], ⟨0, 0, 0, 0⟩, false)
 | x :: R => (R, x, true)
theorem mayB_not {id n d : Int} (h : ¬ mayB id n d = true) : (id < 0 ∨ 4611686018427387904 < id) ∨ ¬ chk n d := by
 simp only [mayB, Bool.and_eq_true, decide_eq_true_eq] at h
 by_cases h1 : chk n d
 ·left
  have : ¬ (0 ≤ id ∧ id ≤ 4611686018427387904) := fun h2 => h ⟨h2, h1⟩
  omega
 ·exact .inr h1
theorem mayB_is {id n d : Int} (h : mayB id n d = true) : 0 ≤ id ∧ id ≤ 4611686018427387904 ∧ chk n d := by
 simp only [mayB, Bool.and_eq_true, decide_eq_true_eq] at h
 exact ⟨h.1.1, h.1.2, h.2⟩
def Now (σ : St) (own : List Nat) (h m : Nat) (k : Nat) (σ' : St) (lg : Log) (R' : List Item) (t' : Int) : Prop :=
 ∃ own' L', Left σ own lg own' ∧ HO σ' own' h m L' t' ∧ I4 L' t' (k + 1) ∧ Mir L' R'
theorem ho_put (H : HO σ own h m L t) (I : I4 L t k) (M : Mir L R) (hk : k < 900) (id n d : Int) (hn : okI n = true) (hd : okI d = true) :
  ∃ σ' lg, DCall Try.prog 14 [.pointer (some ⟨h, 0, none⟩), .int .i64 id, .agg ⟨[.int .i64 n, .int .i64 d]⟩] σ (.ret (.int .i64 (putR R t id n d).2.2)) σ' lg ∧ Now σ own h m k σ' lg (putR R t id n d).1 (putR R t id n d).2.1 := by
 obtain ⟨s, f, hm, hf⟩ := H.hm
 by_cases hc : mayB id n d = true
 ·obtain ⟨h0, h1, h2⟩ := mayB_is hc
  have hR : okR n d = true := by simp [okR, hn, hd, h2]
  have hd0 : 0 < d := by have := h2.1; omega
  by_cases hv : findI id R 0 = -1
  ·have hnew := M.missing hv
   have e : putR R t id n d = (layL ⟨id, n, d, t + 1⟩ R, t + 1, 0) := by simp only [putR, hc, hv, if_true]
   rw [e]
   have hI := I.put H.pos id n d hd0
   have ht := I.t0
   have htk := I.tk
   have hln := I.len
   have hM := M.put H.pos I.tu (x := ⟨id, n, d, t + 1⟩) hd0 rfl
   rcases H with ⟨rfl, ⟨rfl, H⟩ | ⟨e, rfl, H⟩⟩ | ⟨a, cap, rfl, H⟩
   ·obtain ⟨σ', a, dd, H', ha⟩ := put_first H id n d h0 h1 hR ht (by omega)
    refine ⟨σ', _, dd, [h, a, m], _, ⟨fun c hc => hc, fun c hc => ?_⟩, .inr ⟨a, 1, rfl, ?_⟩, hI, hM⟩
    ·simp at hc ⊢; omega
    ·simpa [riseL] using H'
   ·obtain ⟨σ', a, dd, H', ha⟩ := put_first2 H id n d h0 h1 hR ht (by omega)
    refine ⟨σ', _, dd, [h, a, m], _, ⟨fun c hc => ?_, fun c hc => ?_⟩, .inr ⟨a, 1, rfl, ?_⟩, hI, hM⟩
    ·simp at hc ⊢; omega
    ·simp at hc ⊢; omega
    ·simpa [riseL] using H'
   ·have hcap : L.length ≤ cap := by
     obtain ⟨f, H1, _⟩ := H.hs
     obtain ⟨G, _, hG⟩ := H1.ga
     omega
    by_cases hc : L.length + 1 ≤ cap
    ·obtain ⟨σ', dd, H', nx, _⟩ := put_in H id n d h0 h1 hR ht (by omega) hnew (by omega) hc
     exact ⟨σ', _, dd, [h, a, m], _, ⟨fun c hc => hc, fun c hc => .inl hc⟩, .inr ⟨a, cap, rfl, H'⟩, hI, hM⟩
    ·obtain ⟨σ', dd, H', nx, _⟩ := put_move H id n d h0 h1 hR ht (by omega) hnew (by omega) (by omega)
     refine ⟨σ', _, dd, [h, σ.next + 2, m], _, ⟨fun c hc => hc, fun c hc => ?_⟩, .inr ⟨_, _, rfl, H'⟩, hI, hM⟩
     simp at hc ⊢; omega
  ·have e : putR R t id n d = (R, t, 210) := by simp only [putR, hc, hv, if_true, if_false]
   rw [e]
   obtain ⟨i, x, hx, _, hid⟩ := M.found H.dist hv
   have hfn : f id ≠ none := fun hn => (hf id).1 hn x (List.mem_of_getElem? hx) hid
   obtain ⟨v, hv⟩ := Option.ne_none_iff_exists'.1 hfn
   exact ⟨σ, _, put_twice hm id n d v h0 h1 hR hv, own, L, Left.same, H, I.more, M⟩
 ·have e : putR R t id n d = (R, t, 2) := if_neg hc
  rw [e]
  exact ⟨σ, _, put_refused hm id n d hn hd (mayB_not hc), own, L, Left.same, H, I.more, M⟩
theorem ho_set (H : HO σ own h m L t) (I : I4 L t k) (M : Mir L R) (id n d : Int) (hn : okI n = true) (hd : okI d = true) :
  ∃ σ' lg, DCall Try.prog 15 [.pointer (some ⟨h, 0, none⟩), .int .i64 id, .agg ⟨[.int .i64 n, .int .i64 d]⟩] σ (.ret (.int .i64 (setR R id n d).2)) σ' lg ∧ Now σ own h m k σ' lg (setR R id n d).1 t := by
 obtain ⟨s, f, hm, hf⟩ := H.hm
 by_cases hc : mayB id n d = true
 ·obtain ⟨h0, h1, h2⟩ := mayB_is hc
  have hR : okR n d = true := by simp [okR, hn, hd, h2]
  have hd0 : 0 < d := by have := h2.1; omega
  by_cases hv : findI id R 0 = -1
  ·have e : setR R id n d = (R, 5) := by simp only [setR, hc, hv, if_true]
   rw [e]
   exact ⟨σ, _, set_missing hm id n d h0 h1 hR ((hf id).2 (M.missing hv)), own, L, Left.same, H, I.more, M⟩
  ·obtain ⟨i, x, hx, hj, rfl⟩ := M.found H.dist hv
   have e : setR R x.id n d = (layL (x.key n d) (R.eraseIdx (findI x.id R 0).toNat), 0) := by simp only [setR, hc, hv, hj, if_true, if_false]
   rw [e]
   have hp := H.pos
   have hdi := H.dist
   rcases H with ⟨rfl, H⟩ | ⟨a, cap, rfl, H⟩
   ·simp at hx
   ·obtain ⟨σ', n2, z, dd, b1, b2, b3, b4, _⟩ := set_ok H hx n d h0 h1 hR
    exact ⟨σ', _, dd, [h, a, m], _, ⟨fun c hc => hc, fun c hc => .inl hc⟩, .inr ⟨a, cap, rfl, b3⟩, I.set hp hdi hx n d hd0 b1 b2, M.set hp hdi I.tu hx hj rfl rfl hd0⟩
 ·have e : setR R id n d = (R, 2) := if_neg hc
  rw [e]
  exact ⟨σ, _, set_refused hm id n d hn hd (mayB_not hc), own, L, Left.same, H, I.more, M⟩
theorem ho_drop (H : HO σ own h m L t) (I : I4 L t k) (M : Mir L R) (id : Int) :
  ∃ σ' lg, DCall Try.prog 43 [.pointer (some ⟨h, 0, none⟩), .int .i64 id] σ (.ret (.int .i64 (dropR R id).2)) σ' lg ∧ Now σ own h m k σ' lg (dropR R id).1 t := by
 obtain ⟨s, f, hm, hf⟩ := H.hm
 by_cases hv : findI id R 0 = -1
 ·have e : dropR R id = (R, 5) := by simp only [dropR, hv, if_true]
  rw [e]
  exact ⟨σ, _, drop_missing hm id ((hf id).2 (M.missing hv)), own, L, Left.same, H, I.more, M⟩
 ·obtain ⟨i, x, hx, hj, rfl⟩ := M.found H.dist hv
  have e : dropR R x.id = (R.eraseIdx (findI x.id R 0).toNat, 0) := by simp only [dropR, hv, if_false]
  rw [e]
  have hp := H.pos
  have hdi := H.dist
  rcases H with ⟨rfl, H⟩ | ⟨a, cap, rfl, H⟩
  ·simp at hx
  ·obtain ⟨σ', d, b3, b4, _⟩ := out_call H hx
   obtain ⟨f, H1, hi⟩ := H.hs
   obtain ⟨es, ck, gm, hkv, hlk⟩ := H1.gm
   have hno := none_call H1.gh
   have hlo := map_get (ok := true) gm hkv hlk (hi.fwd i x hx)
   refine ⟨σ', [h, a, m], calls (one_ok' (one_ok' Orc.none_ok d) hno) Try.func43 rfl 40 nobt (by kernel_rfl) ?_, [h, a, m], _, ⟨fun c hc => hc, fun c hc => .inl hc⟩, .inr ⟨a, cap, rfl, b3⟩, I.out hp hdi hx, M.out hdi hx hj⟩
   exact ⟨_, by simp only [go_sem, seval, if_pos rfl, one_other, Orc.one_call, hlo, H1.gh, Try.f43, Try.underlying2, info2, Try.t2, Try.underlying3, info3, Try.t3, Try.underlying4, info4, Try.t4, Try.underlying24, info24, Try.t24, Try.underlying26, info26, Try.t26, Try.underlying28, info28, Try.t28, Try.underlying31, info31, Try.t31, Try.underlying96, info96, Try.t96, Try.underlying97, info97, Try.t97, Try.underlying98, info98, Try.t98, Try.underlying99, info99, Try.t99, Try.underlying100, info100, Try.t100, Try.underlying102, info102, Try.t102, body44, body49] <;> rfl, by simp only [go_sem, seval, if_pos rfl, Try.f43], rfl, rfl⟩
theorem take_none (H : HO σ own h m [] t) : ∃ σ', DCall Try.prog 16 [.pointer (some ⟨h, 0, none⟩)] σ (.ret (.tuple ⟨[.agg ⟨[.int .i64 0, .int .i64 0, .int .i64 0, .int .i64 0]⟩, .bool false]⟩)) σ' [] := by
 have H1 := H.grow (σ' := σ.new (.cells [.int .i64 0, .int .i64 0, .int .i64 0, .int .i64 0] false)) (by simp) fun c hc => by rw [St.get_new, if_neg (by omega)]
 have dl := ho_len H1
 simp only [List.length_nil, Int.natCast_zero] at dl
 exact ⟨_, callsL (one_ok' Orc.none_ok dl) Try.func16 rfl 40 nobt (by kernel_rfl) ⟨_, by simp only [go_sem, seval, if_pos rfl, Orc.one_call, Try.f16, Try.underlying2, info2, Try.t2, Try.underlying3, info3, Try.t3, Try.underlying4, info4, Try.t4, Try.underlying24, info24, Try.t24, Try.underlying26, info26, Try.t26, Try.underlying28, info28, Try.t28, Try.underlying30, info30, Try.t30, Try.underlying31, info31, Try.t31, body17] <;> rfl, by simp only [go_sem, seval, if_pos rfl, Try.f16, Try.underlying30, info30, Try.t30, Try.underlying31, info31, Try.t31], rfl, fun c hc => by simp only [St.get_set, St.get_new]; rw [if_neg (by omega), if_neg (by omega)]⟩⟩
theorem ho_take (H : HO σ own h m L t) (I : I4 L t k) (M : Mir L R) :
  ∃ σ' lg, DCall Try.prog 16 [.pointer (some ⟨h, 0, none⟩)] σ (.ret (.tuple ⟨[.agg ⟨(takeR R).2.1.cells⟩, .bool (takeR R).2.2]⟩)) σ' lg ∧ Now σ own h m k σ' lg (takeR R).1 t := by
 cases hR : R with
 | nil =>
  obtain rfl := M.empty.2 hR
  subst hR
  obtain ⟨σ', d⟩ := take_none H
  have hs := same_of d
  exact ⟨σ', [], d, own, [], Left.same, H.grow hs.1 hs.2, I.more, M⟩
 | cons y R' =>
  have hL : L ≠ [] := fun e => by rw [M.empty.1 e] at hR; cases hR
  obtain ⟨x, hx⟩ : ∃ x, L[0]? = some x := by
   cases L with
   | nil => exact absurd rfl hL
   | cons x l => exact ⟨x, rfl⟩
  have hx2 := M.least H.pos I.hp hx
  have hp := H.pos
  have hdi := H.dist
  have hM := M.out hdi hx hx2
  rw [hR] at hx2
  simp only [List.getElem?_cons_zero, Option.some.injEq] at hx2
  subst hx2
  have hM' : Mir (outL L 0) R' := by rw [hR] at hM; simpa using hM
  rcases H with ⟨rfl, H⟩ | ⟨a, cap, rfl, H⟩
  ·simp at hx
  ·obtain ⟨σ', d, b3, b4, _⟩ := take_call H hx
   exact ⟨σ', _, d, [h, a, m], _, ⟨fun c hc => hc, fun c hc => .inl hc⟩, .inr ⟨a, cap, rfl, b3⟩, I.out hp hdi hx, hM'⟩
theorem ho_least (H : HO σ own h m L t) (hh : Hp L) (M : Mir L R) : DCall Try.prog 19 [.pointer (some ⟨h, 0, none⟩)] σ (.ret (.tuple ⟨[.agg ⟨(takeR R).2.1.cells⟩, .bool (takeR R).2.2]⟩)) σ [] := by
 cases hR : R with
 | nil =>
  obtain rfl := M.empty.2 hR
  have H1 := H.grow (σ' := σ.new (.cells [.int .i64 0, .int .i64 0, .int .i64 0, .int .i64 0] false)) (by simp) fun c hc => by rw [St.get_new, if_neg (by omega)]
  have dl := ho_len H1
  simp only [List.length_nil, Int.natCast_zero] at dl
  refine DCall.forget (σ' := (σ.new (.cells [.int .i64 0, .int .i64 0, .int .i64 0, .int .i64 0] false)).set σ.next (.cells [.int .i64 0, .int .i64 0, .int .i64 0, .int .i64 0] false)) ?_ rfl
  exact callsL (one_ok' Orc.none_ok dl) Try.func19 rfl 40 nobt (by kernel_rfl) ⟨_, by simp only [go_sem, seval, if_pos rfl, Orc.one_call, Try.f19, Try.underlying2, info2, Try.t2, Try.underlying3, info3, Try.t3, Try.underlying4, info4, Try.t4, Try.underlying24, info24, Try.t24, Try.underlying26, info26, Try.t26, Try.underlying28, info28, Try.t28, Try.underlying30, info30, Try.t30, Try.underlying31, info31, Try.t31, body17] <;> rfl, by simp only [go_sem, seval, if_pos rfl, Try.f19, Try.underlying30, info30, Try.t30, Try.underlying31, info31, Try.t31] <;> rfl, rfl, fun c hc => by simp only [St.get_set, St.get_new]; rw [if_neg (by omega), if_neg (by omega)]⟩
 | cons y R' =>
  have hL : L ≠ [] := fun e => by rw [M.empty.1 e] at hR; cases hR
  obtain ⟨x, hx⟩ : ∃ x, L[0]? = some x := by
   cases L with
   | nil => exact absurd rfl hL
   | cons x l => exact ⟨x, rfl⟩
  have hx2 := M.least H.pos hh hx
  rw [hR] at hx2
  simp only [List.getElem?_cons_zero, Option.some.injEq] at hx2
  subst hx2
  exact least_hv (H.toV hL) hx
end
end Go.Ab
