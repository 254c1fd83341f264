/- HeapCopiesSaid: part 6 of 7 of the proof that it returns true for every input and leaves its arguments as they were; no condition. -/
import Derived.Test.YtlipmhhndhhgdaaJHeapCopiesSaid4
import Derived.Test.YtlipmhhndhhgdaaJHeapCopiesSaid2
import Derived.Test.YtlipmhhndhhgdaaJHeapCopiesSaid3
set_option linter.unusedSimpArgs false
set_option linter.unusedVariables false
namespace Go.Ab
open Go.Proofs
theorem scanSorted_range {lt : Item → Item → Bool} {d : Array Item} {b : Nat} : ∀ n i, b - i = n → i ≤ b → i ≤ Sort.scanSorted lt d b i ∧ Sort.scanSorted lt d b i ≤ b := fun n => by
 induction n with
 | zero => intro i h1 h2; rw [Sort.scanSorted.eq_def, if_neg (by simp; omega)]; exact ⟨Nat.le_refl _, h2⟩
 | succ n ih =>
  intro i h1 h2
  rw [Sort.scanSorted.eq_def]
  split
  ·have := ih (i + 1) (by omega) (by omega); omega
  ·omega
section
variable {σ0 : St} {k s cap : Nat} {g : FuncId} {ys : List Value} {lt : Item → Item → Bool} {p : Item → Prop} {G : List Value}
def IPi (σ0 : St) (k n : Nat) (p : Item → Prop) (G : List Value) (dv cv : Value) (lt : Item → Item → Bool) (a b : Nat) (D : Array Item) (R : Bool) (m : Nat) (fr : Fr) (σ : St) : Prop :=
 ∃ ts d', ∃ i : Nat, fr = ⟨ts, []⟩ ∧ FQ ts dv cv a b i (5 - m) ∧ m ≤ 5 ∧ a < i ∧ i ≤ b ∧ SAt σ0 k d' G p σ ∧ d'.size = n ∧ Sort.partialIns lt a b m i d' = (D, R)
def EPi (σ0 : St) (k : Nat) (p : Item → Prop) (G : List Value) (D : Array Item) (R : Bool) (x : AX) (fr : Fr) (σ : St) : Prop :=
 fr.ds = [] ∧ fr.ts.length = 141 ∧ SAt σ0 k D G p σ ∧ (x = .exit 0 ∧ R = false ∨ x = .ret ∧ lget fr.ts 8 = .bool R)
set_option maxHeartbeats 12800000 in
set_option maxRecDepth 20000 in
theorem pis_loop (hc : CmpOk σ0 k g ys lt p) {n a b : Nat} (hab : a ≤ b) (hbn : b ≤ n) (hn : n < 1000000) {D : Array Item} {R : Bool} :
  ∀ m fr σ, IPi σ0 k n p G (sliceS k s n cap) (.func (.func g) ⟨[]⟩ ⟨ys⟩) lt a b D R m fr σ → loopX Try.prog false pisB fr σ (endL (EPi σ0 k p G D R) fun z => z = k ∨ σ0.next ≤ z) := by
 refine loop_ind q0 156 (by kernel_rfl) _ _ _ ?_
 rintro m fr σ ⟨ts, d, i, rfl, F, hm5, hai, hib, H, hdn, hD⟩
 have e0 := F.t0
 have e1 := F.t1
 have e2 := F.t2
 have e3 := F.t3
 have e9 := F.t9
 have e10 := F.t10
 have el := F.size
 simp only [sliceS] at e0
 match m, hm5, e10, hD with
 | 0, _, e10, hD =>
  have c0 : ¬ ((5 - 0 : Nat) : Int) < 5 := by omega
  obtain ⟨rfl, rfl⟩ : d = D ∧ false = R := by simpa [Sort.partialIns] using hD
  simp only [go_sem, seval, -Nat.reduceSubDiff, if_pos rfl, opLen, undef, pisB, loopOf, nthC, Try.f156, Option.getD, e0, e1, e2, e3, e9, e10, el, c0]
  exact ⟨rfl, by simp only [List.length_set, el], H, .inl ⟨rfl, rfl⟩⟩
 | m + 1, hm5, e10, hD =>
  have c0 : ((5 - (m + 1) : Nat) : Int) < 5 := by omega
  subst hdn
  obtain ⟨I, hI⟩ : ∃ I, Sort.scanSorted lt d b i = I := ⟨_, rfl⟩
  have hIr := scanSorted_range (lt := lt) (d := d) (b := b) _ i rfl hib
  rw [hI] at hIr
  simp only [Sort.partialIns, hI] at hD
  have wu : IntKind.i64.wrap (((5 - (m + 1) : Nat) : Int) + 1) = ((5 - m : Nat) : Int) := by
   have : ((5 - (m + 1) : Nat) : Int) + 1 = ((5 - m : Nat) : Int) := by omega
   rw [this]; exact wrapIN (by omega)
  by_cases hIb : I = b
  ·have b1 : ((I : Int) == (b : Int)) = true := by rw [hIb]; exact beq_self_eq_true _
   rw [if_pos hIb] at hD
   obtain ⟨rfl, rfl⟩ : d = D ∧ true = R := by simpa using hD
   simp only [go_sem, seval, -Nat.reduceSubDiff, if_pos rfl, opLen, undef, pisB, pisA, loopOf, nthC, blockOf, Try.f156, Option.getD, Int.toNat_natCast, e0, e1, e2, e3, e9, e10, el, c0]
   refine loop_then (qs_loop (s := s) (cap := cap) (G := G) hc H (a := a) (b := b) (u := 5 - (m + 1)) hbn (I := I) _ _ _ ⟨_, i, rfl, ⟨by simp only [List.length_set, el], by simp only [go_sem, seval, -Nat.reduceSubDiff, if_pos rfl, opLen, el, e0] <;> rfl, by simp only [go_sem, seval, -Nat.reduceSubDiff, if_pos rfl, opLen, el, e1], by simp only [go_sem, seval, -Nat.reduceSubDiff, if_pos rfl, opLen, el, e2], by simp only [go_sem, seval, -Nat.reduceSubDiff, if_pos rfl, opLen, el, e3], by simp only [go_sem, seval, -Nat.reduceSubDiff, if_pos rfl, opLen, el, e9], by simp only [go_sem, seval, -Nat.reduceSubDiff, if_pos rfl, opLen, el, e10]⟩, rfl, rfl, hai, hI⟩) ?_
   intro x fr' σ1 lg1 hlg1 hB1 h
   obtain ⟨rfl, rfl, ts1, rfl, F1⟩ := h
   obtain rfl : lg1 = [] := List.eq_nil_iff_forall_not_mem.2 fun z hz => hB1 z hz
   have e0f := F1.t0
   have e1f := F1.t1
   have e2f := F1.t2
   have e3f := F1.t3
   have e9f := F1.t9
   have e10f := F1.t10
   have elf := F1.size
   simp only [sliceS] at e0f
   simp only [go_sem, seval, -Nat.reduceSubDiff, if_pos rfl, opLen, undef, pisB, pisA, loopOf, nthC, blockOf, Try.f156, Option.getD, Int.toNat_natCast, e0f, e1f, e2f, e3f, e9f, e10f, elf, b1]
   exact ⟨rfl, by simp only [List.length_set, elf], H, .inr ⟨rfl, by simp only [go_sem, seval, -Nat.reduceSubDiff, if_pos rfl, opLen, elf]⟩⟩
  ·have b1 : ((I : Int) == (b : Int)) = false := by rw [beq_eq_false_iff_ne]; omega
   rw [if_neg hIb] at hD
   have wb : IntKind.i64.wrap ((b : Int) - (a : Int)) = ((b - a : Nat) : Int) := by
    have : (b : Int) - (a : Int) = ((b - a : Nat) : Int) := by omega
    rw [this]; exact wrapIN (by omega)
   by_cases h50 : b - a < 50
   ·have b2 : ((b - a : Nat) : Int) < 50 := by omega
    rw [if_pos h50] at hD
    obtain ⟨rfl, rfl⟩ : d = D ∧ false = R := by simpa using hD
    simp only [go_sem, seval, -Nat.reduceSubDiff, if_pos rfl, opLen, undef, pisB, pisA, loopOf, nthC, blockOf, Try.f156, Option.getD, Int.toNat_natCast, e0, e1, e2, e3, e9, e10, el, c0]
    refine loop_then (qs_loop (s := s) (cap := cap) (G := G) hc H (a := a) (b := b) (u := 5 - (m + 1)) hbn (I := I) _ _ _ ⟨_, i, rfl, ⟨by simp only [List.length_set, el], by simp only [go_sem, seval, -Nat.reduceSubDiff, if_pos rfl, opLen, el, e0] <;> rfl, by simp only [go_sem, seval, -Nat.reduceSubDiff, if_pos rfl, opLen, el, e1], by simp only [go_sem, seval, -Nat.reduceSubDiff, if_pos rfl, opLen, el, e2], by simp only [go_sem, seval, -Nat.reduceSubDiff, if_pos rfl, opLen, el, e3], by simp only [go_sem, seval, -Nat.reduceSubDiff, if_pos rfl, opLen, el, e9], by simp only [go_sem, seval, -Nat.reduceSubDiff, if_pos rfl, opLen, el, e10]⟩, rfl, rfl, hai, hI⟩) ?_
    intro x fr' σ1 lg1 hlg1 hB1 h
    obtain ⟨rfl, rfl, ts1, rfl, F1⟩ := h
    obtain rfl : lg1 = [] := List.eq_nil_iff_forall_not_mem.2 fun z hz => hB1 z hz
    have e0f := F1.t0
    have e1f := F1.t1
    have e2f := F1.t2
    have e3f := F1.t3
    have e9f := F1.t9
    have e10f := F1.t10
    have elf := F1.size
    simp only [sliceS] at e0f
    simp only [go_sem, seval, -Nat.reduceSubDiff, if_pos rfl, opLen, undef, pisB, pisA, loopOf, nthC, blockOf, Try.f156, Option.getD, Int.toNat_natCast, e0f, e1f, e2f, e3f, e9f, e10f, elf, b1, b2, wb]
    exact ⟨rfl, by simp only [List.length_set, elf], H, .inr ⟨rfl, by simp only [go_sem, seval, -Nat.reduceSubDiff, if_pos rfl, opLen, elf]⟩⟩
   ·have b2 : ¬ ((b - a : Nat) : Int) < 50 := by omega
    rw [if_neg h50] at hD
    have w1 : IntKind.i64.wrap ((I : Int) - 1) = ((I - 1 : Nat) : Int) := by
     have : (I : Int) - 1 = ((I - 1 : Nat) : Int) := by omega
     rw [this]; exact wrapIN (by omega)
    have w2 : IntKind.i64.wrap ((I : Int) - (a : Int)) = ((I - a : Nat) : Int) := by
     have : (I : Int) - (a : Int) = ((I - a : Nat) : Int) := by omega
     rw [this]; exact wrapIN (by omega)
    have w3 : IntKind.i64.wrap ((b : Int) - (I : Int)) = ((b - I : Nat) : Int) := by
     have : (b : Int) - (I : Int) = ((b - I : Nat) : Int) := by omega
     rw [this]; exact wrapIN (by omega)
    have w4 : IntKind.i64.wrap ((I : Int) + 1) = ((I + 1 : Nat) : Int) := by
     have : (I : Int) + 1 = ((I + 1 : Nat) : Int) := by omega
     rw [this]; exact wrapIN (by omega)
    have x1s := arr_at (d := d) (G := G) (i := I) (by omega)
    have x2s := arr_at (d := d) (G := G) (i := I - 1) (by omega)
    have l1s : (I) * 4 + 4 ≤ (cellsL (d).toList ++ G).length := by rw [arr_len]; omega
    have l2s : (I - 1) * 4 + 4 ≤ (cellsL (d).toList ++ G).length := by rw [arr_len]; omega
    have o1s := arr_over (d := d) (G := G) (i := I) (d)[I - 1]! (by omega)
    have o2s := arr_over (d := (d).setIfInBounds (I) (d)[I - 1]!) (G := G) (i := I - 1) (d)[I]! (by simp; omega)
    have l3s : (I - 1) * 4 + 4 ≤ (cellsL ((d).setIfInBounds (I) (d)[I - 1]!).toList ++ G).length := by rw [arr_len]; simp; omega
    have p1s : (0 : Int) ≤ ((I : Nat) : Int) := by omega
    have p2s : ((I : Nat) : Int) < (d.size : Int) := by omega
    have p3s : (0 : Int) ≤ ((I - 1 : Nat) : Int) := by omega
    have p4s : ((I - 1 : Nat) : Int) < (d.size : Int) := by omega
    simp only [Item.cells] at x1s x2s o1s o2s
    have g1 := H.get
    have nk : ¬ σ.next ≤ k := by have := H.lt; have := H.base.nx; omega
    have H1 := H.swp (i := I) (j := I - 1) (by omega) (by omega) (.cells (cellsL (d.setIfInBounds I d[I - 1]!).toList ++ G) false)
    obtain ⟨d1, hd1⟩ : ∃ d1, Sort.swp d I (I - 1) = d1 := ⟨_, rfl⟩
    have hz1 : d1.size = d.size := by rw [← hd1]; exact swp_size
    rw [hd1] at H1 hD
    by_cases h3 : I - a ≥ 2
    ·by_cases h4 : b - I ≥ 2
     ·have b3 : (2 : Int) ≤ ((I - a : Nat) : Int) := by omega
      have b4 : (2 : Int) ≤ ((b - I : Nat) : Int) := by omega
      rw [if_pos h3, if_pos h4] at hD
      simp only [go_sem, seval, -Nat.reduceSubDiff, if_pos rfl, opLen, undef, pisB, pisA, loopOf, nthC, blockOf, Try.f156, Option.getD, Int.toNat_natCast, e0, e1, e2, e3, e9, e10, el, c0]
      refine loop_then (qs_loop (s := s) (cap := cap) (G := G) hc H (a := a) (b := b) (u := 5 - (m + 1)) hbn (I := I) _ _ _ ⟨_, i, rfl, ⟨by simp only [List.length_set, el], by simp only [go_sem, seval, -Nat.reduceSubDiff, if_pos rfl, opLen, el, e0] <;> rfl, by simp only [go_sem, seval, -Nat.reduceSubDiff, if_pos rfl, opLen, el, e1], by simp only [go_sem, seval, -Nat.reduceSubDiff, if_pos rfl, opLen, el, e2], by simp only [go_sem, seval, -Nat.reduceSubDiff, if_pos rfl, opLen, el, e3], by simp only [go_sem, seval, -Nat.reduceSubDiff, if_pos rfl, opLen, el, e9], by simp only [go_sem, seval, -Nat.reduceSubDiff, if_pos rfl, opLen, el, e10]⟩, rfl, rfl, hai, hI⟩) ?_
      intro x fr' σ1 lg1 hlg1 hB1 h
      obtain ⟨rfl, rfl, ts1, rfl, F1⟩ := h
      obtain rfl : lg1 = [] := List.eq_nil_iff_forall_not_mem.2 fun z hz => hB1 z hz
      have e0f := F1.t0
      have e1f := F1.t1
      have e2f := F1.t2
      have e3f := F1.t3
      have e9f := F1.t9
      have e10f := F1.t10
      have elf := F1.size
      simp only [sliceS] at e0f
      simp only [go_sem, seval, -Nat.reduceSubDiff, if_pos rfl, opLen, undef, pisB, pisA, loopOf, nthC, blockOf, Try.f156, Option.getD, Int.toNat_natCast, e0f, e1f, e2f, e3f, e9f, e10f, elf, b1, b2, b3, wb, w1, w2, w4, g1, nk, x1s, x2s, l1s, l2s, o1s, o2s, l3s, p1s, p2s, p3s, p4s]
      generalize hσs : (σ1.set k (AObj.cells (cellsL (d.setIfInBounds I d[I - 1]!).toList ++ G) false)).set k (AObj.cells (cellsL ((d.setIfInBounds I d[I - 1]!).setIfInBounds (I - 1) d[I]!).toList ++ G) false) = σs at H1 ⊢
      clear hσs
      refine loop_then (qdown_loop (s := s) (n := d.size) (cap := cap) (G := G) hc (a := a) (b := b) (u := 5 - (m + 1)) (i := I) (D := Sort.shiftDown lt (I - 1) d1) hbn hn (I - 1) _ _ ⟨_, d1, I - 1, rfl, ⟨by simp only [List.length_set, elf], by simp only [go_sem, seval, -Nat.reduceSubDiff, if_pos rfl, opLen, elf, e0f] <;> rfl, by simp only [go_sem, seval, -Nat.reduceSubDiff, if_pos rfl, opLen, elf, e1f], by simp only [go_sem, seval, -Nat.reduceSubDiff, if_pos rfl, opLen, elf, e2f], by simp only [go_sem, seval, -Nat.reduceSubDiff, if_pos rfl, opLen, elf, e3f], by simp only [go_sem, seval, -Nat.reduceSubDiff, if_pos rfl, opLen, elf, e9f], by simp only [go_sem, seval, -Nat.reduceSubDiff, if_pos rfl, opLen, elf, e10f]⟩, by simp only [go_sem, seval, -Nat.reduceSubDiff, if_pos rfl, opLen, elf], H1, hz1, rfl, by omega, rfl⟩) ?_
      intro x fr' σ2 lg2 hlg2 hB2 h
      obtain ⟨rfl, ts2, rfl, F2, H2, hz2⟩ := h
      have e0g := F2.t0
      have e1g := F2.t1
      have e2g := F2.t2
      have e3g := F2.t3
      have e9g := F2.t9
      have e10g := F2.t10
      have elg := F2.size
      simp only [sliceS] at e0g
      simp only [go_sem, seval, -Nat.reduceSubDiff, if_pos rfl, opLen, undef, pisB, pisA, loopOf, nthC, blockOf, Try.f156, Option.getD, Int.toNat_natCast, e0g, e1g, e2g, e3g, e9g, e10g, elg, b4, w3, w4]
      refine loop_then (qup_loop (s := s) (n := d.size) (cap := cap) (G := G) hc (a := a) (b := b) (u := 5 - (m + 1)) (i := I) (D := Sort.shiftUp lt b (I + 1) (Sort.shiftDown lt (I - 1) d1)) hbn hn (b - (I + 1)) _ _ ⟨_, (Sort.shiftDown lt (I - 1) d1), I + 1, rfl, ⟨by simp only [List.length_set, elg], by simp only [go_sem, seval, -Nat.reduceSubDiff, if_pos rfl, opLen, elg, e0g] <;> rfl, by simp only [go_sem, seval, -Nat.reduceSubDiff, if_pos rfl, opLen, elg, e1g], by simp only [go_sem, seval, -Nat.reduceSubDiff, if_pos rfl, opLen, elg, e2g], by simp only [go_sem, seval, -Nat.reduceSubDiff, if_pos rfl, opLen, elg, e3g], by simp only [go_sem, seval, -Nat.reduceSubDiff, if_pos rfl, opLen, elg, e9g], by simp only [go_sem, seval, -Nat.reduceSubDiff, if_pos rfl, opLen, elg, e10g]⟩, by simp only [go_sem, seval, -Nat.reduceSubDiff, if_pos rfl, opLen, elg], H2, hz2, rfl, by omega, rfl⟩) ?_
      intro x fr' σ3 lg3 hlg3 hB3 h
      obtain ⟨rfl, ts3, rfl, F3, H3, hz3⟩ := h
      have e0h := F3.t0
      have e1h := F3.t1
      have e2h := F3.t2
      have e3h := F3.t3
      have e9h := F3.t9
      have e10h := F3.t10
      have elh := F3.size
      simp only [sliceS] at e0h
      simp only [go_sem, seval, -Nat.reduceSubDiff, if_pos rfl, opLen, undef, pisB, pisA, loopOf, nthC, blockOf, Try.f156, Option.getD, Int.toNat_natCast, e0h, e1h, e2h, e3h, e9h, e10h, elh, wu]
      refine ⟨?_, m, by omega, _, (Sort.shiftUp lt b (I + 1) (Sort.shiftDown lt (I - 1) d1)), I, rfl, ?_, by omega, by omega, by omega, H3, hz3, hD⟩
      ·first | exact ⟨.inl trivial, .inl trivial, fun z hz => hz.elim (hB2 z) (hB3 z)⟩ | exact ⟨.inl trivial, .inl trivial, hB2⟩ | exact ⟨.inl trivial, .inl trivial, hB3⟩ | exact .inl trivial
      ·exact ⟨by simp only [List.length_set, elh], by simp only [go_sem, seval, -Nat.reduceSubDiff, if_pos rfl, opLen, elh, e0h] <;> rfl, by simp only [go_sem, seval, -Nat.reduceSubDiff, if_pos rfl, opLen, elh, e1h], by simp only [go_sem, seval, -Nat.reduceSubDiff, if_pos rfl, opLen, elh, e2h], by simp only [go_sem, seval, -Nat.reduceSubDiff, if_pos rfl, opLen, elh, e3h], by simp only [go_sem, seval, -Nat.reduceSubDiff, if_pos rfl, opLen, elh, e9h], by simp only [go_sem, seval, -Nat.reduceSubDiff, if_pos rfl, opLen, elh, e10h, wu]⟩
     ·have b3 : (2 : Int) ≤ ((I - a : Nat) : Int) := by omega
      have b4 : ¬ (2 : Int) ≤ ((b - I : Nat) : Int) := by omega
      rw [if_pos h3, if_neg h4] at hD
      simp only [go_sem, seval, -Nat.reduceSubDiff, if_pos rfl, opLen, undef, pisB, pisA, loopOf, nthC, blockOf, Try.f156, Option.getD, Int.toNat_natCast, e0, e1, e2, e3, e9, e10, el, c0]
      refine loop_then (qs_loop (s := s) (cap := cap) (G := G) hc H (a := a) (b := b) (u := 5 - (m + 1)) hbn (I := I) _ _ _ ⟨_, i, rfl, ⟨by simp only [List.length_set, el], by simp only [go_sem, seval, -Nat.reduceSubDiff, if_pos rfl, opLen, el, e0] <;> rfl, by simp only [go_sem, seval, -Nat.reduceSubDiff, if_pos rfl, opLen, el, e1], by simp only [go_sem, seval, -Nat.reduceSubDiff, if_pos rfl, opLen, el, e2], by simp only [go_sem, seval, -Nat.reduceSubDiff, if_pos rfl, opLen, el, e3], by simp only [go_sem, seval, -Nat.reduceSubDiff, if_pos rfl, opLen, el, e9], by simp only [go_sem, seval, -Nat.reduceSubDiff, if_pos rfl, opLen, el, e10]⟩, rfl, rfl, hai, hI⟩) ?_
      intro x fr' σ1 lg1 hlg1 hB1 h
      obtain ⟨rfl, rfl, ts1, rfl, F1⟩ := h
      obtain rfl : lg1 = [] := List.eq_nil_iff_forall_not_mem.2 fun z hz => hB1 z hz
      have e0f := F1.t0
      have e1f := F1.t1
      have e2f := F1.t2
      have e3f := F1.t3
      have e9f := F1.t9
      have e10f := F1.t10
      have elf := F1.size
      simp only [sliceS] at e0f
      simp only [go_sem, seval, -Nat.reduceSubDiff, if_pos rfl, opLen, undef, pisB, pisA, loopOf, nthC, blockOf, Try.f156, Option.getD, Int.toNat_natCast, e0f, e1f, e2f, e3f, e9f, e10f, elf, b1, b2, b3, wb, w1, w2, w4, g1, nk, x1s, x2s, l1s, l2s, o1s, o2s, l3s, p1s, p2s, p3s, p4s]
      generalize hσs : (σ1.set k (AObj.cells (cellsL (d.setIfInBounds I d[I - 1]!).toList ++ G) false)).set k (AObj.cells (cellsL ((d.setIfInBounds I d[I - 1]!).setIfInBounds (I - 1) d[I]!).toList ++ G) false) = σs at H1 ⊢
      clear hσs
      refine loop_then (qdown_loop (s := s) (n := d.size) (cap := cap) (G := G) hc (a := a) (b := b) (u := 5 - (m + 1)) (i := I) (D := Sort.shiftDown lt (I - 1) d1) hbn hn (I - 1) _ _ ⟨_, d1, I - 1, rfl, ⟨by simp only [List.length_set, elf], by simp only [go_sem, seval, -Nat.reduceSubDiff, if_pos rfl, opLen, elf, e0f] <;> rfl, by simp only [go_sem, seval, -Nat.reduceSubDiff, if_pos rfl, opLen, elf, e1f], by simp only [go_sem, seval, -Nat.reduceSubDiff, if_pos rfl, opLen, elf, e2f], by simp only [go_sem, seval, -Nat.reduceSubDiff, if_pos rfl, opLen, elf, e3f], by simp only [go_sem, seval, -Nat.reduceSubDiff, if_pos rfl, opLen, elf, e9f], by simp only [go_sem, seval, -Nat.reduceSubDiff, if_pos rfl, opLen, elf, e10f]⟩, by simp only [go_sem, seval, -Nat.reduceSubDiff, if_pos rfl, opLen, elf], H1, hz1, rfl, by omega, rfl⟩) ?_
      intro x fr' σ2 lg2 hlg2 hB2 h
      obtain ⟨rfl, ts2, rfl, F2, H2, hz2⟩ := h
      have e0g := F2.t0
      have e1g := F2.t1
      have e2g := F2.t2
      have e3g := F2.t3
      have e9g := F2.t9
      have e10g := F2.t10
      have elg := F2.size
      simp only [sliceS] at e0g
      simp only [go_sem, seval, -Nat.reduceSubDiff, if_pos rfl, opLen, undef, pisB, pisA, loopOf, nthC, blockOf, Try.f156, Option.getD, Int.toNat_natCast, e0g, e1g, e2g, e3g, e9g, e10g, elg, b4, w3, w4]
      try simp only [go_sem, seval, -Nat.reduceSubDiff, if_pos rfl, opLen, undef, pisB, pisA, loopOf, nthC, blockOf, Try.f156, Option.getD, Int.toNat_natCast, e0g, e1g, e2g, e3g, e9g, e10g, elg, wu]
      refine ⟨?_, m, by omega, _, (Sort.shiftDown lt (I - 1) d1), I, rfl, ?_, by omega, by omega, by omega, H2, hz2, hD⟩
      ·first | exact ⟨.inl trivial, .inl trivial, fun z hz => hz.elim (hB2 z) (hB3 z)⟩ | exact ⟨.inl trivial, .inl trivial, hB2⟩ | exact ⟨.inl trivial, .inl trivial, hB3⟩ | exact .inl trivial
      ·exact ⟨by simp only [List.length_set, elg], by simp only [go_sem, seval, -Nat.reduceSubDiff, if_pos rfl, opLen, elg, e0g] <;> rfl, by simp only [go_sem, seval, -Nat.reduceSubDiff, if_pos rfl, opLen, elg, e1g], by simp only [go_sem, seval, -Nat.reduceSubDiff, if_pos rfl, opLen, elg, e2g], by simp only [go_sem, seval, -Nat.reduceSubDiff, if_pos rfl, opLen, elg, e3g], by simp only [go_sem, seval, -Nat.reduceSubDiff, if_pos rfl, opLen, elg, e9g], by simp only [go_sem, seval, -Nat.reduceSubDiff, if_pos rfl, opLen, elg, e10g, wu]⟩
    ·by_cases h4 : b - I ≥ 2
     ·have b3 : ¬ (2 : Int) ≤ ((I - a : Nat) : Int) := by omega
      have b4 : (2 : Int) ≤ ((b - I : Nat) : Int) := by omega
      rw [if_neg h3, if_pos h4] at hD
      simp only [go_sem, seval, -Nat.reduceSubDiff, if_pos rfl, opLen, undef, pisB, pisA, loopOf, nthC, blockOf, Try.f156, Option.getD, Int.toNat_natCast, e0, e1, e2, e3, e9, e10, el, c0]
      refine loop_then (qs_loop (s := s) (cap := cap) (G := G) hc H (a := a) (b := b) (u := 5 - (m + 1)) hbn (I := I) _ _ _ ⟨_, i, rfl, ⟨by simp only [List.length_set, el], by simp only [go_sem, seval, -Nat.reduceSubDiff, if_pos rfl, opLen, el, e0] <;> rfl, by simp only [go_sem, seval, -Nat.reduceSubDiff, if_pos rfl, opLen, el, e1], by simp only [go_sem, seval, -Nat.reduceSubDiff, if_pos rfl, opLen, el, e2], by simp only [go_sem, seval, -Nat.reduceSubDiff, if_pos rfl, opLen, el, e3], by simp only [go_sem, seval, -Nat.reduceSubDiff, if_pos rfl, opLen, el, e9], by simp only [go_sem, seval, -Nat.reduceSubDiff, if_pos rfl, opLen, el, e10]⟩, rfl, rfl, hai, hI⟩) ?_
      intro x fr' σ1 lg1 hlg1 hB1 h
      obtain ⟨rfl, rfl, ts1, rfl, F1⟩ := h
      obtain rfl : lg1 = [] := List.eq_nil_iff_forall_not_mem.2 fun z hz => hB1 z hz
      have e0f := F1.t0
      have e1f := F1.t1
      have e2f := F1.t2
      have e3f := F1.t3
      have e9f := F1.t9
      have e10f := F1.t10
      have elf := F1.size
      simp only [sliceS] at e0f
      simp only [go_sem, seval, -Nat.reduceSubDiff, if_pos rfl, opLen, undef, pisB, pisA, loopOf, nthC, blockOf, Try.f156, Option.getD, Int.toNat_natCast, e0f, e1f, e2f, e3f, e9f, e10f, elf, b1, b2, b3, b4, w3, wb, w1, w2, w4, g1, nk, x1s, x2s, l1s, l2s, o1s, o2s, l3s, p1s, p2s, p3s, p4s]
      generalize hσs : (σ1.set k (AObj.cells (cellsL (d.setIfInBounds I d[I - 1]!).toList ++ G) false)).set k (AObj.cells (cellsL ((d.setIfInBounds I d[I - 1]!).setIfInBounds (I - 1) d[I]!).toList ++ G) false) = σs at H1 ⊢
      clear hσs
      refine loop_then (qup_loop (s := s) (n := d.size) (cap := cap) (G := G) hc (a := a) (b := b) (u := 5 - (m + 1)) (i := I) (D := Sort.shiftUp lt b (I + 1) d1) hbn hn (b - (I + 1)) _ _ ⟨_, d1, I + 1, rfl, ⟨by simp only [List.length_set, elf], by simp only [go_sem, seval, -Nat.reduceSubDiff, if_pos rfl, opLen, elf, e0f] <;> rfl, by simp only [go_sem, seval, -Nat.reduceSubDiff, if_pos rfl, opLen, elf, e1f], by simp only [go_sem, seval, -Nat.reduceSubDiff, if_pos rfl, opLen, elf, e2f], by simp only [go_sem, seval, -Nat.reduceSubDiff, if_pos rfl, opLen, elf, e3f], by simp only [go_sem, seval, -Nat.reduceSubDiff, if_pos rfl, opLen, elf, e9f], by simp only [go_sem, seval, -Nat.reduceSubDiff, if_pos rfl, opLen, elf, e10f]⟩, by simp only [go_sem, seval, -Nat.reduceSubDiff, if_pos rfl, opLen, elf], H1, hz1, rfl, by omega, rfl⟩) ?_
      intro x fr' σ3 lg3 hlg3 hB3 h
      obtain ⟨rfl, ts3, rfl, F3, H3, hz3⟩ := h
      have e0h := F3.t0
      have e1h := F3.t1
      have e2h := F3.t2
      have e3h := F3.t3
      have e9h := F3.t9
      have e10h := F3.t10
      have elh := F3.size
      simp only [sliceS] at e0h
      simp only [go_sem, seval, -Nat.reduceSubDiff, if_pos rfl, opLen, undef, pisB, pisA, loopOf, nthC, blockOf, Try.f156, Option.getD, Int.toNat_natCast, e0h, e1h, e2h, e3h, e9h, e10h, elh, wu]
      refine ⟨?_, m, by omega, _, (Sort.shiftUp lt b (I + 1) d1), I, rfl, ?_, by omega, by omega, by omega, H3, hz3, hD⟩
      ·first | exact ⟨.inl trivial, .inl trivial, fun z hz => hz.elim (hB2 z) (hB3 z)⟩ | exact ⟨.inl trivial, .inl trivial, hB2⟩ | exact ⟨.inl trivial, .inl trivial, hB3⟩ | exact .inl trivial
      ·exact ⟨by simp only [List.length_set, elh], by simp only [go_sem, seval, -Nat.reduceSubDiff, if_pos rfl, opLen, elh, e0h] <;> rfl, by simp only [go_sem, seval, -Nat.reduceSubDiff, if_pos rfl, opLen, elh, e1h], by simp only [go_sem, seval, -Nat.reduceSubDiff, if_pos rfl, opLen, elh, e2h], by simp only [go_sem, seval, -Nat.reduceSubDiff, if_pos rfl, opLen, elh, e3h], by simp only [go_sem, seval, -Nat.reduceSubDiff, if_pos rfl, opLen, elh, e9h], by simp only [go_sem, seval, -Nat.reduceSubDiff, if_pos rfl, opLen, elh, e10h, wu]⟩
     ·have b3 : ¬ (2 : Int) ≤ ((I - a : Nat) : Int) := by omega
      have b4 : ¬ (2 : Int) ≤ ((b - I : Nat) : Int) := by omega
      rw [if_neg h3, if_neg h4] at hD
      simp only [go_sem, seval, -Nat.reduceSubDiff, if_pos rfl, opLen, undef, pisB, pisA, loopOf, nthC, blockOf, Try.f156, Option.getD, Int.toNat_natCast, e0, e1, e2, e3, e9, e10, el, c0]
      refine loop_then (qs_loop (s := s) (cap := cap) (G := G) hc H (a := a) (b := b) (u := 5 - (m + 1)) hbn (I := I) _ _ _ ⟨_, i, rfl, ⟨by simp only [List.length_set, el], by simp only [go_sem, seval, -Nat.reduceSubDiff, if_pos rfl, opLen, el, e0] <;> rfl, by simp only [go_sem, seval, -Nat.reduceSubDiff, if_pos rfl, opLen, el, e1], by simp only [go_sem, seval, -Nat.reduceSubDiff, if_pos rfl, opLen, el, e2], by simp only [go_sem, seval, -Nat.reduceSubDiff, if_pos rfl, opLen, el, e3], by simp only [go_sem, seval, -Nat.reduceSubDiff, if_pos rfl, opLen, el, e9], by simp only [go_sem, seval, -Nat.reduceSubDiff, if_pos rfl, opLen, el, e10]⟩, rfl, rfl, hai, hI⟩) ?_
      intro x fr' σ1 lg1 hlg1 hB1 h
      obtain ⟨rfl, rfl, ts1, rfl, F1⟩ := h
      obtain rfl : lg1 = [] := List.eq_nil_iff_forall_not_mem.2 fun z hz => hB1 z hz
      have e0f := F1.t0
      have e1f := F1.t1
      have e2f := F1.t2
      have e3f := F1.t3
      have e9f := F1.t9
      have e10f := F1.t10
      have elf := F1.size
      simp only [sliceS] at e0f
      simp only [go_sem, seval, -Nat.reduceSubDiff, if_pos rfl, opLen, undef, pisB, pisA, loopOf, nthC, blockOf, Try.f156, Option.getD, Int.toNat_natCast, e0f, e1f, e2f, e3f, e9f, e10f, elf, b1, b2, b3, b4, w3, wb, w1, w2, w4, g1, nk, x1s, x2s, l1s, l2s, o1s, o2s, l3s, p1s, p2s, p3s, p4s]
      generalize hσs : (σ1.set k (AObj.cells (cellsL (d.setIfInBounds I d[I - 1]!).toList ++ G) false)).set k (AObj.cells (cellsL ((d.setIfInBounds I d[I - 1]!).setIfInBounds (I - 1) d[I]!).toList ++ G) false) = σs at H1 ⊢
      clear hσs
      try simp only [go_sem, seval, -Nat.reduceSubDiff, if_pos rfl, opLen, undef, pisB, pisA, loopOf, nthC, blockOf, Try.f156, Option.getD, Int.toNat_natCast, e0f, e1f, e2f, e3f, e9f, e10f, elf, wu]
      refine ⟨?_, m, by omega, _, d1, I, rfl, ?_, by omega, by omega, by omega, H1, hz1, hD⟩
      ·first | exact ⟨.inl trivial, .inl trivial, fun z hz => hz.elim (hB2 z) (hB3 z)⟩ | exact ⟨.inl trivial, .inl trivial, hB2⟩ | exact ⟨.inl trivial, .inl trivial, hB3⟩ | exact .inl trivial
      ·exact ⟨by simp only [List.length_set, elf], by simp only [go_sem, seval, -Nat.reduceSubDiff, if_pos rfl, opLen, elf, e0f] <;> rfl, by simp only [go_sem, seval, -Nat.reduceSubDiff, if_pos rfl, opLen, elf, e1f], by simp only [go_sem, seval, -Nat.reduceSubDiff, if_pos rfl, opLen, elf, e2f], by simp only [go_sem, seval, -Nat.reduceSubDiff, if_pos rfl, opLen, elf, e3f], by simp only [go_sem, seval, -Nat.reduceSubDiff, if_pos rfl, opLen, elf, e9f], by simp only [go_sem, seval, -Nat.reduceSubDiff, if_pos rfl, opLen, elf, e10f, wu]⟩
set_option maxHeartbeats 3200000 in
set_option maxRecDepth 20000 in
theorem pis_call (hc : CmpOk σ0 k g ys lt p) {a b : Nat} {d : Array Item} {σ : St} (H : SAt σ0 k d G p σ) (hab : a < b) (hbn : b ≤ d.size) :
  callX Try.prog 156 [sliceS k s d.size cap, .int .i64 a, .int .i64 b, .func (.func g) ⟨[]⟩ ⟨ys⟩] σ (SortE σ0 k G p (.bool (Sort.partialInsertionSort lt d a b).2) (Sort.partialInsertionSort lt d a b).1) := by
 have hsm := H.small
 have w1 : IntKind.i64.wrap ((a : Int) + 1) = ((a + 1 : Nat) : Int) := by
  have : (a : Int) + 1 = ((a + 1 : Nat) : Int) := by omega
  rw [this]; exact wrapIN (by omega)
 obtain ⟨D, hD⟩ : ∃ D, D = (Sort.partialInsertionSort lt d a b).1 := ⟨_, rfl⟩
 obtain ⟨R, hR⟩ : ∃ R, R = (Sort.partialInsertionSort lt d a b).2 := ⟨_, rfl⟩
 rw [← hD, ← hR]
 refine enter (p := q0) Try.func156 rfl stat156 ?_
 simp only [go_sem, seval, -Nat.reduceSubDiff, if_pos rfl, opLen, undef, sliceS, Try.f156, w1]
 refine loop_then (pis_loop (s := s) (n := d.size) (cap := cap) (G := G) hc (a := a) (b := b) (by omega) hbn hsm (D := D) (R := R) 5 _ _ ⟨_, d, a + 1, rfl, ⟨rfl, rfl, rfl, rfl, rfl, rfl, rfl⟩, by omega, by omega, by omega, H, rfl, by rw [hD, hR]; rfl⟩) ?_
 intro x fr' σ' lg hlg hB h
 obtain ⟨hds, hlen, H', h⟩ := h
 obtain ⟨ts', ds'⟩ := fr'
 simp only at hds hlen h
 subst hds
 rcases h with ⟨rfl, rfl⟩ | ⟨rfl, h8⟩
 ·simp only [go_sem, seval, -Nat.reduceSubDiff, if_pos rfl, opLen, undef, hlen]
  exact ⟨rfl, hB, H'⟩
 ·simp only [go_sem, seval, -Nat.reduceSubDiff, if_pos rfl, opLen, undef, hlen, h8]
  exact ⟨rfl, hB, H'⟩
end
end Go.Ab
namespace Go.Ab
open Go.Proofs
structure FZ (ts : List Value) (dv cv : Value) (a b limit : Nat) : Prop where
 size : ts.length = 148
 t0 : lget ts 0 = dv
 t1 : lget ts 1 = .int .i64 a
 t2 : lget ts 2 = .int .i64 b
 t3 : lget ts 3 = .int .i64 limit
 t4 : lget ts 4 = cv
 t10 : ∃ w, lget ts 10 = .bool w
 t11 : ∃ w, lget ts 11 = .bool w
noncomputable def pdqL : Code := loopOf (nthC 2 (Try.f147.body.getD .skip))
noncomputable def pdqX : Code := blockOf pdqL
noncomputable def pdqT1 : Code := dropC 4 pdqX
noncomputable def pdqT2 : Code := dropC 6 pdqX
noncomputable def pdqT3 : Code := dropC 7 pdqX
noncomputable def pdqT4 : Code := dropC 8 pdqX
theorem pdqL_is : pdqL = Code.block 1 ((nthC 0 pdqX).seq ((nthC 1 pdqX).seq ((nthC 2 pdqX).seq ((nthC 3 pdqX).seq pdqT1)))) := by rfl
theorem pdqT1_is : pdqT1 = (nthC 4 pdqX).seq ((nthC 5 pdqX).seq pdqT2) := by rfl
theorem pdqT2_is : pdqT2 = (nthC 6 pdqX).seq pdqT3 := by rfl
theorem pdqT3_is : pdqT3 = (nthC 7 pdqX).seq pdqT4 := by rfl
def PdqR (σ0 : St) (k : Nat) (G : List Value) (p : Item → Prop) (lt : Item → Item → Bool) (a b : Nat) (d : Array Item) (e : AE) (σ' : St) (lg : Log) : Prop :=
 e = .ret (.tuple ⟨[]⟩) ∧ ∃ D, SortR σ0 k G p D σ' lg ∧ Sort.PermIn a b d D ∧ Sort.SortedIn lt a b D
def PdqOk (σ0 : St) (k s n cap : Nat) (g : FuncId) (ys : List Value) (lt : Item → Item → Bool) (p : Item → Prop) (G : List Value) (N : Nat) : Prop :=
 ∀ (a b limit : Nat) (d : Array Item) (σ : St), b - a < N → b - a < 256 → limit < 1000 → SAt σ0 k d G p σ → d.size = n → a ≤ b → b ≤ n → Sort.Below lt a b d →
  callX Try.prog 147 [sliceS k s n cap, .int .i64 a, .int .i64 b, .int .i64 limit, .func (.func g) ⟨[]⟩ ⟨ys⟩] σ (PdqR σ0 k G p lt a b d)
section
variable {σ0 : St} {k s n cap : Nat} {g : FuncId} {ys : List Value} {lt : Item → Item → Bool} {p : Item → Prop} {G : List Value}
def PdqN (σ0 : St) (k s n cap : Nat) (g : FuncId) (ys : List Value) (lt : Item → Item → Bool) (p : Item → Prop) (G : List Value) (a b limit : Nat) (d : Array Item) (ts' : List Value) (σ' : St) (lg : Log) : Prop :=
 ∃ d', ∃ a' b' : Nat, FZ ts' (sliceS k s n cap) (.func (.func g) ⟨[]⟩ ⟨ys⟩) a' b' limit ∧ SAt σ0 k d' G p σ' ∧ d'.size = n ∧ a' ≤ b' ∧ b' ≤ n ∧ b' - a' < b - a ∧ Sort.Below lt a' b' d' ∧
  (∀ R, Sort.PermIn a' b' d' R → Sort.SortedIn lt a' b' R → Sort.PermIn a b d R ∧ Sort.SortedIn lt a b R) ∧ ∀ z ∈ lg, z = k ∨ σ0.next ≤ z
def PdqD (σ0 : St) (k : Nat) (G : List Value) (p : Item → Prop) (lt : Item → Item → Bool) (a b : Nat) (d : Array Item) (σ' : St) (lg : Log) : Prop :=
 ∃ D, SAt σ0 k D G p σ' ∧ Sort.PermIn a b d D ∧ Sort.SortedIn lt a b D ∧ ∀ z ∈ lg, z = k ∨ σ0.next ≤ z
theorem PdqN.of {a b limit : Nat} {d d1 : Array Item} {ts' : List Value} {σ' : St} {lg lg' : Log} (hp : Sort.PermIn a b d d1) (hl : ∀ z ∈ lg', z ∈ lg ∨ z = k ∨ σ0.next ≤ z) (h : PdqN σ0 k s n cap g ys lt p G a b limit d1 ts' σ' lg) : PdqN σ0 k s n cap g ys lt p G a b limit d ts' σ' lg' := by
 obtain ⟨d', a', b', h1, h2, h3, h4, h5, h6, h7, h8, h9⟩ := h
 exact ⟨d', a', b', h1, h2, h3, h4, h5, h6, h7, fun R hR hs => ⟨Sort.permIn_trans _ _ _ _ _ hp (h8 R hR hs).1, (h8 R hR hs).2⟩, fun z hz => (hl z hz).elim (h9 z) id⟩
theorem PdqD.of {a b : Nat} {d d1 : Array Item} {σ' : St} {lg lg' : Log} (hp : Sort.PermIn a b d d1) (hl : ∀ z ∈ lg', z ∈ lg ∨ z = k ∨ σ0.next ≤ z) (h : PdqD σ0 k G p lt a b d1 σ' lg) : PdqD σ0 k G p lt a b d σ' lg' := by
 obtain ⟨D, h1, h2, h3, h9⟩ := h
 exact ⟨D, h1, Sort.permIn_trans _ _ _ _ _ hp h2, h3, fun z hz => (hl z hz).elim (h9 z) id⟩
set_option maxHeartbeats 6400000 in
set_option maxRecDepth 20000 in
theorem pdq_T4 (hc : CmpOk σ0 k g ys lt p) (hw : Sort.SWO lt) {N a b limit pivot : Nat} {ts : List Value} {σ : St} {d : Array Item} (hN : b - a ≤ N) (F : FZ ts (sliceS k s n cap) (.func (.func g) ⟨[]⟩ ⟨ys⟩) a b limit) (e12 : lget ts 12 = .int .i64 ((b - a : Nat) : Int)) (e13 : lget ts 13 = .int .i64 pivot) (H : SAt σ0 k d G p σ) (hdn : d.size = n) (hn : n < 500000) (hap : a ≤ pivot) (hpb : pivot < b) (hbn : b ≤ n) (h256 : b - a < 256) (hlim : limit < 1000) (hB : Sort.Below lt a b d) (ih : PdqOk σ0 k s n cap g ys lt p G N) (K : RR → Prop)
  (hK : ∀ ts' σ' lg, PdqN σ0 k s n cap g ys lt p G a b limit d ts' σ' lg → K ⟨.norm, ⟨ts', []⟩, σ', lg⟩) :
  wp (cP Try.prog) q0 (btAll 147) false pdqT4 ⟨ts, []⟩ σ K := by
 have e0 := F.t0
 have e1 := F.t1
 have e2 := F.t2
 have e3 := F.t3
 have e4 := F.t4
 obtain ⟨wB, e10⟩ := F.t10
 obtain ⟨wP, e11⟩ := F.t11
 have el := F.size
 have hsm := H.small
 simp only [sliceS] at e0
 subst hdn
 obtain ⟨⟨mid, ap, d4⟩, hx⟩ : ∃ x, Sort.partition lt d a b pivot = x := ⟨_, rfl⟩
 have hpc := part_call (s := s) (cap := cap) hc H hap hpb hbn
 rw [hx] at hpc
 simp only [sliceS] at hpc
 obtain ⟨g1, g2, hs4, hBa, hBr, hleft, hright⟩ := Sort.round_part hw (Sort.partition_holds lt) hap hpb hbn hB hx
 have nz : ¬ (8 : Int) = 0 := by decide
 obtain ⟨q, hq⟩ : ∃ q, q = (b - a) / 8 := ⟨_, rfl⟩
 have t1 : IntKind.i64.wrap (((b - a : Nat) : Int).tdiv 8) = (q : Int) := by
  rw [Int.tdiv_eq_ediv_of_nonneg (by omega), hq]
  have : ((b - a : Nat) : Int) / 8 = (((b - a) / 8 : Nat) : Int) := by omega
  rw [this]; exact wrapIN (by omega)
 have w1 : IntKind.i64.wrap ((mid : Int) - (a : Int)) = ((mid - a : Nat) : Int) := by
  have : (mid : Int) - (a : Int) = ((mid - a : Nat) : Int) := by omega
  rw [this]; exact wrapIN (by omega)
 have w2 : IntKind.i64.wrap ((b : Int) - (mid : Int)) = ((b - mid : Nat) : Int) := by
  have : (b : Int) - (mid : Int) = ((b - mid : Nat) : Int) := by omega
  rw [this]; exact wrapIN (by omega)
 have w3 : IntKind.i64.wrap ((mid : Int) + 1) = ((mid + 1 : Nat) : Int) := by
  have : (mid : Int) + 1 = ((mid + 1 : Nat) : Int) := by omega
  rw [this]; exact wrapIN (by omega)
 by_cases hlr : mid - a < b - mid
 ·have c0 : ((mid - a : Nat) : Int) < ((b - mid : Nat) : Int) := by omega
  obtain ⟨w, hwd⟩ : ∃ w, decide ((q : Int) ≤ ((mid - a : Nat) : Int)) = w := ⟨_, rfl⟩
  simp only [go_sem, seval, if_pos rfl, opLen, undef, pdqX, pdqL, loopOf, nthC, dropC, blockOf, Try.f147, Option.getD, Int.toNat_natCast, pdqT4, e0, e1, e2, e3, e4, e10, e11, el, e12, e13]
  refine callX.hidE hpc ?_
  intro e σ1 lg1 hlg1 hA
  obtain ⟨rfl, hB1, H1⟩ := hA
  have hrec := ih a mid limit d4 σ1 (by omega) (by omega) hlim H1 hs4 (by omega) (by omega) hBa
  simp only [sliceS] at hrec
  refine ⟨?_⟩
  simp only [go_sem, seval, if_pos rfl, opLen, undef, pdqX, pdqL, loopOf, nthC, dropC, blockOf, Try.f147, Option.getD, Int.toNat_natCast, e0, e1, e2, e3, e4, e10, e11, el, e12, e13, w1, w2, w3, t1, nz, c0, hwd]
  refine callX.hidE hrec ?_
  intro e σ2 lg2 hlg2 hA
  obtain ⟨rfl, D, ⟨hB2, H2⟩, hP, hS⟩ := hA
  have hsz : D.size = d.size := hP.1.trans hs4
  refine ⟨?_⟩
  simp only [go_sem, seval, if_pos rfl, opLen, undef, pdqX, pdqL, loopOf, nthC, dropC, blockOf, Try.f147, Option.getD, Int.toNat_natCast, e0, e1, e2, e3, e4, e10, e11, el, e12, e13, w1, w2, w3, t1, nz, c0, hwd]
  refine hK _ _ _ ⟨D, mid + 1, b, ⟨by simp only [List.length_set, el], by simp only [go_sem, seval, if_pos rfl, opLen, el, e0] <;> rfl, by simp only [go_sem, seval, if_pos rfl, opLen, el, w3], by simp only [go_sem, seval, if_pos rfl, opLen, el, e2], by simp only [go_sem, seval, if_pos rfl, opLen, el, e3], by simp only [go_sem, seval, if_pos rfl, opLen, el, e4], ⟨w, by simp only [go_sem, seval, if_pos rfl, opLen, el]⟩, ⟨ap, by simp only [go_sem, seval, if_pos rfl, opLen, el]⟩⟩, H2, hsz, by omega, by omega, by omega, (hleft D hP hS).1, (hleft D hP hS).2, ?_⟩
  intro z hz
  simp only [List.mem_append, List.mem_cons, List.not_mem_nil, or_false, false_or] at hz
  exact hz.elim (hB1 z) (hB2 z)
 ·have c0 : ¬ ((mid - a : Nat) : Int) < ((b - mid : Nat) : Int) := by omega
  obtain ⟨w, hwd⟩ : ∃ w, decide ((q : Int) ≤ ((b - mid : Nat) : Int)) = w := ⟨_, rfl⟩
  simp only [go_sem, seval, if_pos rfl, opLen, undef, pdqX, pdqL, loopOf, nthC, dropC, blockOf, Try.f147, Option.getD, Int.toNat_natCast, pdqT4, e0, e1, e2, e3, e4, e10, e11, el, e12, e13]
  refine callX.hidE hpc ?_
  intro e σ1 lg1 hlg1 hA
  obtain ⟨rfl, hB1, H1⟩ := hA
  have hrec := ih (mid + 1) b limit d4 σ1 (by omega) (by omega) hlim H1 hs4 (by omega) (by omega) hBr
  simp only [sliceS] at hrec
  refine ⟨?_⟩
  simp only [go_sem, seval, if_pos rfl, opLen, undef, pdqX, pdqL, loopOf, nthC, dropC, blockOf, Try.f147, Option.getD, Int.toNat_natCast, e0, e1, e2, e3, e4, e10, e11, el, e12, e13, w1, w2, w3, t1, nz, c0, hwd]
  refine callX.hidE hrec ?_
  intro e σ2 lg2 hlg2 hA
  obtain ⟨rfl, D, ⟨hB2, H2⟩, hP, hS⟩ := hA
  have hsz : D.size = d.size := hP.1.trans hs4
  refine ⟨?_⟩
  simp only [go_sem, seval, if_pos rfl, opLen, undef, pdqX, pdqL, loopOf, nthC, dropC, blockOf, Try.f147, Option.getD, Int.toNat_natCast, e0, e1, e2, e3, e4, e10, e11, el, e12, e13, w1, w2, w3, t1, nz, c0, hwd]
  refine hK _ _ _ ⟨D, a, mid, ⟨by simp only [List.length_set, el], by simp only [go_sem, seval, if_pos rfl, opLen, el, e0] <;> rfl, by simp only [go_sem, seval, if_pos rfl, opLen, el, e1], by simp only [go_sem, seval, if_pos rfl, opLen, el, w3], by simp only [go_sem, seval, if_pos rfl, opLen, el, e3], by simp only [go_sem, seval, if_pos rfl, opLen, el, e4], ⟨w, by simp only [go_sem, seval, if_pos rfl, opLen, el]⟩, ⟨ap, by simp only [go_sem, seval, if_pos rfl, opLen, el]⟩⟩, H2, hsz, by omega, by omega, by omega, (hright D hP hS).1, (hright D hP hS).2, ?_⟩
  intro z hz
  simp only [List.mem_append, List.mem_cons, List.not_mem_nil, or_false, false_or] at hz
  exact hz.elim (hB1 z) (hB2 z)
attribute [irreducible] pdqT4
set_option maxHeartbeats 6400000 in
set_option maxRecDepth 20000 in
theorem pdq_T3 (hc : CmpOk σ0 k g ys lt p) (hw : Sort.SWO lt) {N a b limit pivot : Nat} {ts : List Value} {σ : St} {d : Array Item} (hN : b - a ≤ N) (F : FZ ts (sliceS k s n cap) (.func (.func g) ⟨[]⟩ ⟨ys⟩) a b limit) (e12 : lget ts 12 = .int .i64 ((b - a : Nat) : Int)) (e13 : lget ts 13 = .int .i64 pivot) (H : SAt σ0 k d G p σ) (hdn : d.size = n) (hn : n < 500000) (hap : a ≤ pivot) (hpb : pivot < b) (hbn : b ≤ n) (h256 : b - a < 256) (hlim : limit < 1000) (hB : Sort.Below lt a b d) (ih : PdqOk σ0 k s n cap g ys lt p G N) (K : RR → Prop)
  (hK : ∀ ts' σ' lg, PdqN σ0 k s n cap g ys lt p G a b limit d ts' σ' lg → K ⟨.norm, ⟨ts', []⟩, σ', lg⟩ ∧ K ⟨.exit 1, ⟨ts', []⟩, σ', lg⟩) :
  wp (cP Try.prog) q0 (btAll 147) false pdqT3 ⟨ts, []⟩ σ K := by
 have e0 := F.t0
 have e1 := F.t1
 have e2 := F.t2
 have e3 := F.t3
 have e4 := F.t4
 obtain ⟨wB, e10⟩ := F.t10
 obtain ⟨wP, e11⟩ := F.t11
 have el := F.size
 have hsm := H.small
 simp only [sliceS] at e0
 rw [pdqT3_is]
 by_cases ha : 0 < a
 ·have c0 : (0 : Int) < (a : Int) := by omega
  subst hdn
  obtain ⟨r, hd, hr⟩ := hc.call σ H.base d[a - 1]! d[pivot]! (H.all _ (by omega)) (H.all _ (by omega))
  have hb := hc.body
  have g1 := H.get
  have x1 := arr_at (d := d) (G := G) (i := a - 1) (by omega)
  have x2 := arr_at (d := d) (G := G) (i := pivot) (by omega)
  have l1 : (a - 1) * 4 + 4 ≤ (cellsL d.toList ++ G).length := by rw [arr_len]; omega
  have l2 : pivot * 4 + 4 ≤ (cellsL d.toList ++ G).length := by rw [arr_len]; omega
  have c1 : (0 : Int) ≤ ((a - 1 : Nat) : Int) := by omega
  have c2 : ((a - 1 : Nat) : Int) < (d.size : Int) := by omega
  have c3 : (0 : Int) ≤ (pivot : Int) := by omega
  have c4 : (pivot : Int) < (d.size : Int) := by omega
  have w1 : IntKind.i64.wrap ((a : Int) - 1) = ((a - 1 : Nat) : Int) := by
   have : (a : Int) - 1 = ((a - 1 : Nat) : Int) := by omega
   rw [this]; exact wrapIN (by omega)
  have nk : ¬ σ.next ≤ k := by have := H.lt; have := H.base.nx; omega
  simp only [Item.cells] at x1 x2
  by_cases hr0 : r < 0
  ·simp only [go_sem, seval, if_pos rfl, opLen, undef, pdqX, pdqL, loopOf, nthC, dropC, blockOf, Try.f147, Option.getD, Int.toNat_natCast, e0, e1, e2, e3, e4, e10, e11, el, e12, e13, g1, hb, x1, x2, l1, l2, c0, c1, c2, c3, c4, w1, nk]
   refine .of hd ?_
   simp only [go_sem, seval, if_pos rfl, opLen, undef, pdqX, pdqL, loopOf, nthC, dropC, blockOf, Try.f147, Option.getD, Int.toNat_natCast, e0, e1, e2, e3, e4, e10, e11, el, e12, e13, g1, hb, x1, x2, l1, l2, c0, c1, c2, c3, c4, w1, nk, hr0]
   exact pdq_T4 hc hw (pivot := pivot) hN ⟨by simp only [List.length_set, el], by simp only [go_sem, seval, if_pos rfl, opLen, el, e0] <;> rfl, by simp only [go_sem, seval, if_pos rfl, opLen, el, e1], by simp only [go_sem, seval, if_pos rfl, opLen, el, e2], by simp only [go_sem, seval, if_pos rfl, opLen, el, e3], by simp only [go_sem, seval, if_pos rfl, opLen, el, e4], ⟨wB, by simp only [go_sem, seval, if_pos rfl, opLen, el, e10]⟩, ⟨wP, by simp only [go_sem, seval, if_pos rfl, opLen, el, e11]⟩⟩ (by simp only [go_sem, seval, if_pos rfl, opLen, el, e12]) (by simp only [go_sem, seval, if_pos rfl, opLen, el, e13]) H rfl hn hap hpb hbn h256 hlim hB ih _ fun ts' σ' lg h => by simpa only [preW_mk, List.nil_append] using (hK ts' σ' lg h).1
  ·have hlt : lt d[a - 1]! d[pivot]! = false := by rw [← hr]; simp [hr0]
   obtain ⟨⟨mid, d4⟩, hx⟩ : ∃ x, Sort.partitionEqual lt d a b pivot = x := ⟨_, rfl⟩
   have hpc := parteq_call (s := s) (cap := cap) hc H hap hpb hbn
   rw [hx] at hpc
   simp only [sliceS] at hpc
   obtain ⟨q1, q2, hs4, hB4, hfin⟩ := Sort.round_eq hw (Sort.partitionEqual_holds lt) ha hap hpb hbn hB hlt hx
   simp only [go_sem, seval, if_pos rfl, opLen, undef, pdqX, pdqL, loopOf, nthC, dropC, blockOf, Try.f147, Option.getD, Int.toNat_natCast, e0, e1, e2, e3, e4, e10, e11, el, e12, e13, g1, hb, x1, x2, l1, l2, c0, c1, c2, c3, c4, w1, nk]
   refine .of hd ?_
   simp only [go_sem, seval, if_pos rfl, opLen, undef, pdqX, pdqL, loopOf, nthC, dropC, blockOf, Try.f147, Option.getD, Int.toNat_natCast, e0, e1, e2, e3, e4, e10, e11, el, e12, e13, g1, hb, x1, x2, l1, l2, c0, c1, c2, c3, c4, w1, nk, hr0]
   refine callX.hidE hpc ?_
   intro e σ1 lg1 hlg1 hA
   obtain ⟨rfl, hB1, H1⟩ := hA
   refine ⟨?_⟩
   simp only [go_sem, seval, if_pos rfl, opLen, undef, pdqX, pdqL, loopOf, nthC, dropC, blockOf, Try.f147, Option.getD, Int.toNat_natCast, e0, e1, e2, e3, e4, e10, e11, el, e12, e13, g1, hb, x1, x2, l1, l2, c0, c1, c2, c3, c4, w1, nk]
   refine (hK _ _ _ ⟨d4, mid, b, ⟨by simp only [List.length_set, el], by simp only [go_sem, seval, if_pos rfl, opLen, el, e0] <;> rfl, by simp only [go_sem, seval, if_pos rfl, opLen, el, e1], by simp only [go_sem, seval, if_pos rfl, opLen, el, e2], by simp only [go_sem, seval, if_pos rfl, opLen, el, e3], by simp only [go_sem, seval, if_pos rfl, opLen, el, e4], ⟨wB, by simp only [go_sem, seval, if_pos rfl, opLen, el, e10]⟩, ⟨wP, by simp only [go_sem, seval, if_pos rfl, opLen, el, e11]⟩⟩, H1, hs4, by omega, by omega, by omega, hB4, hfin, ?_⟩).2
   intro z hz
   exact hB1 z (by simpa using hz)
 ·have c0 : ¬ (0 : Int) < (a : Int) := by omega
  simp only [go_sem, seval, if_pos rfl, opLen, undef, pdqX, pdqL, loopOf, nthC, dropC, blockOf, Try.f147, Option.getD, Int.toNat_natCast, e0, e1, e2, e3, e4, e10, e11, el, e12, e13, c0]
  exact pdq_T4 hc hw (pivot := pivot) hN ⟨by simp only [List.length_set, el], by simp only [go_sem, seval, if_pos rfl, opLen, el, e0] <;> rfl, by simp only [go_sem, seval, if_pos rfl, opLen, el, e1], by simp only [go_sem, seval, if_pos rfl, opLen, el, e2], by simp only [go_sem, seval, if_pos rfl, opLen, el, e3], by simp only [go_sem, seval, if_pos rfl, opLen, el, e4], ⟨wB, by simp only [go_sem, seval, if_pos rfl, opLen, el, e10]⟩, ⟨wP, by simp only [go_sem, seval, if_pos rfl, opLen, el, e11]⟩⟩ (by simp only [go_sem, seval, if_pos rfl, opLen, el, e12]) (by simp only [go_sem, seval, if_pos rfl, opLen, el, e13]) H hdn hn hap hpb hbn h256 hlim hB ih _ fun ts' σ' lg h => by simpa only [preW_mk, List.nil_append] using (hK ts' σ' lg h).1
attribute [irreducible] pdqT3
set_option maxHeartbeats 6400000 in
set_option maxRecDepth 20000 in
theorem pdq_T2 (hc : CmpOk σ0 k g ys lt p) (hw : Sort.SWO lt) {h : Int} {N a b limit pivot : Nat} {ts : List Value} {σ : St} {d : Array Item} (hN : b - a ≤ N) (F : FZ ts (sliceS k s n cap) (.func (.func g) ⟨[]⟩ ⟨ys⟩) a b limit) (e12 : lget ts 12 = .int .i64 ((b - a : Nat) : Int)) (e13 : lget ts 13 = .int .i64 pivot) (e14 : lget ts 14 = .int .i64 h) (H : SAt σ0 k d G p σ) (hdn : d.size = n) (hn : n < 500000) (hap : a ≤ pivot) (hpb : pivot < b) (hbn : b ≤ n) (h256 : b - a < 256) (hlim : limit < 1000) (hB : Sort.Below lt a b d) (ih : PdqOk σ0 k s n cap g ys lt p G N) (K : RR → Prop)
  (hK : ∀ ts' σ' lg, PdqN σ0 k s n cap g ys lt p G a b limit d ts' σ' lg → K ⟨.norm, ⟨ts', []⟩, σ', lg⟩ ∧ K ⟨.exit 1, ⟨ts', []⟩, σ', lg⟩)
  (hD : ∀ ts' σ' lg, PdqD σ0 k G p lt a b d σ' lg → K ⟨.ret, ⟨ts', []⟩, σ', lg⟩) :
  wp (cP Try.prog) q0 (btAll 147) false pdqT2 ⟨ts, []⟩ σ K := by
 have e0 := F.t0
 have e1 := F.t1
 have e2 := F.t2
 have e3 := F.t3
 have e4 := F.t4
 obtain ⟨wB, e10⟩ := F.t10
 obtain ⟨wP, e11⟩ := F.t11
 have el := F.size
 have hsm := H.small
 simp only [sliceS] at e0
 rw [pdqT2_is]
 have go : ∀ b1 b2 b3 : Bool, wB = b1 → wP = b2 → (h == 1) = b3 → (b1 && b2 && b3) = false → wp (cP Try.prog) q0 (btAll 147) false ((nthC 6 pdqX).seq pdqT3) ⟨ts, []⟩ σ K := by
  rintro b1 b2 b3 rfl rfl h3 hh
  cases wB with
  | false =>
   simp only [go_sem, seval, if_pos rfl, opLen, undef, pdqX, pdqL, loopOf, nthC, dropC, blockOf, Try.f147, Option.getD, Int.toNat_natCast, e0, e1, e2, e3, e4, e10, e11, el, e12, e13, e14]
   exact pdq_T3 hc hw (pivot := pivot) hN ⟨by simp only [List.length_set, el], by simp only [go_sem, seval, if_pos rfl, opLen, el, e0] <;> rfl, by simp only [go_sem, seval, if_pos rfl, opLen, el, e1], by simp only [go_sem, seval, if_pos rfl, opLen, el, e2], by simp only [go_sem, seval, if_pos rfl, opLen, el, e3], by simp only [go_sem, seval, if_pos rfl, opLen, el, e4], ⟨false, by simp only [go_sem, seval, if_pos rfl, opLen, el, e10]⟩, ⟨wP, by simp only [go_sem, seval, if_pos rfl, opLen, el, e11]⟩⟩ (by simp only [go_sem, seval, if_pos rfl, opLen, el, e12]) (by simp only [go_sem, seval, if_pos rfl, opLen, el, e13]) H hdn hn hap hpb hbn h256 hlim hB ih _ fun ts' σ' lg h => by simpa only [preW_mk, List.nil_append] using hK ts' σ' lg h
  | true => cases wP with
   | false =>
    simp only [go_sem, seval, if_pos rfl, opLen, undef, pdqX, pdqL, loopOf, nthC, dropC, blockOf, Try.f147, Option.getD, Int.toNat_natCast, e0, e1, e2, e3, e4, e10, e11, el, e12, e13, e14]
    exact pdq_T3 hc hw (pivot := pivot) hN ⟨by simp only [List.length_set, el], by simp only [go_sem, seval, if_pos rfl, opLen, el, e0] <;> rfl, by simp only [go_sem, seval, if_pos rfl, opLen, el, e1], by simp only [go_sem, seval, if_pos rfl, opLen, el, e2], by simp only [go_sem, seval, if_pos rfl, opLen, el, e3], by simp only [go_sem, seval, if_pos rfl, opLen, el, e4], ⟨true, by simp only [go_sem, seval, if_pos rfl, opLen, el, e10]⟩, ⟨false, by simp only [go_sem, seval, if_pos rfl, opLen, el, e11]⟩⟩ (by simp only [go_sem, seval, if_pos rfl, opLen, el, e12]) (by simp only [go_sem, seval, if_pos rfl, opLen, el, e13]) H hdn hn hap hpb hbn h256 hlim hB ih _ fun ts' σ' lg h => by simpa only [preW_mk, List.nil_append] using hK ts' σ' lg h
   | true =>
    obtain rfl : b3 = false := by simpa using hh
    simp only [go_sem, seval, if_pos rfl, opLen, undef, pdqX, pdqL, loopOf, nthC, dropC, blockOf, Try.f147, Option.getD, Int.toNat_natCast, e0, e1, e2, e3, e4, e10, e11, el, e12, e13, e14, h3]
    exact pdq_T3 hc hw (pivot := pivot) hN ⟨by simp only [List.length_set, el], by simp only [go_sem, seval, if_pos rfl, opLen, el, e0] <;> rfl, by simp only [go_sem, seval, if_pos rfl, opLen, el, e1], by simp only [go_sem, seval, if_pos rfl, opLen, el, e2], by simp only [go_sem, seval, if_pos rfl, opLen, el, e3], by simp only [go_sem, seval, if_pos rfl, opLen, el, e4], ⟨true, by simp only [go_sem, seval, if_pos rfl, opLen, el, e10]⟩, ⟨true, by simp only [go_sem, seval, if_pos rfl, opLen, el, e11]⟩⟩ (by simp only [go_sem, seval, if_pos rfl, opLen, el, e12]) (by simp only [go_sem, seval, if_pos rfl, opLen, el, e13]) H hdn hn hap hpb hbn h256 hlim hB ih _ fun ts' σ' lg h => by simpa only [preW_mk, List.nil_append] using hK ts' σ' lg h
 by_cases hall : (wB && wP && (h == 1)) = false
 ·exact go wB wP (h == 1) rfl rfl rfl hall
 ·clear go
  obtain ⟨rfl, rfl, h3'⟩ : wB = true ∧ wP = true ∧ h = 1 := by simpa using hall
  have h3 : (h == 1) = true := by rw [h3']; rfl
  subst hdn
  have hpc := pis_call (s := s) (cap := cap) hc H (show a < b by omega) hbn
  have hps := Sort.partialInsertionSort_holds (lt := lt) hw d a b (by omega) hbn hB
  obtain ⟨D, hDe⟩ : ∃ D, (Sort.partialInsertionSort lt d a b).1 = D := ⟨_, rfl⟩
  obtain ⟨R, hRe⟩ : ∃ R, (Sort.partialInsertionSort lt d a b).2 = R := ⟨_, rfl⟩
  rw [hDe, hRe] at hpc hps
  simp only [sliceS] at hpc
  obtain ⟨hP, hS⟩ := hps
  cases R with
  | true =>
   simp only [go_sem, seval, if_pos rfl, opLen, undef, pdqX, pdqL, loopOf, nthC, dropC, blockOf, Try.f147, Option.getD, Int.toNat_natCast, e0, e1, e2, e3, e4, e10, e11, el, e12, e13, e14, h3]
   refine callX.hidE hpc ?_
   intro e σ1 lg1 hlg1 hA
   obtain ⟨rfl, hB1, H1⟩ := hA
   refine ⟨?_⟩
   simp only [go_sem, seval, if_pos rfl, opLen, undef, pdqX, pdqL, loopOf, nthC, dropC, blockOf, Try.f147, Option.getD, Int.toNat_natCast, e0, e1, e2, e3, e4, e10, e11, el, e12, e13, e14, h3]
   refine hD _ _ _ ⟨D, H1, hP, hS rfl, ?_⟩
   intro z hz
   exact hB1 z (by simpa using hz)
  | false =>
   simp only [go_sem, seval, if_pos rfl, opLen, undef, pdqX, pdqL, loopOf, nthC, dropC, blockOf, Try.f147, Option.getD, Int.toNat_natCast, e0, e1, e2, e3, e4, e10, e11, el, e12, e13, e14, h3]
   refine callX.hidE hpc ?_
   intro e σ1 lg1 hlg1 hA
   obtain ⟨rfl, hB1, H1⟩ := hA
   have hBD := hB.perm hbn hP
   have hsz : D.size = d.size := hP.1
   refine ⟨?_⟩
   simp only [go_sem, seval, if_pos rfl, opLen, undef, pdqX, pdqL, loopOf, nthC, dropC, blockOf, Try.f147, Option.getD, Int.toNat_natCast, e0, e1, e2, e3, e4, e10, e11, el, e12, e13, e14, h3]
   refine pdq_T3 hc hw (pivot := pivot) hN ⟨by simp only [List.length_set, el], by simp only [go_sem, seval, if_pos rfl, opLen, el, e0] <;> rfl, by simp only [go_sem, seval, if_pos rfl, opLen, el, e1], by simp only [go_sem, seval, if_pos rfl, opLen, el, e2], by simp only [go_sem, seval, if_pos rfl, opLen, el, e3], by simp only [go_sem, seval, if_pos rfl, opLen, el, e4], ⟨true, by simp only [go_sem, seval, if_pos rfl, opLen, el, e10]⟩, ⟨true, by simp only [go_sem, seval, if_pos rfl, opLen, el, e11]⟩⟩ (by simp only [go_sem, seval, if_pos rfl, opLen, el, e12]) (by simp only [go_sem, seval, if_pos rfl, opLen, el, e13]) H1 hsz hn hap hpb hbn h256 hlim hBD ih _ ?_
   intro ts' σ' lg h
   have := hK ts' σ' (lg1 ++ lg) (h.of hP fun z hz => (List.mem_append.1 hz).elim (fun h => .inr (hB1 z h)) .inl)
   simpa only [preW_mk, List.append_assoc, List.nil_append] using this
attribute [irreducible] pdqT2
set_option maxHeartbeats 6400000 in
set_option maxRecDepth 20000 in
theorem pdq_T1 (hc : CmpOk σ0 k g ys lt p) (hw : Sort.SWO lt) {N a b limit : Nat} {ts : List Value} {σ : St} {d : Array Item} (hN : b - a ≤ N) (F : FZ ts (sliceS k s n cap) (.func (.func g) ⟨[]⟩ ⟨ys⟩) a b limit) (e12 : lget ts 12 = .int .i64 ((b - a : Nat) : Int))  (H : SAt σ0 k d G p σ) (hdn : d.size = n) (hn : n < 500000) (h8 : a + 8 ≤ b) (hbn : b ≤ n) (h256 : b - a < 256) (hlim : limit < 1000) (hB : Sort.Below lt a b d) (ih : PdqOk σ0 k s n cap g ys lt p G N) (K : RR → Prop)
  (hK : ∀ ts' σ' lg, PdqN σ0 k s n cap g ys lt p G a b limit d ts' σ' lg → K ⟨.norm, ⟨ts', []⟩, σ', lg⟩ ∧ K ⟨.exit 1, ⟨ts', []⟩, σ', lg⟩)
  (hD : ∀ ts' σ' lg, PdqD σ0 k G p lt a b d σ' lg → K ⟨.ret, ⟨ts', []⟩, σ', lg⟩) :
  wp (cP Try.prog) q0 (btAll 147) false pdqT1 ⟨ts, []⟩ σ K := by
 have e0 := F.t0
 have e1 := F.t1
 have e2 := F.t2
 have e3 := F.t3
 have e4 := F.t4
 obtain ⟨wB, e10⟩ := F.t10
 obtain ⟨wP, e11⟩ := F.t11
 have el := F.size
 have hsm := H.small
 simp only [sliceS] at e0
 subst hdn
 have hpc := piv_call (s := s) (cap := cap) hc H h8 hbn
 simp only [sliceS] at hpc
 rw [pdqT1_is]
 have w1 : IntKind.i64.wrap ((b : Int) - 1) = ((b - 1 : Nat) : Int) := by
  have : (b : Int) - 1 = ((b - 1 : Nat) : Int) := by omega
  rw [this]; exact wrapIN (by omega)
 simp only [go_sem, seval, if_pos rfl, opLen, undef, pdqX, pdqL, loopOf, nthC, dropC, blockOf, Try.f147, Option.getD, Int.toNat_natCast, e0, e1, e2, e3, e4, e10, e11, el, e12]
 refine callX.hidE hpc ?_
 intro e σ1 lg1 hlg1 hA
 obtain ⟨x, h, hxr, hh, rfl, hB1, H1⟩ := hA
 have hB1' : ∀ z ∈ lg1, z = k ∨ σ0.next ≤ z := fun z hz => .inr (hB1 z hz)
 have w2 : IntKind.i64.wrap ((x : Int) - (a : Int)) = ((x - a : Nat) : Int) := by
  have : (x : Int) - (a : Int) = ((x - a : Nat) : Int) := by omega
  rw [this]; exact wrapIN (by omega)
 have w3 : IntKind.i64.wrap (((b - 1 : Nat) : Int) - ((x - a : Nat) : Int)) = ((b - 1 - (x - a) : Nat) : Int) := by
  have : ((b - 1 : Nat) : Int) - ((x - a : Nat) : Int) = ((b - 1 - (x - a) : Nat) : Int) := by omega
  rw [this]; exact wrapIN (by omega)
 by_cases h2 : h = 2
 ·subst h2
  have b1 : ((2 : Int) == 2) = true := by decide
  have hrc := rev_call (s := s) (cap := cap) (cv := .func (.func g) ⟨[]⟩ ⟨ys⟩) H1 (show a < b by omega) hbn
  simp only [sliceS] at hrc
  have hP := Sort.reverseRange_holds d a b (by omega) hbn
  have hBD := hB.perm hbn hP
  have hsz : (Sort.reverseRange d a b).size = d.size := hP.1
  refine ⟨?_⟩
  simp only [go_sem, seval, if_pos rfl, opLen, undef, pdqX, pdqL, loopOf, nthC, dropC, blockOf, Try.f147, Option.getD, Int.toNat_natCast, e0, e1, e2, e3, e4, e10, e11, el, e12, b1]
  refine callX.hidE hrc ?_
  intro e σ2 lg2 hlg2 hA
  obtain ⟨rfl, hB2, H2⟩ := hA
  refine ⟨?_⟩
  simp only [go_sem, seval, if_pos rfl, opLen, undef, pdqX, pdqL, loopOf, nthC, dropC, blockOf, Try.f147, Option.getD, Int.toNat_natCast, e0, e1, e2, e3, e4, e10, e11, el, e12, b1, w1, w2, w3]
  refine pdq_T2 hc hw (pivot := b - 1 - (x - a)) (h := 1) hN ⟨by simp only [List.length_set, el], by simp only [go_sem, seval, if_pos rfl, opLen, el, e0] <;> rfl, by simp only [go_sem, seval, if_pos rfl, opLen, el, e1], by simp only [go_sem, seval, if_pos rfl, opLen, el, e2], by simp only [go_sem, seval, if_pos rfl, opLen, el, e3], by simp only [go_sem, seval, if_pos rfl, opLen, el, e4], ⟨wB, by simp only [go_sem, seval, if_pos rfl, opLen, el, e10]⟩, ⟨wP, by simp only [go_sem, seval, if_pos rfl, opLen, el, e11]⟩⟩ (by simp only [go_sem, seval, if_pos rfl, opLen, el, e12]) (by simp only [go_sem, seval, if_pos rfl, opLen, el, w3]) (by simp only [go_sem, seval, if_pos rfl, opLen, el]) H2 hsz hn (by omega) (by omega) hbn h256 hlim hBD ih _ ?_ ?_
  ·intro ts' σ' lg h
   have := hK ts' σ' (lg1 ++ (lg2 ++ lg)) (h.of hP fun z hz => (List.mem_append.1 hz).elim (fun h => .inr (hB1' z h)) fun hz => (List.mem_append.1 hz).elim (fun h => .inr (hB2 z h)) .inl)
   simpa only [preW_mk, List.append_assoc, List.nil_append] using this
  ·intro ts' σ' lg h
   have := hD ts' σ' (lg1 ++ (lg2 ++ lg)) (h.of hP fun z hz => (List.mem_append.1 hz).elim (fun h => .inr (hB1' z h)) fun hz => (List.mem_append.1 hz).elim (fun h => .inr (hB2 z h)) .inl)
   simpa only [preW_mk, List.append_assoc, List.nil_append] using this
 ·have b1 : (h == 2) = false := by rw [beq_eq_false_iff_ne]; exact h2
  refine ⟨?_⟩
  simp only [go_sem, seval, if_pos rfl, opLen, undef, pdqX, pdqL, loopOf, nthC, dropC, blockOf, Try.f147, Option.getD, Int.toNat_natCast, e0, e1, e2, e3, e4, e10, e11, el, e12, b1]
  refine pdq_T2 hc hw (pivot := x) (h := h) hN ⟨by simp only [List.length_set, el], by simp only [go_sem, seval, if_pos rfl, opLen, el, e0] <;> rfl, by simp only [go_sem, seval, if_pos rfl, opLen, el, e1], by simp only [go_sem, seval, if_pos rfl, opLen, el, e2], by simp only [go_sem, seval, if_pos rfl, opLen, el, e3], by simp only [go_sem, seval, if_pos rfl, opLen, el, e4], ⟨wB, by simp only [go_sem, seval, if_pos rfl, opLen, el, e10]⟩, ⟨wP, by simp only [go_sem, seval, if_pos rfl, opLen, el, e11]⟩⟩ (by simp only [go_sem, seval, if_pos rfl, opLen, el, e12]) (by simp only [go_sem, seval, if_pos rfl, opLen, el]) (by simp only [go_sem, seval, if_pos rfl, opLen, el]) H1 rfl hn hxr.1 hxr.2 hbn h256 hlim hB ih _ ?_ ?_
  ·intro ts' σ' lg h
   have := hK ts' σ' (lg1 ++ lg) (h.of (Sort.permIn_refl _ _ _) fun z hz => (List.mem_append.1 hz).elim (fun h => .inr (hB1' z h)) .inl)
   simpa only [preW_mk, List.append_assoc, List.nil_append] using this
  ·intro ts' σ' lg h
   have := hD ts' σ' (lg1 ++ lg) (h.of (Sort.permIn_refl _ _ _) fun z hz => (List.mem_append.1 hz).elim (fun h => .inr (hB1' z h)) .inl)
   simpa only [preW_mk, List.append_assoc, List.nil_append] using this
attribute [irreducible] pdqT1
def IPd (σ0 : St) (k s n cap : Nat) (g : FuncId) (ys : List Value) (lt : Item → Item → Bool) (p : Item → Prop) (G : List Value) (N : Nat) (Fin : Array Item → Prop) (m : Nat) (fr : Fr) (σ : St) : Prop :=
 ∃ ts d, ∃ a b limit : Nat, fr = ⟨ts, []⟩ ∧ FZ ts (sliceS k s n cap) (.func (.func g) ⟨[]⟩ ⟨ys⟩) a b limit ∧ m = b - a ∧ b - a ≤ N ∧ b - a < 256 ∧ limit < 1000 ∧ SAt σ0 k d G p σ ∧ d.size = n ∧ a ≤ b ∧ b ≤ n ∧ Sort.Below lt a b d ∧ ∀ R, Sort.PermIn a b d R → Sort.SortedIn lt a b R → Fin R
def EPd (σ0 : St) (k : Nat) (p : Item → Prop) (G : List Value) (Fin : Array Item → Prop) (x : AX) (fr : Fr) (σ : St) : Prop :=
 x = .ret ∧ fr.ds = [] ∧ ∃ D, SAt σ0 k D G p σ ∧ Fin D
set_option maxHeartbeats 6400000 in
set_option maxRecDepth 20000 in
theorem pdq_loop (hc : CmpOk σ0 k g ys lt p) (hw : Sort.SWO lt) {N : Nat} (hn : n < 500000) (ih : PdqOk σ0 k s n cap g ys lt p G N) {Fin : Array Item → Prop} :
  ∀ m fr σ, IPd σ0 k s n cap g ys lt p G N Fin m fr σ → loopX Try.prog false pdqL fr σ (endL (EPd σ0 k p G Fin) fun z => z = k ∨ σ0.next ≤ z) := by
 refine loop_ind q0 147 (by kernel_rfl) _ _ _ ?_
 rintro m fr σ ⟨ts, d, a, b, limit, rfl, F, hm, hN, h256, hlim, H, hdn, hab, hbn, hB, hF⟩
 have e0 := F.t0
 have e1 := F.t1
 have e2 := F.t2
 have e3 := F.t3
 have e4 := F.t4
 obtain ⟨wB, e10⟩ := F.t10
 obtain ⟨wP, e11⟩ := F.t11
 have el := F.size
 have hsm := H.small
 simp only [sliceS] at e0
 have w1 : IntKind.i64.wrap ((b : Int) - (a : Int)) = ((b - a : Nat) : Int) := by
  have : (b : Int) - (a : Int) = ((b - a : Nat) : Int) := by omega
  rw [this]; exact wrapIN (by omega)
 rw [pdqL_is]
 subst hdn
 by_cases h12 : b - a ≤ 12
 ·have c0 : ((b - a : Nat) : Int) ≤ 12 := by omega
  have hic := ins_call (s := s) (cap := cap) hc H hab hbn
  have his := Sort.insertionSort_holds (lt := lt) hw d a b hab hbn
  simp only [sliceS] at hic
  simp only [go_sem, seval, if_pos rfl, opLen, undef, pdqX, pdqL, loopOf, nthC, dropC, blockOf, Try.f147, Option.getD, Int.toNat_natCast, e0, e1, e2, e3, e4, e10, e11, el, w1, c0]
  refine callX.hidE hic ?_
  intro e σ1 lg1 hlg1 hA
  obtain ⟨rfl, hB1, H1⟩ := hA
  refine ⟨?_⟩
  simp only [go_sem, seval, if_pos rfl, opLen, undef, pdqX, pdqL, loopOf, nthC, dropC, blockOf, Try.f147, Option.getD, Int.toNat_natCast, e0, e1, e2, e3, e4, e10, e11, el]
  exact ⟨by simpa using hB1, rfl, rfl, _, H1, hF _ his.1 his.2⟩
 ·have c0 : ¬ ((b - a : Nat) : Int) ≤ 12 := by omega
  by_cases hl0 : limit = 0
  ·have b0 : ((limit : Int) == 0) = true := by rw [hl0]; rfl
   have hic := heap_call (s := s) (cap := cap) hc H hab hbn hn
   have his := Sort.heapSort_holds (lt := lt) hw d a b hab hbn
   simp only [sliceS] at hic
   simp only [go_sem, seval, if_pos rfl, opLen, undef, pdqX, pdqL, loopOf, nthC, dropC, blockOf, Try.f147, Option.getD, Int.toNat_natCast, e0, e1, e2, e3, e4, e10, e11, el, w1, c0, b0]
   refine callX.hidE hic ?_
   intro e σ1 lg1 hlg1 hA
   obtain ⟨rfl, hB1, H1⟩ := hA
   refine ⟨?_⟩
   simp only [go_sem, seval, if_pos rfl, opLen, undef, pdqX, pdqL, loopOf, nthC, dropC, blockOf, Try.f147, Option.getD, Int.toNat_natCast, e0, e1, e2, e3, e4, e10, e11, el]
   exact ⟨by simpa using hB1, rfl, rfl, _, H1, hF _ his.1 his.2⟩
  ·have b0 : ((limit : Int) == 0) = false := by rw [beq_eq_false_iff_ne]; omega
   cases wB with
   | true =>
    simp only [go_sem, seval, if_pos rfl, opLen, undef, pdqX, pdqL, loopOf, nthC, dropC, blockOf, Try.f147, Option.getD, Int.toNat_natCast, e0, e1, e2, e3, e4, e10, e11, el, w1, c0, b0]
    refine pdq_T1 hc hw hN ⟨by simp only [List.length_set, el], by simp only [go_sem, seval, if_pos rfl, opLen, el, e0] <;> rfl, by simp only [go_sem, seval, if_pos rfl, opLen, el, e1], by simp only [go_sem, seval, if_pos rfl, opLen, el, e2], by simp only [go_sem, seval, if_pos rfl, opLen, el, e3], by simp only [go_sem, seval, if_pos rfl, opLen, el, e4], ⟨true, by simp only [go_sem, seval, if_pos rfl, opLen, el, e10]⟩, ⟨wP, by simp only [go_sem, seval, if_pos rfl, opLen, el, e11]⟩⟩ (by simp only [go_sem, seval, if_pos rfl, opLen, el]) H rfl hn (by omega) hbn h256 hlim hB ih _ ?_ ?_
    ·rintro ts' σ' lg ⟨d', a', b', q1, q2, q3, q4, q5, q6, q7, q8, q9⟩
     simp only [go_sem, seval, if_pos rfl, opLen]
     exact ⟨by simpa using q9, b' - a', by omega, ts', d', a', b', limit, rfl, q1, rfl, by omega, by omega, hlim, q2, q3, q4, q5, q7, fun R hR hs => hF R (q8 R hR hs).1 (q8 R hR hs).2⟩
    ·rintro ts' σ' lg ⟨D, q1, q2, q3, q4⟩
     simp only [go_sem, seval, if_pos rfl, opLen]
     exact ⟨by simpa using q4, rfl, rfl, D, q1, hF D q2 q3⟩
   | false =>
    have hbc := brk_call (s := s) (cap := cap) (vc := .func (.func g) ⟨[]⟩ ⟨ys⟩) H hab hbn h256
    simp only [sliceS] at hbc
    have wl : IntKind.i64.wrap ((limit : Int) - 1) = ((limit - 1 : Nat) : Int) := by
     have : (limit : Int) - 1 = ((limit - 1 : Nat) : Int) := by omega
     rw [this]; exact wrapIN (by omega)
    simp only [go_sem, seval, if_pos rfl, opLen, undef, pdqX, pdqL, loopOf, nthC, dropC, blockOf, Try.f147, Option.getD, Int.toNat_natCast, e0, e1, e2, e3, e4, e10, e11, el, w1, c0, b0]
    refine callX.hidE hbc ?_
    intro e σ1 lg1 hlg1 hA
    obtain ⟨rfl, D, ⟨hB1, H1⟩, hP⟩ := hA
    have hBD := hB.perm hbn hP
    have hsz : D.size = d.size := hP.1
    refine ⟨?_⟩
    simp only [go_sem, seval, if_pos rfl, opLen, undef, pdqX, pdqL, loopOf, nthC, dropC, blockOf, Try.f147, Option.getD, Int.toNat_natCast, e0, e1, e2, e3, e4, e10, e11, el, w1, c0, b0, wl]
    refine pdq_T1 hc hw hN ⟨by simp only [List.length_set, el], by simp only [go_sem, seval, if_pos rfl, opLen, el, e0] <;> rfl, by simp only [go_sem, seval, if_pos rfl, opLen, el, e1], by simp only [go_sem, seval, if_pos rfl, opLen, el, e2], by simp only [go_sem, seval, if_pos rfl, opLen, el, wl], by simp only [go_sem, seval, if_pos rfl, opLen, el, e4], ⟨false, by simp only [go_sem, seval, if_pos rfl, opLen, el, e10]⟩, ⟨wP, by simp only [go_sem, seval, if_pos rfl, opLen, el, e11]⟩⟩ (by simp only [go_sem, seval, if_pos rfl, opLen, el]) H1 hsz hn (by omega) hbn h256 (show limit - 1 < 1000 by omega) hBD ih _ ?_ ?_
    ·rintro ts' σ' lg ⟨d', a', b', q1, q2, q3, q4, q5, q6, q7, q8, q9⟩
     have hlg : ∀ z ∈ lg1 ++ lg, z = k ∨ σ0.next ≤ z := fun z hz => (List.mem_append.1 hz).elim (hB1 z) (q9 z)
     simp only [go_sem, seval, if_pos rfl, opLen]
     exact ⟨by simpa using hlg, b' - a', by omega, ts', d', a', b', limit - 1, rfl, q1, rfl, by omega, by omega, by omega, q2, q3, q4, q5, q7, fun R hR hs => hF R (Sort.permIn_trans _ _ _ _ _ hP (q8 R hR hs).1) (q8 R hR hs).2⟩
    ·rintro ts' σ' lg ⟨D', q1, q2, q3, q4⟩
     have hlg : ∀ z ∈ lg1 ++ lg, z = k ∨ σ0.next ≤ z := fun z hz => (List.mem_append.1 hz).elim (hB1 z) (q4 z)
     simp only [go_sem, seval, if_pos rfl, opLen]
     exact ⟨by simpa using hlg, rfl, rfl, D', q1, hF D' (Sort.permIn_trans _ _ _ _ _ hP q2) q3⟩
theorem pdq_step (hc : CmpOk σ0 k g ys lt p) (hw : Sort.SWO lt) {N : Nat} (hn : n < 500000) (ih : PdqOk σ0 k s n cap g ys lt p G N) : PdqOk σ0 k s n cap g ys lt p G (N + 1) := by
 intro a b limit d σ hlt h256 hlim H hdn hab hbn hB
 refine enter (p := q0) Try.func147 rfl stat147 ?_
 simp only [go_sem, seval, if_pos rfl, opLen, undef, sliceS, Try.f147]
 refine loop_then (pdq_loop (s := s) (n := n) (cap := cap) (G := G) hc hw hn ih (Fin := fun R => Sort.PermIn a b d R ∧ Sort.SortedIn lt a b R) (b - a) _ _ ⟨_, d, a, b, limit, rfl, ⟨rfl, rfl, rfl, rfl, rfl, rfl, ⟨_, rfl⟩, ⟨_, rfl⟩⟩, rfl, by omega, h256, hlim, H, hdn, hab, hbn, hB, fun R h1 h2 => ⟨h1, h2⟩⟩) ?_
 intro x fr' σ' lg hlg hBl h
 obtain ⟨rfl, hds, D, H', hP, hS⟩ := h
 obtain ⟨ts', ds'⟩ := fr'
 simp only at hds
 subst hds
 simp only [go_sem, seval, if_pos rfl, opLen]
 exact ⟨rfl, D, ⟨hBl, H'⟩, hP, hS⟩
theorem pdq_ok (hc : CmpOk σ0 k g ys lt p) (hw : Sort.SWO lt) (hn : n < 500000) : ∀ N, PdqOk σ0 k s n cap g ys lt p G N
 | 0 => fun _ _ _ _ _ h => absurd h (Nat.not_lt_zero _)
 | N + 1 => pdq_step hc hw hn (pdq_ok hc hw hn N)
end
end Go.Ab
namespace Go.Ab
open Go.Proofs
attribute [go_sem] callW q8 p8 p7 p6 p5 p4 p3 p2 p1 lget_put lgetq_put List.length_set Try.underlying2 info2 Try.t2 Try.underlying3 info3 Try.t3 Try.underlying4 info4 Try.t4 Try.underlying5 info5 Try.t5 Try.underlying23 info23 Try.t23 Try.underlying24 info24 Try.t24 Try.underlying28 info28 Try.t28 Try.underlying50 info50 Try.t50 Try.underlying53 info53 Try.t53 Try.underlying54 info54 Try.t54 Try.underlying57 info57 Try.t57 Try.underlying59 info59 Try.t59 Try.underlying73 info73 Try.t73 Try.underlying74 info74 Try.t74 Try.underlying75 info75 Try.t75 Try.underlying80 info80 Try.t80 Try.underlying81 info81 Try.t81 Try.underlying83 info83 Try.t83 Try.underlying86 info86 Try.t86 Try.underlying87 info87 Try.t87 Try.underlying88 info88 Try.t88 Try.underlying127 info127 Try.t127 Try.underlying132 info132 Try.t132 Try.underlying133 info133 Try.t133 Try.underlying135 info135 Try.t135 Try.underlying136 info136 Try.t136 Try.underlying137 info137 Try.t137 Try.underlying139 info139 Try.t139 Try.underlying140 info140 Try.t140 Try.underlying141 info141 Try.t141 Try.underlying142 info142 Try.t142 Try.underlying168 info168 Try.t168 Try.underlying169 info169 Try.t169 Try.underlying170 info170 Try.t170 Try.underlying171 info171 Try.t171 Try.underlying172 info172 Try.t172 Try.underlying175 info175 Try.t175 Try.underlying176 info176 Try.t176 Try.underlying201 info201 Try.t201 Try.underlying203 info203 Try.t203 Try.underlying204 info204 Try.t204
end Go.Ab
namespace Go.Ab
open Go.Proofs
end Go.Ab
namespace Go.Ab
open Go.Proofs
end Go.Ab
namespace Go.Ab
open Go.Proofs
end Go.Ab
namespace Go.Ab
open Go.Proofs
def findR : Code → Option (Array Tmp × Code × Code)
 | .rangeFunc _ ps a b => some (ps, a, b)
 | .block _ c => findR c
 | .scope c => findR c
 | .loop c => findR c
 | .seq a b => match findR a with | some x => some x | none => findR b
 | .cond _ a b => match findR a with | some x => some x | none => findR b
 | _ => none
end Go.Ab
namespace Go.Ab
open Go.Proofs
attribute [go_sem] Try.underlying181 info181 Try.t181 Try.underlying90 info90 Try.t90 Try.underlying176 info176 Try.t176
def ItS (lo : Nat) (σ : St) (v : Value) (L : List Item) : Prop := (v = .slice none 0 0 ∧ L = []) ∨ ∃ a, v = .slice (some ⟨a, 0, some 6⟩) L.length L.length ∧ σ.get a = some (.cells (cellsL L) false) ∧ lo ≤ a ∧ a < σ.next
def ItV (lo : Nat) (σ : St) (v : Value) (L : List Item) : Prop := (v = .slice none 0 0 ∧ L = []) ∨ ∃ a s cap G, v = .slice (some ⟨a, 0, some s⟩) L.length cap ∧ σ.get a = some (.cells (cellsL L ++ G) false) ∧ lo ≤ a ∧ a < σ.next
theorem ItS.keep {lo : Nat} {σ σ' : St} {v : Value} {L : List Item} (h : ItS lo σ v L) (hn : σ.next ≤ σ'.next) (hg : ∀ a, lo ≤ a → a < σ.next → σ'.get a = σ.get a) : ItS lo σ' v L := by
 rcases h with h | ⟨a, h1, h2, h3, h4⟩
 ·exact .inl h
 ·exact .inr ⟨a, h1, (hg a h3 h4).trans h2, h3, by omega⟩
theorem ItS.v {lo : Nat} {σ : St} {v : Value} {L : List Item} (h : ItS lo σ v L) : ItV lo σ v L := by
 rcases h with h | ⟨a, h1, h2, h3, h4⟩
 ·exact .inl h
 ·exact .inr ⟨a, 6, L.length, [], h1, by simpa using h2, h3, h4⟩
theorem und37w : (cP Try.prog).T.und 37 = some (.slice 31) := (cx_und 37).trans Try.underlying37
theorem inf31w : (cP Try.prog).T.info 31 = some Try.t31 := (cx_info 31).trans info31
theorem cellsL_app : ∀ A B : List Item, cellsL (A ++ B) = cellsL A ++ cellsL B
 | [], B => rfl
 | x :: A, B => by simp [cellsL, cellsL_app A B]
theorem it_first {σ : St} {b : Nat} {x : Item} (hg : σ.get b = some (.cells x.cells false)) :
  opAppend (cP Try.prog).T σ 37 37 (.slice none 0 0) (.slice (some ⟨b, 0, some 0⟩) 1 1) = some (.new (.cells x.cells false) (.slice (some ⟨σ.next, 0, some 6⟩) 1 1) [b]) := by
 simp only [Item.cells] at hg ⊢
 simp only [opAppend, und37w, inf31w, srcLen, Try.t31, srcCells, hg]
 simp [isSeqD, oneCells, plain, plainL, vcells]
theorem it_more {σ : St} {a b : Nat} {L : List Item} {x : Item} (ha : σ.get a = some (.cells (cellsL L) false)) (hg : σ.get b = some (.cells x.cells false)) (sm : L.length ≤ 1000000) :
  opAppend (cP Try.prog).T σ 37 37 (.slice (some ⟨a, 0, some 6⟩) L.length L.length) (.slice (some ⟨b, 0, some 0⟩) 1 1) =
   some (.eff (.slice (some ⟨σ.next, 0, some 6⟩) (L.length + 1) (L.length + 1)) ((σ.new (.cells (cellsL (L ++ [x])) false)).put a none) [a]) := by
 have l3 : ¬ 4294967296 ≤ L.length := by omega
 have tk : (cellsL L).take (L.length * 4) = cellsL L := List.take_of_length_le (by rw [cellsL_length]; omega)
 have ap : cellsL (L ++ [x]) = cellsL L ++ x.cells := by rw [cellsL_app]; simp [cellsL]
 rw [ap]
 simp only [Item.cells] at hg ⊢
 simp only [opAppend, und37w, inf31w, srcLen, Try.t31, srcCells, hg, ha]
 simp [isSeqD, oneCells, plain, plainL, vcells, l3, tk, cellsL_length]
 omega
structure YieldsI (y : Nat) (B : Nat → Prop) (L : List Item) (J : List Item → St → Prop) : Prop where
 round : ∀ done x rest σ, L = done ++ x :: rest → J done σ → roundX Try.prog y [(.agg ⟨x.cells⟩)] σ fun e σ' lg => e = .ret (.bool true) ∧ ((∀ z ∈ lg, B z) ∧ J (done ++ [x]) σ')
 keep : ∀ done σ σ', J done σ → σ.next ≤ σ'.next → (∀ z, z < σ.next → σ'.get z = σ.get z) → J done σ'
structure FYI (ts : List Value) (y : Nat) (v : Value) (n i : Nat) : Prop where
 size : ts.length = 16
 t0 : lget ts 0 = .func (.yield y) #[] #[]
 t5 : lget ts 5 = v
 t6 : lget ts 6 = .int .i64 n
 t7 : lget ts 7 = .int .i64 i
def IYI (y : Nat) (v : Value) (L : List Item) (J : List Item → St → Prop) (m : Nat) (fr : Fr) (σ : St) : Prop :=
 ∃ ts, ∃ i : Nat, fr = ⟨ts, []⟩ ∧ FYI ts y v L.length i ∧ m + i = L.length ∧ J (L.take i) σ
def EYI (L : List Item) (J : List Item → St → Prop) (x : AX) (fr : Fr) (σ : St) : Prop := x = .exit 0 ∧ fr.ds = [] ∧ J L σ
set_option maxRecDepth 20000 in
theorem seqI_loop {y n0 lo : Nat} {v : Value} {L : List Item} {B : Nat → Prop} {J : List Item → St → Prop} (hY : YieldsI y B L J) (hB : ∀ z, n0 ≤ z → B z) (hv : ∀ done σ, J done σ → ItV lo σ v L ∧ n0 ≤ σ.next) (hL : L.length < 1000000) :
  ∀ m fr σ, IYI y v L J m fr σ → loopX Try.prog false (loopOf (Try.f110.body.getD .skip)) fr σ (endL (EYI L J) B) := by
 refine loop_ind q0 110 (by kernel_rfl) _ _ _ ?_
 rintro m fr σ ⟨ts, i, rfl, F, hmi, hJ⟩
 have e0 := F.t0
 have e5 := F.t5
 have e6 := F.t6
 have e7 := F.t7
 have el := F.size
 by_cases hi : i < L.length
 ·have c0 : (i : Int) < (L.length : Int) := by omega
  have hx : L[i]? = some L[i] := List.getElem?_eq_getElem hi
  have hsp : L = L.take i ++ L[i] :: L.drop (i + 1) := by simp
  have tk : L.take (i + 1) = L.take i ++ [L[i]] := by rw [List.take_add_one, hx]; rfl
  generalize L[i] = x at hx hsp tk
  obtain ⟨hS, hn0⟩ := hv _ _ hJ
  rcases hS with ⟨_, rfl⟩ | ⟨a, s, cap, G, rfl, ga, ha1, ha2⟩
  ·simp at hi
  have c1 : (0 : Int) ≤ (i : Int) := by omega
  have ex := cells_at (G := G) hx
  have lx : i * 4 + 4 ≤ (cellsL L ++ G).length := by rw [List.length_append, cellsL_length]; omega
  simp only [Item.cells] at ex
  have na : ¬ σ.next = a := by omega
  have w1 : IntKind.i64.wrap ((i : Int) + 1) = ((i + 1 : Nat) : Int) := by
   have : (i : Int) + 1 = ((i + 1 : Nat) : Int) := by omega
   rw [this]; exact wrapIN (by omega)
  simp only [go_sem, seval, if_pos rfl, opLen, undef, loopOf, Try.f110, Option.getD, Int.toNat_natCast, e0, e5, e6, e7, el, ga, ha2, na, c0, c1, ex, lx]
  refine roundX.hid (hY.round _ x _ _ hsp (hY.keep _ σ _ hJ ?_ ?_)) ?_
  ·simp only [go_sem, seval, if_pos rfl, opLen, St.next_put] <;> omega
  ·intro z hz
   simp only [go_sem, seval, if_pos rfl, opLen, hz]
  intro σ1 lg1 hlg1 h1
  obtain ⟨hB1, hJ1⟩ := h1
  rw [← tk] at hJ1
  have hBn := hB σ.next hn0
  refine ⟨?_⟩
  simp only [go_sem, seval, if_pos rfl, opLen, undef, e0, e5, e6, e7, el, w1]
  exact ⟨⟨hBn, hB1⟩, m - 1, by omega, _, i + 1, rfl, ⟨by simp only [List.length_set, el], by simp only [go_sem, seval, if_pos rfl, opLen, el, e0], by simp only [go_sem, seval, if_pos rfl, opLen, el, e5], by simp only [go_sem, seval, if_pos rfl, opLen, el, e6], by simp only [go_sem, seval, if_pos rfl, opLen, el]⟩, by omega, hJ1⟩
 ·have c0 : ¬ (i : Int) < (L.length : Int) := by omega
  obtain rfl : i = L.length := by omega
  rw [List.take_length] at hJ
  simp only [go_sem, seval, if_pos rfl, opLen, undef, loopOf, Try.f110, Option.getD, e0, e5, e6, e7, el, c0]
  exact ⟨rfl, rfl, hJ⟩
set_option maxRecDepth 20000 in
theorem seqI_call {y n0 lo c : Nat} {v : Value} {L : List Item} {B : Nat → Prop} {J : List Item → St → Prop} (hY : YieldsI y B L J) (hB : ∀ z, n0 ≤ z → B z) (hv : ∀ done σ, J done σ → ItV lo σ v L ∧ n0 ≤ σ.next) (hL : L.length < 1000000) {σ : St} (gc : σ.get c = some (.cells [v] false)) (h0 : J [] σ) :
  callX Try.prog 110 [.func (.yield y) #[] #[], .pointer (some ⟨c, 0, none⟩)] σ fun e σ' lg => e = .ret (.tuple ⟨[]⟩) ∧ ((∀ z ∈ lg, B z) ∧ J L σ') := by
 have hv0 := (hv _ _ h0).1
 have hlen : v = .slice none 0 0 ∧ L.length = 0 ∨ ∃ a s cap, v = .slice (some ⟨a, 0, some s⟩) L.length cap := by
  rcases hv0 with ⟨h1, h2⟩ | ⟨a, s, cap, G, h1, _⟩
  ·exact .inl ⟨h1, by rw [h2]; rfl⟩
  ·exact .inr ⟨a, s, cap, h1⟩
 refine enter (p := q0) Try.func110 rfl stat110 ?_
 have key : ∀ n : Nat, n = L.length → opLen (cP Try.prog).T σ 37 v = some (.val (.int .i64 n) []) := by
  rintro n rfl
  rcases hlen with ⟨rfl, h⟩ | ⟨a, s, cap, rfl⟩
  ·rw [h]; simp only [opLen, und37w]; rfl
  ·simp only [opLen, und37w]
 have hlen' := key _ rfl
 simp only [go_sem, seval, if_pos rfl, callW, q0, undef, Try.f110, gc, hlen']
 refine loop_then (seqI_loop hY hB hv hL L.length _ _ ⟨_, 0, rfl, ⟨rfl, rfl, rfl, rfl, rfl⟩, rfl, h0⟩) ?_
 intro x fr' σ' lg hlg hB' h
 obtain ⟨rfl, hds, hJ⟩ := h
 obtain ⟨ts', ds'⟩ := fr'
 simp only at hds
 subst hds
 simp only [go_sem, seval, if_pos rfl, opLen, Try.f110]
 exact ⟨hB', hJ⟩
noncomputable def apIA : Code := match findR (Try.f146.body.getD .skip) with | some x => x.2.1 | none => .skip
noncomputable def apID : Code := match findR (Try.f146.body.getD .skip) with | some x => x.2.2 | none => .skip
structure JAI (σ0 : St) (ts : List Value) (done : List Item) (σ : St) : Prop where
 nx : σ0.next + 3 ≤ σ.next
 old : ∀ z, z < σ0.next → σ.get z = σ0.get z
 g2 : ∃ w, σ.get σ0.next = some (.cells [w] false) ∧ ItS (σ0.next + 3) σ w done
 gd : σ.get (σ0.next + 1) = some (.deferred false)
 gy : σ.get (σ0.next + 2) = some (loopOb .ready none ts #[7] apIA apID (σ0.next + 1))
set_option maxHeartbeats 1600000 in
set_option maxRecDepth 20000 in
theorem apI_yields {σ0 : St} {ts : List Value} {L : List Item} (hts : ts.length = 13) (t2 : lget ts 2 = .pointer (some ⟨σ0.next, 0, none⟩)) (hL : L.length < 1000000) :
  YieldsI (σ0.next + 2) (fun z => σ0.next ≤ z) L (JAI σ0 ts) := by
 refine ⟨fun done x rest σ hsp H => ?_, fun done σ σ' H hn hg => ?_⟩
 ·have hlen : done.length < 1000000 := by
   have := congrArg List.length hsp
   simp at this; omega
  have nx := H.nx
  have gy := H.gy
  obtain ⟨w, g2, hw⟩ := H.g2
  have k2 : σ0.next < σ.next := by omega
  have ky : σ0.next + 2 < σ.next := by omega
  have k2' : σ0.next < σ.next + 1 := by omega
  have m1 : ¬ σ0.next + 2 = σ0.next := by omega
  have m3 : ¬ σ.next = σ0.next + 2 := by omega
  have m4 : ¬ σ0.next + 2 = σ.next := by omega
  have m5 : ¬ σ0.next + 2 = σ.next + 1 := by omega
  refine roundX.enter (p := q0) (bt := btAll 146) cP_ok mixed gy rfl (by kernel_rfl) (by kernel_rfl) ?_
  simp only [go_sem, seval, if_pos rfl, opLen, Item.cells, apIA, findR, Try.f146, Option.getD, roundTs, hts]
  refine midRW.mk ?_ ?_
  ·simp only [go_sem, seval, if_pos rfl, opLen, ky, m3]
   exact gy
  rcases hw with ⟨rfl, rfl⟩ | ⟨a, rfl, ga, ha1, ha2⟩
  ·have hap : ∀ σ : St, ∀ b, σ.get b = some (.cells x.cells false) → opAppend (cP Try.prog).T σ 37 37 (.slice none 0 0) (.slice (some ⟨b, 0, some 0⟩) 1 1) = some (.new (.cells x.cells false) (.slice (some ⟨σ.next, 0, some 6⟩) 1 1) [b]) := fun σ b h => it_first h
   simp only [Item.cells] at hap
   simp only [go_sem, seval, if_pos rfl, opLen, zerosN, apID, findR, Try.f146, Option.getD, hts, t2, g2, k2, k2', ky, m1, m3, m4, m5, hap]
   refine ⟨by simp only [go_sem, seval, if_pos rfl, opLen, St.next_put] <;> omega, fun z hz => ?_, ⟨.slice (some ⟨σ.next + 2, 0, some 6⟩) 1 1, ?_, .inr ⟨σ.next + 2, rfl, ?_, by omega, by simp only [go_sem, seval, if_pos rfl, opLen, St.next_put] <;> omega⟩⟩, ?_, ?_⟩
   ·have z1 : ¬ σ0.next + 2 = z := by omega
    have z2 : ¬ σ0.next = z := by omega
    have z3 : z < σ.next := by omega
    simp only [go_sem, seval, if_pos rfl, opLen, z1, z2, z3]
    exact H.old z hz
   ·simp only [go_sem, seval, if_pos rfl, opLen, m1, k2]
   ·have z1 : ¬ σ0.next + 2 = σ.next + 2 := by omega
    have z2 : ¬ σ0.next = σ.next + 2 := by omega
    simp only [go_sem, seval, if_pos rfl, opLen, z1, z2, cellsL, Item.cells]
   ·have z1 : ¬ σ0.next + 2 = σ0.next + 1 := by omega
    have z2 : ¬ σ0.next = σ0.next + 1 := by omega
    have z3 : σ0.next + 1 < σ.next := by omega
    simp only [go_sem, seval, if_pos rfl, opLen, z1, z2, z3]
    exact H.gd
   ·rw [St.get_set, if_pos rfl]
    rfl
  ·have hap : ∀ σ : St, ∀ b, σ.get a = some (.cells (cellsL done) false) → σ.get b = some (.cells x.cells false) → opAppend (cP Try.prog).T σ 37 37 (.slice (some ⟨a, 0, some 6⟩) done.length done.length) (.slice (some ⟨b, 0, some 0⟩) 1 1) =
     some (.eff (.slice (some ⟨σ.next, 0, some 6⟩) (done.length + 1) (done.length + 1)) ((σ.new (.cells (cellsL (done ++ [x])) false)).put a none) [a]) := fun σ b h1 h2 => it_more h1 h2 (by omega)
   simp only [Item.cells] at hap
   have n1 : ¬ a = σ0.next := by omega
   have n2 : ¬ a = σ0.next + 2 := by omega
   have n3 : ¬ σ0.next + 2 = a := by omega
   simp only [go_sem, seval, if_pos rfl, opLen, zerosN, apID, findR, Try.f146, Option.getD, hts, t2, g2, ga, ha2, k2, k2', ky, m1, m3, m4, m5, n1, n2, n3, hap]
   have hdl : (done ++ [x]).length = done.length + 1 := by rw [List.length_append]; rfl
   refine ⟨by omega, ⟨by simp only [go_sem, seval, if_pos rfl, opLen, St.next_put] <;> omega, fun z hz => ?_, ⟨.slice (some ⟨σ.next + 2, 0, some 6⟩) (done ++ [x]).length (done ++ [x]).length, ?_, .inr ⟨σ.next + 2, rfl, ?_, by omega, by simp only [go_sem, seval, if_pos rfl, opLen, St.next_put] <;> omega⟩⟩, ?_, ?_⟩⟩
   ·have z1 : ¬ σ0.next + 2 = z := by omega
    have z2 : ¬ σ0.next = z := by omega
    have z3 : z < σ.next := by omega
    have z4 : ¬ a = z := by omega
    simp only [go_sem, seval, if_pos rfl, opLen, z1, z2, z3, z4]
    exact H.old z hz
   ·rw [hdl]; simp only [go_sem, seval, if_pos rfl, opLen, m1, k2]
   ·have z1 : ¬ σ0.next + 2 = σ.next + 2 := by omega
    have z2 : ¬ σ0.next = σ.next + 2 := by omega
    have z4 : ¬ a = σ.next + 2 := by omega
    simp only [go_sem, seval, if_pos rfl, opLen, z1, z2, z4]
   ·have z1 : ¬ σ0.next + 2 = σ0.next + 1 := by omega
    have z2 : ¬ σ0.next = σ0.next + 1 := by omega
    have z3 : σ0.next + 1 < σ.next := by omega
    have z4 : ¬ a = σ0.next + 1 := by omega
    simp only [go_sem, seval, if_pos rfl, opLen, z1, z2, z3, z4]
    exact H.gd
   ·rw [St.get_set, if_pos rfl]
    rfl
 ·have nx := H.nx
  obtain ⟨w, g2, hw⟩ := H.g2
  exact ⟨by omega, fun z hz => (hg z (by omega)).trans (H.old z hz), ⟨w, (hg _ (by omega)).trans g2, hw.keep hn fun a _ h => hg a h⟩, (hg _ (by omega)).trans H.gd, (hg _ (by omega)).trans H.gy⟩
def apIT (σ : St) (c : Nat) : List Value := [.slice none 0 0, .func (.func 110) ⟨[]⟩ ⟨[.pointer (some ⟨c, 0, none⟩)]⟩, .pointer (some ⟨σ.next, 0, none⟩), undef, .slice none 0 0, undef, .func (.func 110) ⟨[]⟩ ⟨[.pointer (some ⟨c, 0, none⟩)]⟩, undef, undef, undef, undef, undef, undef]
def ApRI (σ : St) (L : List Item) (e : AE) (σ' : St) (lg : Log) : Prop := ∃ w, e = .ret w ∧ (∀ z ∈ lg, σ.next ≤ z) ∧ ItS (σ.next + 3) σ' w L
theorem apI_call {σ : St} {c lo : Nat} {v : Value} {L : List Item} (gc : σ.get c = some (.cells [v] false)) (hc : c < σ.next) (hv : ItV lo σ v L) (hL : L.length < 1000000) :
  callX Try.prog 146 [.slice none 0 0, .func (.func 110) ⟨[]⟩ ⟨[.pointer (some ⟨c, 0, none⟩)]⟩] σ (ApRI σ L) := by
 refine callX.enterD (p := q0) cP_ok mixed Try.func146 rfl stat146 ?_
 simp only [go_sem, seval, if_pos rfl, opLen, Try.f146]
 refine rangeX.of cP_ok (f := 110) (xs := []) (ys := [.pointer (some ⟨c, 0, none⟩)]) (by simp only [go_sem, seval, if_pos rfl, opLen]) body110 ?_
 have hY := apI_yields (σ0 := σ) (ts := apIT σ c) (L := L) rfl rfl hL
 refine callX.hid (R := fun σ' lg => (∀ z ∈ lg, σ.next ≤ z) ∧ JAI σ (apIT σ c) L σ') (seqI_call (c := c) (v := v) (n0 := σ.next) (lo := lo) hY (fun z hz => hz) (fun done σ' H => ⟨?_, ?_⟩) hL ?_ ⟨?_, ?_, ⟨.slice none 0 0, ?_, .inl ⟨rfl, rfl⟩⟩, ?_, ?_⟩) ?_
 ·rcases hv with h | ⟨a, s, cap, G, h1, h2, h3, h4⟩
  ·exact .inl h
  ·exact .inr ⟨a, s, cap, G, h1, (H.old a h4).trans h2, h3, by have := H.nx; omega⟩
 ·have := H.nx; omega
 ·simp only [go_sem, seval, if_pos rfl, opLen, hc, gc]
 ·simp only [go_sem, seval, if_pos rfl, opLen, St.next_put] <;> omega
 ·intro z hz
  simp only [go_sem, seval, if_pos rfl, opLen, hz]
 ·simp only [go_sem, seval, if_pos rfl, opLen]
 ·simp only [go_sem, seval, if_pos rfl, opLen]
 ·simp only [go_sem, seval, if_pos rfl, opLen]; rfl
 intro σ1 lg1 hlg1 h1
 obtain ⟨hB, H⟩ := h1
 have nx := H.nx
 obtain ⟨w, g2, hw⟩ := H.g2
 have gd := H.gd
 have k5 : σ.next < σ1.next := by omega
 have m5 : ¬ σ.next + 2 = σ.next := by omega
 refine ⟨?_⟩
 refine ⟨.ready, none, .norm, H.gy, rfl, rfl, ?_⟩
 simp only [go_sem, seval, if_pos rfl, opLen, k5, g2, m5]
 have kd : ¬ σ.next + 2 = σ.next + 1 := by omega
 refine .collected (by simp only [go_sem, seval, if_pos rfl, opLen, kd, gd]) ?_
 refine .ret cP_ok (by simp only [go_sem, seval, if_pos rfl, opLen] <;> rfl) ?_
 simp only [go_sem, seval, if_pos rfl, opLen]
 refine ⟨w, rfl, fun z hz => ?_, hw.keep (by simp only [go_sem, seval, if_pos rfl, opLen, St.next_put] <;> omega) fun a h1 h2 => ?_⟩
 ·simp only [List.mem_append, List.mem_cons, List.not_mem_nil, or_false, false_or] at hz
  rcases hz with (hz | hz) | hz <;> first | exact hB z hz | omega
 ·have q1 : ¬ σ.next + 1 = a := by omega
  have q2 : ¬ σ.next + 2 = a := by omega
  simp only [go_sem, seval, if_pos rfl, opLen, q1, q2]
theorem collectI_call {σ : St} {c lo : Nat} {v : Value} {L : List Item} (gc : σ.get c = some (.cells [v] false)) (hc : c < σ.next) (hv : ItV lo σ v L) (hL : L.length < 1000000) :
  callX Try.prog 135 [.func (.func 110) ⟨[]⟩ ⟨[.pointer (some ⟨c, 0, none⟩)]⟩] σ (ApRI σ L) := by
 refine enter (p := q0) Try.func135 rfl stat135 ?_
 simp only [go_sem, seval, if_pos rfl, opLen, Try.f135, body146]
 refine callX.hidE (apI_call gc hc hv hL) ?_
 intro e σ1 lg1 hlg1 h1
 obtain ⟨w, rfl, hB, hw⟩ := h1
 refine ⟨?_⟩
 simp only [go_sem, seval, if_pos rfl, opLen]
 exact ⟨w, rfl, hB, hw⟩
end Go.Ab
namespace Go.Ab
open Go.Proofs
theorem bits_lt {n : Nat} (h : n < 256) : Sort.bitsLen n < 1000 := by
 have all : ((List.range 256).all fun n => Nat.blt (Sort.bitsLen n) 1000) = true := by kernel_rfl
 have := List.all_eq_true.1 all n (List.mem_range.2 h)
 simpa [Nat.blt_eq] using this
section
variable {σ0 : St} {k s cap : Nat} {g : FuncId} {ys : List Value} {lt : Item → Item → Bool} {p : Item → Prop} {G : List Value}
set_option maxHeartbeats 1600000 in
set_option maxRecDepth 20000 in
theorem sortfunc_call (hc : CmpOk σ0 k g ys lt p) (hw : Sort.SWO lt) {d : Array Item} {σ : St} (H : SAt σ0 k d G p σ) (hsz : d.size < 256) :
  callX Try.prog 136 [sliceS k s d.size cap, .func (.func g) ⟨[]⟩ ⟨ys⟩] σ (PdqR σ0 k G p lt 0 d.size d) := by
 have wu : IntKind.u64.wrap (d.size : Int) = (d.size : Int) := wrapUN (by omega)
 have hpd := pdq_ok (s := s) (n := d.size) (cap := cap) (G := G) hc hw (by omega) (d.size + 1) 0 d.size (Sort.bitsLen d.size) d σ (by omega) (by omega) (bits_lt hsz) H rfl (by omega) (Nat.le_refl _) (.inl rfl)
 simp only [sliceS] at hpd
 refine enter (p := q0) Try.func136 rfl stat136 ?_
 simp only [go_sem, seval, if_pos rfl, opLen, undef, sliceS, Try.f136, wu, body147, body148]
 refine .of (bitslen_call hsz _) ?_
 simp only [go_sem, seval, if_pos rfl, opLen, undef, sliceS, Try.f136, wu, body147, body148]
 refine callX.hidE hpd ?_
 intro e σ1 lg1 hlg1 hA
 obtain ⟨rfl, D, hS, hP, hs⟩ := hA
 refine ⟨?_⟩
 simp only [go_sem, seval, if_pos rfl, opLen]
 exact ⟨rfl, D, ⟨by simpa using hS.1, hS.2⟩, hP, hs⟩
end
end Go.Ab
namespace Go.Ab
open Go.Proofs
attribute [go_sem] Try.underlying39 info39 Try.t39
def RV (s : Value) (t : Int) : Value := .agg ⟨[s, .int .i64 t]⟩
theorem ItV.keep {lo : Nat} {σ σ' : St} {v : Value} {L : List Item} (h : ItV lo σ v L) (hn : σ.next ≤ σ'.next) (hg : ∀ a, lo ≤ a → a < σ.next → σ'.get a = σ.get a) : ItV lo σ' v L := by
 rcases h with h | ⟨a, s, cap, G, h1, h2, h3, h4⟩
 ·exact .inl h
 ·exact .inr ⟨a, s, cap, G, h1, (hg a h3 h4).trans h2, h3, by omega⟩
theorem it_cells {L : List Item} {G : List Value} {i : Nat} {x : Item} (h : L[i]? = some x) : lget? (cellsL L ++ G) (i * 4) = some (.int .i64 x.id) ∧ lget? (cellsL L ++ G) (i * 4 + 3) = some (.int .i64 x.turn) ∧
  ((cellsL L ++ G).drop (i * 4 + 1)).take 2 = [.int .i64 x.n, .int .i64 x.d] := by
 have h4 := cells_at (G := G) h
 have e : ∀ j, j < 4 → (cellsL L ++ G)[i * 4 + j]? = x.cells[j]? := fun j hj => by
  rw [← h4, List.getElem?_take, if_pos hj, List.getElem?_drop]
 refine ⟨?_, ?_, ?_⟩
 ·rw [lget?_eq]; exact e 0 (by omega)
 ·rw [lget?_eq]; exact e 3 (by omega)
 ·have : (cellsL L ++ G).drop (i * 4 + 1) = ((cellsL L ++ G).drop (i * 4)).drop 1 := by rw [List.drop_drop]
  rw [this]
  have h3 : (((cellsL L ++ G).drop (i * 4)).drop 1).take 2 = ((((cellsL L ++ G).drop (i * 4)).take 4).drop 1).take 2 := by
   rw [List.drop_take, List.take_take]; rfl
  rw [h3, h4]
  rfl
theorem len_it {lo : Nat} {σ σ' : St} {v : Value} {L : List Item} (h : ItV lo σ v L) : opLen (cP Try.prog).T σ' 37 v = some (.val (.int .i64 L.length) []) := by
 rcases h with ⟨rfl, rfl⟩ | ⟨a, s, cap, G, rfl, _⟩
 ·simp only [opLen, und37w]; rfl
 ·simp only [opLen, und37w]
noncomputable def fdB : Code := loopOf (Try.f30.body.getD .skip)
structure FFd (ts : List Value) (c : Nat) (id : Int) (i : Nat) : Prop where
 size : ts.length = 22
 t1 : lget ts 1 = .int .i64 id
 t2 : lget ts 2 = .pointer (some ⟨c, 0, none⟩)
 t5 : lget ts 5 = .int .i64 i
def IFd (c : Nat) (s : Value) (t id : Int) (lo : Nat) (L : List Item) (r : Int) (m : Nat) (fr : Fr) (σ : St) : Prop :=
 ∃ ts, ∃ i : Nat, fr = ⟨ts, []⟩ ∧ FFd ts c id i ∧ m + i = L.length ∧ σ.get c = some (.cells [s, .int .i64 t] false) ∧ c < σ.next ∧ ItV lo σ s L ∧ findI id (L.drop i) i = r
def EFd (r : Int) (x : AX) (fr : Fr) (σ : St) : Prop :=
 fr.ds = [] ∧ fr.ts.length = 22 ∧ (x = .exit 0 ∧ r = -1 ∨ x = .ret ∧ lget fr.ts 4 = .int .i64 r)
set_option maxHeartbeats 1600000 in
set_option maxRecDepth 20000 in
theorem fd_loop {c lo : Nat} {s : Value} {t id r : Int} {L : List Item} (hL : L.length < 1000000) : ∀ m fr σ, IFd c s t id lo L r m fr σ → loopX Try.prog false fdB fr σ (endL (EFd r) fun _ => False) := by
 refine loop_ind q0 30 (by kernel_rfl) _ _ _ ?_
 rintro m fr σ ⟨ts, i, rfl, F, hm, gc, hc, hS, hr⟩
 have e1 := F.t1
 have e2 := F.t2
 have e5 := F.t5
 have el := F.size
 have hol : ∀ σ', opLen (cP Try.prog).T σ' 37 s = some (.val (.int .i64 L.length) []) := fun σ' => len_it hS
 by_cases hi : i < L.length
 ·have c0 : (i : Int) < (L.length : Int) := by omega
  have hx : L[i]? = some L[i] := List.getElem?_eq_getElem hi
  have hdr : L.drop i = L[i] :: L.drop (i + 1) := List.drop_eq_getElem_cons hi
  rw [hdr] at hr
  generalize L[i] = x at hx hr
  rcases hS with ⟨_, rfl⟩ | ⟨a, sp, cap, G, rfl, ga, ha1, ha2⟩
  ·simp at hi
  have c1 : (0 : Int) ≤ (i : Int) := by omega
  obtain ⟨x1, _, _⟩ := it_cells (G := G) hx
  have w1 : IntKind.i64.wrap ((i : Int) + 1) = ((i + 1 : Nat) : Int) := by
   have : (i : Int) + 1 = ((i + 1 : Nat) : Int) := by omega
   rw [this]; exact wrapIN (by omega)
  by_cases hid : x.id = id
  ·have b1 : (x.id == id) = true := by rw [hid]; exact beq_self_eq_true _
   have hre : r = i := by rw [← hr]; simp [findI, hid]
   simp only [go_sem, seval, if_pos rfl, callW, q0, undef, fdB, loopOf, Try.f30, Option.getD, lget_put, lgetq_put, List.length_set, Int.toNat_natCast, e1, e2, e5, el, gc, hc, ga, ha2, hol, c0, c1, x1, b1]
   exact ⟨rfl, by simp only [List.length_set, el], .inr ⟨rfl, by simp only [go_sem, seval, if_pos rfl, lget_put, List.length_set, el, hre]⟩⟩
  ·have b1 : (x.id == id) = false := by rw [beq_eq_false_iff_ne]; exact hid
   have hr' : findI id (L.drop (i + 1)) (i + 1) = r := by rw [← hr]; simp [findI, hid]
   simp only [go_sem, seval, if_pos rfl, callW, q0, undef, fdB, loopOf, Try.f30, Option.getD, lget_put, lgetq_put, List.length_set, Int.toNat_natCast, e1, e2, e5, el, gc, hc, ga, ha2, hol, c0, c1, x1, b1, w1]
   exact ⟨m - 1, by omega, _, i + 1, rfl, ⟨by simp only [List.length_set, el], by simp only [go_sem, seval, if_pos rfl, lget_put, List.length_set, el, e1], by simp only [go_sem, seval, if_pos rfl, lget_put, List.length_set, el, e2], by simp only [go_sem, seval, if_pos rfl, lget_put, List.length_set, el]⟩, by omega, gc, hc, .inr ⟨a, sp, cap, G, rfl, ga, ha1, ha2⟩, hr'⟩
 ·have c0 : ¬ (i : Int) < (L.length : Int) := by omega
  have hre : r = -1 := by
   rw [← hr, List.drop_eq_nil_of_le (by omega)]
   rfl
  simp only [go_sem, seval, if_pos rfl, callW, q0, undef, fdB, loopOf, Try.f30, Option.getD, lget_put, lgetq_put, List.length_set, Int.toNat_natCast, e1, e2, e5, el, gc, hc, hol, c0]
  exact ⟨rfl, by simp only [List.length_set, el], .inl ⟨rfl, hre⟩⟩
theorem find_call {lo : Nat} {σ : St} {s : Value} {t id : Int} {L : List Item} (hS : ItV lo σ s L) (hL : L.length < 1000000) : DCall Try.prog 30 [RV s t, .int .i64 id] σ (.ret (.int .i64 (findI id L 0))) σ [] := by
 refine pure_call (enter (p := q0) Try.func30 rfl stat30 ?_) rfl
 simp only [go_sem, seval, if_pos rfl, callW, q0, undef, RV, Try.f30]
 refine loop_then (fd_loop (c := σ.next) (s := s) (t := t) (id := id) (lo := lo) (r := findI id L 0) hL L.length _ _ ⟨_, 0, rfl, ⟨rfl, rfl, rfl, rfl⟩, rfl, by simp only [go_sem, seval, if_pos rfl], by simp only [go_sem, seval, if_pos rfl], hS.keep (by simp only [go_sem, seval, if_pos rfl] <;> omega) (fun a _ h => by simp only [go_sem, seval, if_pos rfl, h]), rfl⟩) ?_
 intro x fr' σ' lg hlg hB h
 obtain ⟨hds, hlen, h⟩ := h
 obtain ⟨ts', ds'⟩ := fr'
 simp only at hds hlen h
 subst hds
 obtain rfl : lg = [] := List.eq_nil_iff_forall_not_mem.2 fun z hz => hB z hz
 rcases h with ⟨rfl, hr⟩ | ⟨rfl, h4⟩
 ·simp only [go_sem, seval, if_pos rfl, callW, q0, undef, lget_put, lgetq_put, List.length_set, hlen, hr]
 ·simp only [go_sem, seval, if_pos rfl, callW, q0, undef, lget_put, lgetq_put, List.length_set, hlen, h4]
end Go.Ab
namespace Go.Ab
open Go.Proofs
theorem cellsL_part {L : List Item} {k m : Nat} (h : k + m ≤ L.length) : ((cellsL L).drop (k * 4)).take (m * 4) = cellsL ((L.drop k).take m) := by
 induction k generalizing L with
 | zero =>
  simp only [Nat.zero_mul, List.drop_zero]
  induction m generalizing L with
  | zero => simp [cellsL]
  | succ m ih =>
   cases L with
   | nil => simp at h
   | cons x L =>
    have e : (m + 1) * 4 = x.cells.length + m * 4 := by simp [Item.cells]; omega
    simp only [cellsL, List.take_succ_cons]
    rw [e, List.take_length_add_append, ih (by simp at h; omega)]
 | succ k ih =>
  cases L with
  | nil => simp at h
  | cons x L =>
   have e : (k + 1) * 4 = x.cells.length + k * 4 := by simp [Item.cells]; omega
   simp only [cellsL, List.drop_succ_cons]
   rw [e, List.drop_length_add_append, ih (by simp at h; omega)]
theorem one_cellsL : ∀ L : List Item, oneCells (cellsL L) = true
 | [] => rfl
 | x :: L => by
  have := one_cellsL L
  simp only [cellsL, Item.cells, List.cons_append, List.nil_append, oneCells, Bool.true_and]
  exact this
section
variable {σ : St} {a d k m c n o : Nat} {A L : List Item}
theorem ap_nil0 : opAppend (cP Try.prog).T σ 37 37 (.slice none 0 0) (.slice (some ⟨a, o, some 6⟩) 0 c) = some (.val (.slice none 0 0) []) := by
 simp only [opAppend, und37w, inf31w, srcLen, Try.t31, srcCells]
 simp [isSeqD, oneCells, plain, plainL, vcells]
theorem ap_nilE : opAppend (cP Try.prog).T σ 37 37 (.slice none 0 0) (.slice (some ⟨a, o, some 1⟩) 0 0) = some (.val (.slice none 0 0) []) := by
 simp only [opAppend, und37w, inf31w, srcLen, Try.t31, srcCells]
 simp [isSeqD, oneCells, plain, plainL, vcells]
theorem ap_end (h : n < 1000000) : opAppend (cP Try.prog).T σ 37 37 (.slice (some ⟨d, 0, some 6⟩) n n) (.slice (some ⟨a, o, some 1⟩) 0 0) = some (.val (.slice (some ⟨d, 0, some 6⟩) n n) []) := by
 have l3 : ¬ 4294967296 ≤ n := by omega
 simp only [opAppend, und37w, inf31w, srcLen, Try.t31, srcCells]
 simp [isSeqD, oneCells, plain, plainL, vcells, l3]
theorem ap_new (hg : σ.get a = some (.cells (cellsL L) false)) (hm : 0 < m) (h : k + m ≤ L.length) (hL : L.length < 1000000) :
  opAppend (cP Try.prog).T σ 37 37 (.slice none 0 0) (.slice (some ⟨a, k * 4, some 6⟩) m c) = some (.new (.cells (cellsL ((L.drop k).take m)) false) (.slice (some ⟨σ.next, 0, some 6⟩) m m) [a]) := by
 have l3 : ¬ 4294967296 ≤ m := by omega
 have m0 : ¬ m = 0 := by omega
 have m4 : ¬ m * 4 = 0 := by omega
 have lx : k * 4 + m * 4 ≤ 4 * L.length := by omega
 have cp := cellsL_part h
 have on := one_cellsL ((L.drop k).take m)
 simp only [opAppend, und37w, inf31w, srcLen, Try.t31, srcCells, hg]
 simp [isSeqD, plain, plainL, vcells, l3, m0, m4, lx, cp, on, cellsL_length]
theorem ap_more (hd : σ.get d = some (.cells (cellsL A) false)) (hg : σ.get a = some (.cells (cellsL L) false)) (hm : 0 < m) (h : k + m ≤ L.length) (hL : L.length < 1000000) (hA : A.length < 1000000) :
  opAppend (cP Try.prog).T σ 37 37 (.slice (some ⟨d, 0, some 6⟩) A.length A.length) (.slice (some ⟨a, k * 4, some 6⟩) m c) =
   some (.eff (.slice (some ⟨σ.next, 0, some 6⟩) (A.length + m) (A.length + m)) ((σ.new (.cells (cellsL (A ++ (L.drop k).take m)) false)).put d none) [d]) := by
 have l3 : ¬ 4294967296 ≤ m := by omega
 have l4 : ¬ 4294967296 ≤ A.length := by omega
 have m0 : ¬ m = 0 := by omega
 have m4 : ¬ m * 4 = 0 := by omega
 have lx : k * 4 + m * 4 ≤ 4 * L.length := by omega
 have cp := cellsL_part h
 have on := one_cellsL ((L.drop k).take m)
 have tk : (cellsL A).take (A.length * 4) = cellsL A := List.take_of_length_le (by rw [cellsL_length]; omega)
 have l5 : A.length * 4 ≤ 4 * A.length := by omega
 have am : ¬ A.length + m ≤ A.length := by omega
 rw [cellsL_app]
 simp only [opAppend, und37w, inf31w, srcLen, Try.t31, srcCells, hd, hg]
 simp [isSeqD, plain, plainL, vcells, l3, l4, l5, am, m0, m4, lx, cp, on, tk, cellsL_length]
end
def RefR (σ : St) (t : Int) (L : List Item) (e : AE) (σ' : St) (lg : Log) : Prop := ∃ w, e = .ret (RV w t) ∧ (∀ z ∈ lg, σ.next ≤ z) ∧ ItS σ.next σ' w L
def RefD (f : FuncId) (args : List Value) (σ : St) (t : Int) (L : List Item) : Prop := ∃ w σ', DCall Try.prog f args σ (.ret (RV w t)) σ' [] ∧ ItS σ.next σ' w L
theorem RefD.of {f : FuncId} {args : List Value} {σ : St} {t : Int} {L : List Item} (h : callX Try.prog f args σ (RefR σ t L)) : RefD f args σ t L := by
 obtain ⟨e, σ', lg, d, w, rfl, hl, hS⟩ := h
 exact ⟨w, σ', d.weaken2 fun c hc hn => by have := hl c hc; omega, hS⟩
set_option maxHeartbeats 1600000 in
set_option maxRecDepth 20000 in
theorem without_call {lo : Nat} {σ : St} {s : Value} {t : Int} {L : List Item} {n : Nat} (hS : ItS lo σ s L) (hn : n < L.length) (hL : L.length < 1000000) :
  RefD 84 [RV s t, .int .i64 n] σ t (L.eraseIdx n) := by
 refine RefD.of ?_
 rcases hS with ⟨_, rfl⟩ | ⟨a, rfl, ga, ha1, ha2⟩
 ·simp at hn
 rw [List.eraseIdx_eq_take_drop_succ]
 have w1 : IntKind.i64.wrap ((n : Int) + 1) = ((n + 1 : Nat) : Int) := by
  have : (n : Int) + 1 = ((n + 1 : Nat) : Int) := by omega
  rw [this]; exact wrapIN (by omega)
 have na : ¬ σ.next = a := by omega
 have na1 : ¬ σ.next + 1 = a := by omega
 have na2 : ¬ σ.next + 1 + 1 = a := by omega
 have q1 : (0 : Int) ≤ (n : Int) := by omega
 have q2 : (n : Int) ≤ (L.length : Int) := by omega
 have q3 : (0 : Int) ≤ ((n + 1 : Nat) : Int) := by omega
 have q4 : ((n + 1 : Nat) : Int) ≤ (L.length : Int) := by omega
 have q5 : 0 < L.length := by omega
 have q6 : ¬ L.length < n + 1 := by omega
 have q7 : ¬ L.length < n := by omega
 have tk : (L.drop (n + 1)).take (L.length - (n + 1)) = L.drop (n + 1) := List.take_of_length_le (by simp)
 have tl : (L.take n).length = n := by simp; omega
 have ln : (L.take n ++ L.drop (n + 1)).length = n + (L.length - (n + 1)) := by simp; omega
 by_cases h0 : n = 0
 ·have e1 : L.take n = [] := by rw [h0]; rfl
  have A1 : ∀ σ, opAppend (cP Try.prog).T σ 37 37 (.slice none 0 0) (.slice (some ⟨a, 0, some 6⟩) n L.length) = some (.val (.slice none 0 0) []) := fun σ => by rw [h0]; exact ap_nil0
  by_cases h1 : n + 1 < L.length
  ·have A2 : ∀ σ, σ.get a = some (.cells (cellsL L) false) → opAppend (cP Try.prog).T σ 37 37 (.slice none 0 0) (.slice (some ⟨a, (n + 1) * 4, some 6⟩) (L.length - (n + 1)) (L.length - (n + 1))) = some (.new (.cells (cellsL (L.drop (n + 1))) false) (.slice (some ⟨σ.next, 0, some 6⟩) (L.length - (n + 1)) (L.length - (n + 1))) [a]) := fun σ h => by
    rw [ap_new h (by omega) (by omega) hL, tk]
   refine enter (p := q0) Try.func84 rfl stat84 ?_
   simp only [go_sem, seval, if_pos rfl, callW, q0, undef, RV, Try.f84, ga, ha2, na, na1, na2, w1, q1, q2, q3, q4, q5, q6, q7, h1, Int.toNat_natCast, Nat.not_lt_zero, Nat.sub_zero, Option.isSome_none, Bool.false_eq_true, A1, A2]
   refine ⟨_, rfl, fun z hz => ?_, .inr ⟨σ.next + 2, by rw [show (L.take n ++ L.drop (n + 1)).length = L.length - (n + 1) by rw [ln]; omega], ?_, by omega, ?_⟩⟩
   ·simp only [List.mem_cons, List.not_mem_nil, or_false] at hz
    omega
   ·rw [e1, List.nil_append]
    simp only [go_sem, seval, if_pos rfl]
   ·simp only [go_sem, seval, if_pos rfl] <;> omega
  ·have hl : L.length = n + 1 := by omega
   have hlt : (L.length = n + 1) = True := eq_true hl
   have dr : L.drop (n + 1) = [] := List.drop_eq_nil_of_le (by omega)
   refine enter (p := q0) Try.func84 rfl stat84 ?_
   simp only [go_sem, seval, if_pos rfl, callW, q0, undef, RV, Try.f84, ga, ha2, na, na1, na2, w1, q1, q2, q3, q4, q5, q6, q7, h1, hlt, Int.toNat_natCast, Nat.not_lt_zero, Nat.sub_zero, Option.isSome_none, Bool.false_eq_true, A1, ap_nilE]
   refine ⟨.slice none 0 0, rfl, fun z hz => ?_, .inl ⟨rfl, by rw [e1, dr]; rfl⟩⟩
   simp only [List.mem_cons, List.not_mem_nil, or_false] at hz
   omega
 ·have A1 : ∀ σ, σ.get a = some (.cells (cellsL L) false) → opAppend (cP Try.prog).T σ 37 37 (.slice none 0 0) (.slice (some ⟨a, 0, some 6⟩) n L.length) = some (.new (.cells (cellsL (L.take n)) false) (.slice (some ⟨σ.next, 0, some 6⟩) n n) [a]) := fun σ h => by
   have := ap_new (k := 0) (m := n) (c := L.length) h (by omega) (by omega) hL
   simpa using this
  by_cases h1 : n + 1 < L.length
  ·have A2 : ∀ σ d, σ.get d = some (.cells (cellsL (L.take n)) false) → σ.get a = some (.cells (cellsL L) false) → opAppend (cP Try.prog).T σ 37 37 (.slice (some ⟨d, 0, some 6⟩) n n) (.slice (some ⟨a, (n + 1) * 4, some 6⟩) (L.length - (n + 1)) (L.length - (n + 1))) =
     some (.eff (.slice (some ⟨σ.next, 0, some 6⟩) (n + (L.length - (n + 1))) (n + (L.length - (n + 1)))) ((σ.new (.cells (cellsL (L.take n ++ L.drop (n + 1))) false)).put d none) [d]) := fun σ d h2 h => by
    have := ap_more (k := n + 1) (m := L.length - (n + 1)) (c := L.length - (n + 1)) h2 h (by omega) (by omega) hL (by omega)
    rwa [tk, tl] at this
   refine enter (p := q0) Try.func84 rfl stat84 ?_
   simp only [go_sem, seval, if_pos rfl, callW, q0, undef, RV, Try.f84, ga, ha2, na, na1, na2, w1, q1, q2, q3, q4, q5, q6, q7, h1, Int.toNat_natCast, Nat.not_lt_zero, Nat.sub_zero, Option.isSome_none, Bool.false_eq_true, A1, A2]
   refine ⟨_, rfl, fun z hz => ?_, .inr ⟨σ.next + 3, by rw [ln], ?_, by omega, ?_⟩⟩
   ·simp only [List.mem_cons, List.not_mem_nil, or_false] at hz
    omega
   ·simp only [go_sem, seval, if_pos rfl]
   ·simp only [go_sem, seval, if_pos rfl, St.next_put] <;> omega
  ·have hl : L.length = n + 1 := by omega
   have hlt : (L.length = n + 1) = True := eq_true hl
   have dr : L.drop (n + 1) = [] := List.drop_eq_nil_of_le (by omega)
   refine enter (p := q0) Try.func84 rfl stat84 ?_
   simp only [go_sem, seval, if_pos rfl, callW, q0, undef, RV, Try.f84, ga, ha2, na, na1, na2, w1, q1, q2, q3, q4, q5, q6, q7, h1, Int.toNat_natCast, Nat.not_lt_zero, Nat.sub_zero, Option.isSome_none, Bool.false_eq_true, A1, hlt, ap_end (show n < 1000000 by omega)]
   refine ⟨_, rfl, fun z hz => ?_, .inr ⟨σ.next + 2, by rw [dr, List.append_nil, tl], ?_, by omega, ?_⟩⟩
   ·simp only [List.mem_cons, List.not_mem_nil, or_false] at hz
    omega
   ·rw [dr, List.append_nil]
    simp only [go_sem, seval, if_pos rfl]
   ·simp only [go_sem, seval, if_pos rfl] <;> omega
end Go.Ab
namespace Go.Ab
open Go.Proofs
theorem cmp20_call {n₁ d₁ n₂ d₂ : Int} (h1 : okR n₁ d₁ = true) (h2 : okR n₂ d₂ = true) (σ : St) : DCall Try.prog 20 [.agg ⟨[.int .i64 n₁, .int .i64 d₁]⟩, .agg ⟨[.int .i64 n₂, .int .i64 d₂]⟩] σ (.ret (.int .i64 (cmpR n₁ d₁ n₂ d₂))) σ [] :=
 q2_is 20 _ _ (by simp only [q2, h1, h2]; rfl) σ
noncomputable def lyB : Code := loopOf (nthC 2 (Try.f83.body.getD .skip))
structure FLy (ts : List Value) (c x r i : Nat) : Prop where
 size : ts.length = 55
 t2 : lget ts 2 = .pointer (some ⟨c, 0, none⟩)
 t3 : lget ts 3 = .pointer (some ⟨x, 0, none⟩)
 t4 : lget ts 4 = .pointer (some ⟨r, 0, none⟩)
 t5 : lget ts 5 = .int .i64 i
def ILy (c xb rb : Nat) (x : Item) (L : List Item) (P : Nat) (σs : St) (m : Nat) (fr : Fr) (σ : St) : Prop :=
 ∃ ts, ∃ i : Nat, fr = ⟨ts, []⟩ ∧ FLy ts c xb rb i ∧ σ = σs ∧ m + i = L.length ∧ i + layPos x (L.drop i) = P
def ELy (c xb rb : Nat) (P : Nat) (σs : St) (ax : AX) (fr : Fr) (σ : St) : Prop :=
 ax = .exit 0 ∧ σ = σs ∧ ∃ ts, fr = ⟨ts, []⟩ ∧ FLy ts c xb rb P
theorem okR_of {x : Item} (h : x.ok = true) : okR x.n x.d = true := by
 simp only [Item.ok, Bool.and_eq_true] at h
 exact h.1.2
set_option maxHeartbeats 1600000 in
set_option maxRecDepth 20000 in
theorem ly_loop {c xb rb lo P : Nat} {s : Value} {t : Int} {x : Item} {L : List Item} {σs : St} (gc : σs.get c = some (.cells [s, .int .i64 t] false)) (hc : c < σs.next) (gx : σs.get xb = some (.cells x.cells false)) (hxb : xb < σs.next) (hS : ItS lo σs s L) (hx : x.ok = true) (ho : ∀ y ∈ L, y.ok = true) (hL : L.length < 1000000) :
  ∀ m fr σ, ILy c xb rb x L P σs m fr σ → loopX Try.prog false lyB fr σ (endL (ELy c xb rb P σs) fun _ => False) := by
 refine loop_ind q0 83 (by kernel_rfl) _ _ _ ?_
 rintro m fr σ ⟨ts, i, rfl, F, rfl, hm, hr⟩
 have e2 := F.t2
 have e3 := F.t3
 have e4 := F.t4
 have e5 := F.t5
 have el := F.size
 have hol : ∀ σ', opLen (cP Try.prog).T σ' 37 s = some (.val (.int .i64 L.length) []) := fun σ' => len_it hS.v
 simp only [Item.cells] at gx
 have nc : ¬ σ.next ≤ c := by omega
 have nx : ¬ σ.next ≤ xb := by omega
 by_cases hi : i < L.length
 ·have c0 : (i : Int) < (L.length : Int) := by omega
  have hy : L[i]? = some L[i] := List.getElem?_eq_getElem hi
  have hym : L[i] ∈ L := List.getElem_mem hi
  have hdr : L.drop i = L[i] :: L.drop (i + 1) := List.drop_eq_getElem_cons hi
  rw [hdr] at hr
  generalize L[i] = y at hy hr hym
  rcases hS with ⟨_, rfl⟩ | ⟨a, rfl, ga, ha1, ha2⟩
  ·simp at hi
  have na : ¬ σ.next ≤ a := by omega
  have c1 : (0 : Int) ≤ (i : Int) := by omega
  obtain ⟨_, x1, x2⟩ := it_cells (G := []) hy
  rw [List.append_nil] at x1 x2
  have l1 : i * 4 + 1 + 2 ≤ (cellsL L).length := by rw [cellsL_length]; omega
  have l2 : i * 4 + 3 ≤ (cellsL L).length := by rw [cellsL_length]; omega
  have w1 : IntKind.i64.wrap ((i : Int) + 1) = ((i + 1 : Nat) : Int) := by
   have : (i : Int) + 1 = ((i + 1 : Nat) : Int) := by omega
   rw [this]; exact wrapIN (by omega)
  have hcmp := cmp20_call (okR_of (ho y hym)) (okR_of hx)
  have hst : 0 < cmpItem y x ↔ 0 < cmpR y.n y.d x.n x.d ∨ cmpR y.n y.d x.n x.d = 0 ∧ x.turn < y.turn := by
   simp only [cmpItem, cmpI]
   split
   ·rename_i h
    rw [h]
    split
    ·omega
    ·split <;> omega
   ·omega
  generalize cmpR y.n y.d x.n x.d = r at hst hcmp
  simp only [layPos] at hr
  by_cases h1 : 0 < r
  ·have hP : P = i := by rw [if_pos (hst.2 (.inl h1))] at hr; omega
   subst hP
   simp only [go_sem, seval, if_pos rfl, callW, q0, undef, lyB, nthC, loopOf, Try.f83, Option.getD, lget_put, lgetq_put, List.length_set, Int.toNat_natCast, e2, e3, e4, e5, el, gc, gx, ga, hc, hxb, ha2, nc, nx, na, hol, c0, c1, x1, x2, l1, l2]
   refine .of (hcmp _) ?_
   simp only [go_sem, seval, if_pos rfl, callW, q0, undef, lyB, nthC, loopOf, Try.f83, Option.getD, lget_put, lgetq_put, List.length_set, Int.toNat_natCast, e2, e3, e4, e5, el, gc, gx, ga, hc, hxb, ha2, nc, nx, na, hol, c0, c1, x1, x2, l1, l2, h1]
   exact ⟨rfl, rfl, _, rfl, ⟨by simp only [List.length_set, el], by simp only [go_sem, seval, if_pos rfl, lget_put, List.length_set, el, e2], by simp only [go_sem, seval, if_pos rfl, lget_put, List.length_set, el, e3], by simp only [go_sem, seval, if_pos rfl, lget_put, List.length_set, el, e4], by simp only [go_sem, seval, if_pos rfl, lget_put, List.length_set, el, e5]⟩⟩
  ·by_cases h0 : r = 0
   ·have b0 : (r == 0) = true := by rw [h0]; rfl
    by_cases h2 : x.turn < y.turn
    ·have hP : P = i := by rw [if_pos (hst.2 (.inr ⟨h0, h2⟩))] at hr; omega
     subst hP
     simp only [go_sem, seval, if_pos rfl, callW, q0, undef, lyB, nthC, loopOf, Try.f83, Option.getD, lget_put, lgetq_put, List.length_set, Int.toNat_natCast, e2, e3, e4, e5, el, gc, gx, ga, hc, hxb, ha2, nc, nx, na, hol, c0, c1, x1, x2, l1, l2]
     refine .of (hcmp _) ?_
     simp only [go_sem, seval, if_pos rfl, callW, q0, undef, lyB, nthC, loopOf, Try.f83, Option.getD, lget_put, lgetq_put, List.length_set, Int.toNat_natCast, e2, e3, e4, e5, el, gc, gx, ga, hc, hxb, ha2, nc, nx, na, hol, c0, c1, x1, x2, l1, l2, h1, b0, h2]
     exact ⟨rfl, rfl, _, rfl, ⟨by simp only [List.length_set, el], by simp only [go_sem, seval, if_pos rfl, lget_put, List.length_set, el, e2], by simp only [go_sem, seval, if_pos rfl, lget_put, List.length_set, el, e3], by simp only [go_sem, seval, if_pos rfl, lget_put, List.length_set, el, e4], by simp only [go_sem, seval, if_pos rfl, lget_put, List.length_set, el, e5]⟩⟩
    ·have hP : i + 1 + layPos x (L.drop (i + 1)) = P := by rw [if_neg (fun h => by have := hst.1 h; omega)] at hr; omega
     simp only [go_sem, seval, if_pos rfl, callW, q0, undef, lyB, nthC, loopOf, Try.f83, Option.getD, lget_put, lgetq_put, List.length_set, Int.toNat_natCast, e2, e3, e4, e5, el, gc, gx, ga, hc, hxb, ha2, nc, nx, na, hol, c0, c1, x1, x2, l1, l2]
     refine .of (hcmp _) ?_
     simp only [go_sem, seval, if_pos rfl, callW, q0, undef, lyB, nthC, loopOf, Try.f83, Option.getD, lget_put, lgetq_put, List.length_set, Int.toNat_natCast, e2, e3, e4, e5, el, gc, gx, ga, hc, hxb, ha2, nc, nx, na, hol, c0, c1, x1, x2, l1, l2, h1, b0, h2, w1]
     exact ⟨m - 1, by omega, _, i + 1, rfl, ⟨by simp only [List.length_set, el], by simp only [go_sem, seval, if_pos rfl, lget_put, List.length_set, el, e2], by simp only [go_sem, seval, if_pos rfl, lget_put, List.length_set, el, e3], by simp only [go_sem, seval, if_pos rfl, lget_put, List.length_set, el, e4], by simp only [go_sem, seval, if_pos rfl, lget_put, List.length_set, el]⟩, rfl, by omega, hP⟩
   ·have b0 : (r == 0) = false := by rw [beq_eq_false_iff_ne]; exact h0
    have hP : i + 1 + layPos x (L.drop (i + 1)) = P := by rw [if_neg (fun h => by have := hst.1 h; omega)] at hr; omega
    simp only [go_sem, seval, if_pos rfl, callW, q0, undef, lyB, nthC, loopOf, Try.f83, Option.getD, lget_put, lgetq_put, List.length_set, Int.toNat_natCast, e2, e3, e4, e5, el, gc, gx, ga, hc, hxb, ha2, nc, nx, na, hol, c0, c1, x1, x2, l1, l2]
    refine .of (hcmp _) ?_
    simp only [go_sem, seval, if_pos rfl, callW, q0, undef, lyB, nthC, loopOf, Try.f83, Option.getD, lget_put, lgetq_put, List.length_set, Int.toNat_natCast, e2, e3, e4, e5, el, gc, gx, ga, hc, hxb, ha2, nc, nx, na, hol, c0, c1, x1, x2, l1, l2, h1, b0, w1]
    exact ⟨m - 1, by omega, _, i + 1, rfl, ⟨by simp only [List.length_set, el], by simp only [go_sem, seval, if_pos rfl, lget_put, List.length_set, el, e2], by simp only [go_sem, seval, if_pos rfl, lget_put, List.length_set, el, e3], by simp only [go_sem, seval, if_pos rfl, lget_put, List.length_set, el, e4], by simp only [go_sem, seval, if_pos rfl, lget_put, List.length_set, el]⟩, rfl, by omega, hP⟩
 ·have c0 : ¬ (i : Int) < (L.length : Int) := by omega
  have hP : P = i := by rw [List.drop_eq_nil_of_le (by omega)] at hr; simpa [layPos] using hr.symm
  subst hP
  simp only [go_sem, seval, if_pos rfl, callW, q0, undef, lyB, nthC, loopOf, Try.f83, Option.getD, lget_put, lgetq_put, List.length_set, e2, e3, e4, e5, el, gc, gx, hc, hxb, hol, c0]
  exact ⟨rfl, rfl, _, rfl, ⟨by simp only [List.length_set, el], by simp only [go_sem, seval, if_pos rfl, lget_put, List.length_set, el, e2], by simp only [go_sem, seval, if_pos rfl, lget_put, List.length_set, el, e3], by simp only [go_sem, seval, if_pos rfl, lget_put, List.length_set, el, e4], by simp only [go_sem, seval, if_pos rfl, lget_put, List.length_set, el, e5]⟩⟩
set_option maxHeartbeats 3200000 in
set_option maxRecDepth 20000 in
theorem refLay_call {lo : Nat} {σ : St} {s : Value} {t : Int} {x : Item} {L : List Item} (hS : ItS lo σ s L) (hx : x.ok = true) (ho : ∀ y ∈ L, y.ok = true) (hL : L.length < 1000) :
  RefD 83 [RV s t, .agg ⟨x.cells⟩] σ t (layL x L) := by
 refine RefD.of ?_
 have key : ∀ σ' cb xb P ts, P = layPos x L → σ'.get cb = some (.cells [s, .int .i64 t] false) → cb < σ'.next → σ'.get xb = some (.cells x.cells false) → xb < σ'.next → ItS lo σ' s L → FLy ts cb xb (xb + 1) 0 → loopX Try.prog false lyB ⟨ts, []⟩ σ' (endL (ELy cb xb (xb + 1) P σ') fun _ => False) := fun σ' cb xb P ts hP gc hc gx hxb hS' F =>
  ly_loop gc hc gx hxb hS' hx ho (by omega) L.length _ _ ⟨ts, 0, rfl, F, rfl, by omega, by rw [hP, List.drop_zero]; omega⟩
 obtain ⟨k, hk⟩ : ∃ k, layPos x L = k := ⟨_, rfl⟩
 have hkl : k ≤ L.length := hk ▸ layPos_le L
 unfold layL
 rw [hk]
 rcases id hS with ⟨rfl, rfl⟩ | ⟨a, rfl, ga, ha1, ha2⟩
 ·obtain rfl : k = 0 := by simpa using hkl
  have A2 : ∀ σ : St, ∀ b, σ.get b = some (.cells [.int .i64 x.id, .int .i64 x.n, .int .i64 x.d, .int .i64 x.turn] false) → opAppend (cP Try.prog).T σ 37 37 (.slice none 0 0) (.slice (some ⟨b, 0, some 0⟩) 1 1) = some (.new (.cells x.cells false) (.slice (some ⟨σ.next, 0, some 6⟩) 1 1) [b]) := fun σ b h => it_first h
  refine enter (p := q0) Try.func83 rfl stat83 ?_
  simp only [go_sem, seval, if_pos rfl, callW, q0, undef, RV, Item.cells, Try.f83]
  refine loop_then (key _ σ.next (σ.next + 1) 0 _ hk.symm ?_ ?_ ?_ ?_ ?_ ⟨rfl, rfl, rfl, rfl, rfl⟩) ?_
  ·simp only [go_sem, seval, if_pos rfl]
  ·simp only [go_sem, seval, if_pos rfl] <;> omega
  ·simp only [go_sem, seval, if_pos rfl, Item.cells]
  ·simp only [go_sem, seval, if_pos rfl] <;> omega
  ·exact hS.keep (by simp only [go_sem, seval, if_pos rfl] <;> omega) fun z h1 h2 => by simp only [go_sem, seval, if_pos rfl, h2]
  intro ax fr' σ1 lg1 hlg1 hB1 h
  obtain ⟨rfl, rfl, ts', rfl, F⟩ := h
  obtain rfl : lg1 = [] := List.eq_nil_iff_forall_not_mem.2 fun z hz => hB1 z hz
  have e2 := F.t2
  have e3 := F.t3
  have e4 := F.t4
  have e5 := F.t5
  have el := F.size
  simp only [go_sem, seval, if_pos rfl, callW, q0, undef, RV, Item.cells, lget_put, lgetq_put, List.length_set, e2, e3, e4, e5, el, Int.toNat_natCast, Nat.not_lt_zero, Nat.sub_zero, Option.isSome_none, Bool.false_eq_true, zerosN, append_none, append_no_more, A2, Int.reduceToNat]
  refine ⟨_, rfl, fun z hz => ?_, .inr ⟨σ.next + 4, rfl, ?_, by omega, ?_⟩⟩
  ·simp only [List.mem_cons, List.not_mem_nil, or_false] at hz
   omega
  ·simp only [go_sem, seval, if_pos rfl, St.next_put, cellsL, Item.cells, List.append_assoc, List.cons_append, List.nil_append, List.append_nil]
  ·simp only [go_sem, seval, if_pos rfl, St.next_put] <;> omega
 have q1 : (0 : Int) ≤ (k : Int) := by omega
 have q2 : (k : Int) ≤ (L.length : Int) := by omega
 have q6 : ¬ L.length < k := by omega
 have nk : ¬ k < 0 := by omega
 have na : ¬ σ.next = a := by omega
 have tk : (L.drop k).take (L.length - k) = L.drop k := List.take_of_length_le (by simp)
 have tl : (L.take k).length = k := by simp; omega
 have ln : (L.take k ++ x :: L.drop k).length = k + 1 + (L.length - k) := by simp; omega
 have ca : ∀ σ : St, σ.get a = some (.cells (cellsL L) false) → σ.get a = some (.cells (cellsL L) false) := fun _ h => h
 by_cases h0 : k = 0
 ·by_cases h1 : k < L.length
  ·have q5 : 0 < L.length := by omega
   have A1 : ∀ σ, opAppend (cP Try.prog).T σ 37 37 (.slice none 0 0) (.slice (some ⟨a, 0, some 6⟩) k L.length) = some (.val (.slice none 0 0) []) := fun σ => by rw [h0]; exact ap_nil0
   have A2 : ∀ σ : St, ∀ b, σ.get b = some (.cells [.int .i64 x.id, .int .i64 x.n, .int .i64 x.d, .int .i64 x.turn] false) → opAppend (cP Try.prog).T σ 37 37 (.slice none 0 0) (.slice (some ⟨b, 0, some 0⟩) 1 1) = some (.new (.cells (cellsL [x]) false) (.slice (some ⟨σ.next, 0, some 6⟩) 1 1) [b]) := fun σ b h => (it_first h).trans (by simp [cellsL])
   have A3 : ∀ σ : St, ∀ d, σ.get d = some (.cells (cellsL [x]) false) → σ.get a = some (.cells (cellsL L) false) → opAppend (cP Try.prog).T σ 37 37 (.slice (some ⟨d, 0, some 6⟩) 1 1) (.slice (some ⟨a, k * 4, some 6⟩) (L.length - k) (L.length - k)) = some (.eff (.slice (some ⟨σ.next, 0, some 6⟩) (1 + (L.length - k)) (1 + (L.length - k))) ((σ.new (.cells (cellsL ([x] ++ L.drop k)) false)).put d none) [d]) := fun σ d h2 h => by
    have := ap_more (k := k) (m := L.length - k) (c := L.length - k) h2 h (by omega) (by omega) (by omega) (by simp)
    rwa [tk] at this
   refine enter (p := q0) Try.func83 rfl stat83 ?_
   simp only [go_sem, seval, if_pos rfl, callW, q0, undef, RV, Item.cells, Try.f83]
   refine loop_then (key _ σ.next (σ.next + 1) k _ hk.symm ?_ ?_ ?_ ?_ ?_ ⟨rfl, rfl, rfl, rfl, rfl⟩) ?_
   ·simp only [go_sem, seval, if_pos rfl]
   ·simp only [go_sem, seval, if_pos rfl] <;> omega
   ·simp only [go_sem, seval, if_pos rfl, Item.cells]
   ·simp only [go_sem, seval, if_pos rfl] <;> omega
   ·exact hS.keep (by simp only [go_sem, seval, if_pos rfl] <;> omega) fun z h1 h2 => by simp only [go_sem, seval, if_pos rfl, h2]
   intro ax fr' σ1 lg1 hlg1 hB1 h
   obtain ⟨rfl, rfl, ts', rfl, F⟩ := h
   obtain rfl : lg1 = [] := List.eq_nil_iff_forall_not_mem.2 fun z hz => hB1 z hz
   have e2 := F.t2
   have e3 := F.t3
   have e4 := F.t4
   have e5 := F.t5
   have el := F.size
   simp only [go_sem, seval, if_pos rfl, callW, q0, undef, RV, Item.cells, lget_put, lgetq_put, List.length_set, e2, e3, e4, e5, el, Int.toNat_natCast, Nat.not_lt_zero, Nat.sub_zero, Option.isSome_none, Bool.false_eq_true, zerosN, St.next_put, q5, ga, ha2, na, nk, q1, q2, q6, h1, A1, A2, A3]
   refine ⟨_, rfl, fun z hz => ?_, .inr ⟨σ.next + 5, by rw [show (L.take k ++ x :: L.drop k).length = 1 + (L.length - k) by rw [ln]; omega], ?_, by omega, ?_⟩⟩
   ·simp only [List.mem_cons, List.not_mem_nil, or_false] at hz
    omega
   ·rw [show L.take k = [] by rw [h0]; rfl]
    simp only [go_sem, seval, if_pos rfl, St.next_put, cellsL, Item.cells, List.append_assoc, List.cons_append, List.nil_append, List.append_nil]
   ·simp only [go_sem, seval, if_pos rfl, St.next_put] <;> omega
  ·have hlt : (L.length = k) = True := eq_true (by omega)
   have q5 : ¬ 0 < L.length := by omega
   have k0 : (k = 0) = True := eq_true h0
   have A2 : ∀ σ : St, ∀ b, σ.get b = some (.cells [.int .i64 x.id, .int .i64 x.n, .int .i64 x.d, .int .i64 x.turn] false) → opAppend (cP Try.prog).T σ 37 37 (.slice none 0 0) (.slice (some ⟨b, 0, some 0⟩) 1 1) = some (.new (.cells (cellsL [x]) false) (.slice (some ⟨σ.next, 0, some 6⟩) 1 1) [b]) := fun σ b h => (it_first h).trans (by simp [cellsL])
   refine enter (p := q0) Try.func83 rfl stat83 ?_
   simp only [go_sem, seval, if_pos rfl, callW, q0, undef, RV, Item.cells, Try.f83]
   refine loop_then (key _ σ.next (σ.next + 1) k _ hk.symm ?_ ?_ ?_ ?_ ?_ ⟨rfl, rfl, rfl, rfl, rfl⟩) ?_
   ·simp only [go_sem, seval, if_pos rfl]
   ·simp only [go_sem, seval, if_pos rfl] <;> omega
   ·simp only [go_sem, seval, if_pos rfl, Item.cells]
   ·simp only [go_sem, seval, if_pos rfl] <;> omega
   ·exact hS.keep (by simp only [go_sem, seval, if_pos rfl] <;> omega) fun z h1 h2 => by simp only [go_sem, seval, if_pos rfl, h2]
   intro ax fr' σ1 lg1 hlg1 hB1 h
   obtain ⟨rfl, rfl, ts', rfl, F⟩ := h
   obtain rfl : lg1 = [] := List.eq_nil_iff_forall_not_mem.2 fun z hz => hB1 z hz
   have e2 := F.t2
   have e3 := F.t3
   have e4 := F.t4
   have e5 := F.t5
   have el := F.size
   simp only [go_sem, seval, if_pos rfl, callW, q0, undef, RV, Item.cells, lget_put, lgetq_put, List.length_set, e2, e3, e4, e5, el, Int.toNat_natCast, Nat.not_lt_zero, Nat.sub_zero, Option.isSome_none, Bool.false_eq_true, zerosN, St.next_put, q5, ga, ha2, na, nk, q1, q2, q6, h1, hlt, k0, ap_nilE, A2, ap_end (show 1 < 1000000 by omega)]
   refine ⟨_, rfl, fun z hz => ?_, .inr ⟨σ.next + 4, by rw [show (L.take k ++ x :: L.drop k).length = 1 by rw [ln]; omega], ?_, by omega, ?_⟩⟩
   ·simp only [List.mem_cons, List.not_mem_nil, or_false] at hz
    omega
   ·rw [show L.take k = [] by rw [h0]; rfl, show L.drop k = [] from List.drop_eq_nil_of_le (by omega)]
    simp only [go_sem, seval, if_pos rfl, St.next_put, cellsL, Item.cells, List.append_assoc, List.cons_append, List.nil_append, List.append_nil]
   ·simp only [go_sem, seval, if_pos rfl, St.next_put] <;> omega
 ·by_cases h1 : k < L.length
  ·have q5 : 0 < L.length := by omega
   have A1 : ∀ σ, σ.get a = some (.cells (cellsL L) false) → opAppend (cP Try.prog).T σ 37 37 (.slice none 0 0) (.slice (some ⟨a, 0, some 6⟩) k L.length) = some (.new (.cells (cellsL (L.take k)) false) (.slice (some ⟨σ.next, 0, some 6⟩) k k) [a]) := fun σ h => by
    have := ap_new (k := 0) (m := k) (c := L.length) h (by omega) (by omega) (by omega)
    simpa using this
   have A2 : ∀ σ : St, ∀ d b, σ.get d = some (.cells (cellsL (L.take k)) false) → σ.get b = some (.cells [.int .i64 x.id, .int .i64 x.n, .int .i64 x.d, .int .i64 x.turn] false) → opAppend (cP Try.prog).T σ 37 37 (.slice (some ⟨d, 0, some 6⟩) k k) (.slice (some ⟨b, 0, some 0⟩) 1 1) = some (.eff (.slice (some ⟨σ.next, 0, some 6⟩) (k + 1) (k + 1)) ((σ.new (.cells (cellsL (L.take k ++ [x])) false)).put d none) [d]) := fun σ d b h2 h => by
    have := it_more (x := x) h2 h (by omega)
    rwa [tl] at this
   have tl2 : (L.take k ++ [x]).length = k + 1 := by simp; omega
   have A3 : ∀ σ : St, ∀ d, σ.get d = some (.cells (cellsL (L.take k ++ [x])) false) → σ.get a = some (.cells (cellsL L) false) → opAppend (cP Try.prog).T σ 37 37 (.slice (some ⟨d, 0, some 6⟩) (k + 1) (k + 1)) (.slice (some ⟨a, k * 4, some 6⟩) (L.length - k) (L.length - k)) = some (.eff (.slice (some ⟨σ.next, 0, some 6⟩) (k + 1 + (L.length - k)) (k + 1 + (L.length - k))) ((σ.new (.cells (cellsL ((L.take k ++ [x]) ++ L.drop k)) false)).put d none) [d]) := fun σ d h2 h => by
    have := ap_more (k := k) (m := L.length - k) (c := L.length - k) h2 h (by omega) (by omega) (by omega) (by omega)
    rwa [tk, tl2] at this
   refine enter (p := q0) Try.func83 rfl stat83 ?_
   simp only [go_sem, seval, if_pos rfl, callW, q0, undef, RV, Item.cells, Try.f83]
   refine loop_then (key _ σ.next (σ.next + 1) k _ hk.symm ?_ ?_ ?_ ?_ ?_ ⟨rfl, rfl, rfl, rfl, rfl⟩) ?_
   ·simp only [go_sem, seval, if_pos rfl]
   ·simp only [go_sem, seval, if_pos rfl] <;> omega
   ·simp only [go_sem, seval, if_pos rfl, Item.cells]
   ·simp only [go_sem, seval, if_pos rfl] <;> omega
   ·exact hS.keep (by simp only [go_sem, seval, if_pos rfl] <;> omega) fun z h1 h2 => by simp only [go_sem, seval, if_pos rfl, h2]
   intro ax fr' σ1 lg1 hlg1 hB1 h
   obtain ⟨rfl, rfl, ts', rfl, F⟩ := h
   obtain rfl : lg1 = [] := List.eq_nil_iff_forall_not_mem.2 fun z hz => hB1 z hz
   have e2 := F.t2
   have e3 := F.t3
   have e4 := F.t4
   have e5 := F.t5
   have el := F.size
   simp only [go_sem, seval, if_pos rfl, callW, q0, undef, RV, Item.cells, lget_put, lgetq_put, List.length_set, e2, e3, e4, e5, el, Int.toNat_natCast, Nat.not_lt_zero, Nat.sub_zero, Option.isSome_none, Bool.false_eq_true, zerosN, St.next_put, q5, ga, ha2, na, nk, q1, q2, q6, h1, A1, A2, A3]
   refine ⟨_, rfl, fun z hz => ?_, .inr ⟨σ.next + 6, by rw [show (L.take k ++ x :: L.drop k).length = k + (1 + (L.length - k)) by rw [ln]; omega], ?_, by omega, ?_⟩⟩
   ·simp only [List.mem_cons, List.not_mem_nil, or_false] at hz
    omega
   ·simp only [go_sem, seval, if_pos rfl, St.next_put, cellsL, Item.cells, List.append_assoc, List.cons_append, List.nil_append, List.append_nil]
   ·simp only [go_sem, seval, if_pos rfl, St.next_put] <;> omega
  ·have hlt : (L.length = k) = True := eq_true (by omega)
   have q5 : 0 < L.length := by omega
   have A1 : ∀ σ, σ.get a = some (.cells (cellsL L) false) → opAppend (cP Try.prog).T σ 37 37 (.slice none 0 0) (.slice (some ⟨a, 0, some 6⟩) k L.length) = some (.new (.cells (cellsL (L.take k)) false) (.slice (some ⟨σ.next, 0, some 6⟩) k k) [a]) := fun σ h => by
    have := ap_new (k := 0) (m := k) (c := L.length) h (by omega) (by omega) (by omega)
    simpa using this
   have A2 : ∀ σ : St, ∀ d b, σ.get d = some (.cells (cellsL (L.take k)) false) → σ.get b = some (.cells [.int .i64 x.id, .int .i64 x.n, .int .i64 x.d, .int .i64 x.turn] false) → opAppend (cP Try.prog).T σ 37 37 (.slice (some ⟨d, 0, some 6⟩) k k) (.slice (some ⟨b, 0, some 0⟩) 1 1) = some (.eff (.slice (some ⟨σ.next, 0, some 6⟩) (k + 1) (k + 1)) ((σ.new (.cells (cellsL (L.take k ++ [x])) false)).put d none) [d]) := fun σ d b h2 h => by
    have := it_more (x := x) h2 h (by omega)
    rwa [tl] at this
   refine enter (p := q0) Try.func83 rfl stat83 ?_
   simp only [go_sem, seval, if_pos rfl, callW, q0, undef, RV, Item.cells, Try.f83]
   refine loop_then (key _ σ.next (σ.next + 1) k _ hk.symm ?_ ?_ ?_ ?_ ?_ ⟨rfl, rfl, rfl, rfl, rfl⟩) ?_
   ·simp only [go_sem, seval, if_pos rfl]
   ·simp only [go_sem, seval, if_pos rfl] <;> omega
   ·simp only [go_sem, seval, if_pos rfl, Item.cells]
   ·simp only [go_sem, seval, if_pos rfl] <;> omega
   ·exact hS.keep (by simp only [go_sem, seval, if_pos rfl] <;> omega) fun z h1 h2 => by simp only [go_sem, seval, if_pos rfl, h2]
   intro ax fr' σ1 lg1 hlg1 hB1 h
   obtain ⟨rfl, rfl, ts', rfl, F⟩ := h
   obtain rfl : lg1 = [] := List.eq_nil_iff_forall_not_mem.2 fun z hz => hB1 z hz
   have e2 := F.t2
   have e3 := F.t3
   have e4 := F.t4
   have e5 := F.t5
   have el := F.size
   simp only [go_sem, seval, if_pos rfl, callW, q0, undef, RV, Item.cells, lget_put, lgetq_put, List.length_set, e2, e3, e4, e5, el, Int.toNat_natCast, Nat.not_lt_zero, Nat.sub_zero, Option.isSome_none, Bool.false_eq_true, zerosN, St.next_put, q5, ga, ha2, na, nk, q1, q2, q6, h1, hlt, A1, A2, ap_end (show k + 1 < 1000000 by omega)]
   refine ⟨_, rfl, fun z hz => ?_, .inr ⟨σ.next + 5, by rw [show (L.take k ++ x :: L.drop k).length = k + 1 by rw [ln]; omega], ?_, by omega, ?_⟩⟩
   ·simp only [List.mem_cons, List.not_mem_nil, or_false] at hz
    omega
   ·rw [show L.drop k = [] from List.drop_eq_nil_of_le (by omega)]
    simp only [go_sem, seval, if_pos rfl, St.next_put, cellsL, Item.cells, List.append_assoc, List.cons_append, List.nil_append, List.append_nil]
   ·simp only [go_sem, seval, if_pos rfl, St.next_put] <;> omega
end Go.Ab
namespace Go.Ab
open Go.Proofs
theorem ItS.shape {lo : Nat} {σ : St} {s : Value} {L : List Item} (h : ItS lo σ s L) : ∃ sa sl sc, s = .slice sa sl sc := by
 rcases h with ⟨rfl, _⟩ | ⟨a, rfl, _⟩
 ·exact ⟨_, _, _, rfl⟩
 ·exact ⟨_, _, _, rfl⟩
theorem ItS.low {lo lo' : Nat} {σ : St} {s : Value} {L : List Item} (h : ItS lo σ s L) (hl : lo' ≤ lo) : ItS lo' σ s L := by
 rcases h with h | ⟨a, h1, h2, h3, h4⟩
 ·exact .inl h
 ·exact .inr ⟨a, h1, h2, by omega, h4⟩
def NewS (σ : St) (s : Value) (R : List Item) (σ' : St) (w : Value) (L' : List Item) : Prop := (w = s ∧ L' = R) ∨ ItS σ.next σ' w L'
theorem RefD.to {f : FuncId} {args : List Value} {σ : St} {t : Int} {L : List Item} (h : RefD f args σ t L) : callX Try.prog f args σ fun e σ' lg => ∃ w, e = .ret (RV w t) ∧ lg = [] ∧ ItS σ.next σ' w L := by
 obtain ⟨w, σ', d, hS⟩ := h
 exact ⟨_, _, _, d, w, rfl, rfl, hS⟩
theorem may_call' (id n d : Int) (σ : St) (hn : okI n = true) (hd : okI d = true) : DCall Try.prog 82 [.int .i64 id, .agg ⟨[.int .i64 n, .int .i64 d]⟩] σ (.ret (.bool (mayB id n d))) σ [] := mayH_call id n d σ hn hd
theorem findI_ge {id : Int} {L : List Item} (h : findI id L 0 ≠ -1) : 0 ≤ findI id L 0 ∧ (findI id L 0).toNat < L.length := by
 obtain ⟨j, x, h1, h2, h3⟩ := findI_some h
 have := (List.getElem?_eq_some_iff.1 h2).1
 omega
def RefE (f : FuncId) (args : List Value) (σ : St) (s : Value) (R : List Item) (t : Int) (L' : List Item) (e : Int) : Prop :=
 ∃ w σ', DCall Try.prog f args σ (.ret (.tuple ⟨[RV w t, .int .i64 e]⟩)) σ' [] ∧ NewS σ s R σ' w L'
theorem RefE.of {f : FuncId} {args : List Value} {σ : St} {s : Value} {R : List Item} {t : Int} {L' : List Item} {e : Int} (h : callX Try.prog f args σ fun x σ' lg => ∃ w, x = .ret (.tuple ⟨[RV w t, .int .i64 e]⟩) ∧ (∀ z ∈ lg, σ.next ≤ z) ∧ NewS σ s R σ' w L') : RefE f args σ s R t L' e := by
 obtain ⟨x, σ', lg, d, w, rfl, hl, hS⟩ := h
 exact ⟨w, σ', d.weaken2 fun c hc hn => by have := hl c hc; omega, hS⟩
set_option maxHeartbeats 1600000 in
set_option maxRecDepth 20000 in
theorem refPut_call {lo : Nat} {σ : St} {s : Value} {t id n d : Int} {R : List Item} (hS : ItS lo σ s R) (ho : ∀ y ∈ R, y.ok = true) (hL : R.length < 1000) (hn : okI n = true) (hd : okI d = true) (ht : 0 ≤ t ∧ t < 1000000) :
  RefE 50 [RV s t, .int .i64 id, .agg ⟨[.int .i64 n, .int .i64 d]⟩] σ s R (putR R t id n d).2.1 (putR R t id n d).1 (putR R t id n d).2.2 := by
 refine RefE.of ?_
 obtain ⟨sa, sl, sc, rfl⟩ := hS.shape
 have hol : ∀ σ', opLen (cP Try.prog).T σ' 37 (.slice sa sl sc) = some (.val (.int .i64 R.length) []) := fun σ' => len_it hS.v
 have hm := fun σ => may_call' id n d σ hn hd
 have hf := fun σ' h1 h2 => find_call (σ := σ') (t := t) (id := id) (hS.keep (σ' := σ') h1 h2).v (by omega)
 by_cases hc : mayB id n d = true
 ·by_cases hv : findI id R 0 = -1
  ·have e : putR R t id n d = (layL ⟨id, n, d, t + 1⟩ R, t + 1, 0) := by simp only [putR, hc, hv, if_true]
   rw [e]
   obtain ⟨h0, h1, h2⟩ := mayB_is hc
   have hxo : Item.ok ⟨id, n, d, t + 1⟩ = true := by
    have hR : okR n d = true := by simp [okR, hn, hd, h2]
    have ht1 : okI (t + 1) = true := by simp only [okI, Bool.and_eq_true, decide_eq_true_eq]; omega
    have hid : okI id = true := by simp only [okI, Bool.and_eq_true, decide_eq_true_eq]; omega
    simp only [Item.ok, hR, ht1, hid, Bool.and_self]
   have w1 : IntKind.i64.wrap (t + 1) = t + 1 := wrapI (by omega) (by omega)
   have c1 : ¬ (0 : Int) ≤ -1 := by omega
   have c2 : ¬ (100000 : Int) ≤ (R.length : Int) := by omega
   rw [hv] at hf
   refine enter (p := q0) Try.func50 rfl stat50 ?_
   simp only [go_sem, seval, if_pos rfl, callW, q0, undef, RV, Try.f50, body30, body82, body83]
   refine .of (hm _) ?_
   simp only [go_sem, seval, if_pos rfl, callW, q0, undef, Try.f50, hc, body30, body82, body83]
   refine .of (hf _ (by simp only [go_sem, seval, if_pos rfl] <;> omega) fun a h1 h2 => by simp only [go_sem, seval, if_pos rfl, h2]) ?_
   simp only [go_sem, seval, if_pos rfl, callW, q0, undef, Try.f50, hol, c1, c2, w1, body30, body82, body83]
   refine callX.hidE (RefD.to (refLay_call (x := ⟨id, n, d, t + 1⟩) (L := R) (lo := lo) (t := t + 1) (hS.keep (by simp only [go_sem, seval, if_pos rfl] <;> omega) fun a h1 h2 => by simp only [go_sem, seval, if_pos rfl, h2]) hxo ho (by omega))) ?_
   intro e σ1 lg1 hlg1 hA
   obtain ⟨w, rfl, rfl, hw⟩ := hA
   have g6 : σ1.get (σ.next + 2) = some (.cells [.slice none 0 0, .int .i64 0] false) := (hlg1.2 _ (by simp only [go_sem, seval, if_pos rfl]) (by simp)).trans (by simp only [go_sem, seval, if_pos rfl])
   have hn1 := hlg1.1
   simp only [go_sem, seval, if_pos rfl] at hn1
   have n6 : σ.next + 2 < σ1.next := by omega
   obtain ⟨wa, wl, wc, rfl⟩ := hw.shape
   refine ⟨?_⟩
   simp only [go_sem, seval, if_pos rfl, callW, q0, undef, RV, Try.f50, g6, n6]
   refine ⟨_, rfl, .inr ?_⟩
   refine (hw.keep (by simp only [go_sem, seval, if_pos rfl]) fun a h1 h2 => ?_).low (by simp only [go_sem, seval, if_pos rfl] <;> omega)
   simp only [go_sem, seval, if_pos rfl] at h1
   have ne : ¬ σ.next + 2 = a := by omega
   simp only [go_sem, seval, if_pos rfl, ne]
  ·have e : putR R t id n d = (R, t, 210) := by simp only [putR, hc, hv, if_true, if_false]
   rw [e]
   have c1 := (findI_ge hv).1
   refine enter (p := q0) Try.func50 rfl stat50 ?_
   simp only [go_sem, seval, if_pos rfl, callW, q0, undef, RV, Try.f50, body30, body82, body83]
   refine .of (hm _) ?_
   simp only [go_sem, seval, if_pos rfl, callW, q0, undef, Try.f50, hc, body30, body82, body83]
   refine .of (hf _ (by simp only [go_sem, seval, if_pos rfl] <;> omega) fun a h1 h2 => by simp only [go_sem, seval, if_pos rfl, h2]) ?_
   simp only [go_sem, seval, if_pos rfl, callW, q0, undef, RV, Try.f50, c1, body30, body82, body83]
   exact ⟨_, rfl, .inl ⟨rfl, rfl⟩⟩
 ·have hc' : mayB id n d = false := by simpa using hc
  have e : putR R t id n d = (R, t, 2) := if_neg hc
  rw [e]
  refine enter (p := q0) Try.func50 rfl stat50 ?_
  simp only [go_sem, seval, if_pos rfl, callW, q0, undef, RV, Try.f50, body30, body82, body83]
  refine .of (hm _) ?_
  simp only [go_sem, seval, if_pos rfl, callW, q0, undef, RV, Try.f50, hc', body30, body82, body83]
  exact ⟨_, rfl, .inl ⟨rfl, rfl⟩⟩
set_option maxHeartbeats 1600000 in
set_option maxRecDepth 20000 in
theorem refDrop_call {lo : Nat} {σ : St} {s : Value} {t id : Int} {R : List Item} (hS : ItS lo σ s R) (hL : R.length < 1000) :
  RefE 52 [RV s t, .int .i64 id] σ s R t (dropR R id).1 (dropR R id).2 := by
 refine RefE.of ?_
 obtain ⟨sa, sl, sc, rfl⟩ := hS.shape
 have hf := fun σ' h1 h2 => find_call (σ := σ') (t := t) (id := id) (hS.keep (σ' := σ') h1 h2).v (by omega)
 by_cases hv : findI id R 0 = -1
 ·have e : dropR R id = (R, 5) := if_pos hv
  rw [e]
  have c1 : (-1 : Int) < 0 := by omega
  rw [hv] at hf
  refine enter (p := q0) Try.func52 rfl stat52 ?_
  simp only [go_sem, seval, if_pos rfl, callW, q0, undef, RV, Try.f52, body30, body84]
  refine .of (hf _ (by simp only [go_sem, seval, if_pos rfl] <;> omega) fun a h1 h2 => by simp only [go_sem, seval, if_pos rfl, h2]) ?_
  simp only [go_sem, seval, if_pos rfl, callW, q0, undef, RV, Try.f52, c1, body30, body84]
  exact ⟨_, rfl, .inl ⟨rfl, rfl⟩⟩
 ·obtain ⟨k, hk⟩ : ∃ k, (findI id R 0).toNat = k := ⟨_, rfl⟩
  have e : dropR R id = (R.eraseIdx k, 0) := by rw [← hk]; exact if_neg hv
  rw [e]
  have hge := findI_ge hv
  have hfk : findI id R 0 = (k : Int) := by omega
  rw [hfk] at hf
  have c1 : ¬ (k : Int) < 0 := by omega
  refine enter (p := q0) Try.func52 rfl stat52 ?_
  simp only [go_sem, seval, if_pos rfl, callW, q0, undef, RV, Try.f52, body30, body84]
  refine .of (hf _ (by simp only [go_sem, seval, if_pos rfl] <;> omega) fun a h1 h2 => by simp only [go_sem, seval, if_pos rfl, h2]) ?_
  simp only [go_sem, seval, if_pos rfl, callW, q0, undef, RV, Try.f52, c1, body30, body84]
  refine callX.hidE (RefD.to (without_call (n := k) (L := R) (lo := lo) (t := t) (hS.keep (by simp only [go_sem, seval, if_pos rfl] <;> omega) fun a h1 h2 => by simp only [go_sem, seval, if_pos rfl, h2]) (by omega) (by omega))) ?_
  intro e σ1 lg1 hlg1 hA
  obtain ⟨w, rfl, rfl, hw⟩ := hA
  have g6 : σ1.get (σ.next + 1) = some (.cells [.slice none 0 0, .int .i64 0] false) := (hlg1.2 _ (by simp only [go_sem, seval, if_pos rfl]) (by simp)).trans (by simp only [go_sem, seval, if_pos rfl])
  have hn1 := hlg1.1
  simp only [go_sem, seval, if_pos rfl] at hn1
  have n6 : σ.next + 1 < σ1.next := by omega
  obtain ⟨wa, wl, wc, rfl⟩ := hw.shape
  refine ⟨?_⟩
  simp only [go_sem, seval, if_pos rfl, callW, q0, undef, RV, Try.f52, g6, n6]
  refine ⟨_, rfl, .inr ?_⟩
  refine (hw.keep (by simp only [go_sem, seval, if_pos rfl]) fun a h1 h2 => ?_).low (by simp only [go_sem, seval, if_pos rfl] <;> omega)
  simp only [go_sem, seval, if_pos rfl] at h1
  have ne : ¬ σ.next + 1 = a := by omega
  simp only [go_sem, seval, if_pos rfl, ne]
def RefT (f : FuncId) (args : List Value) (σ : St) (s : Value) (R : List Item) (t : Int) (L' : List Item) (x : Item) (is : Bool) : Prop :=
 ∃ w σ', DCall Try.prog f args σ (.ret (.tuple ⟨[RV w t, .agg ⟨x.cells⟩, .bool is]⟩)) σ' [] ∧ NewS σ s R σ' w L'
theorem RefT.of {f : FuncId} {args : List Value} {σ : St} {s : Value} {R : List Item} {t : Int} {L' : List Item} {x : Item} {is : Bool} (h : callX Try.prog f args σ fun e σ' lg => ∃ w, e = .ret (.tuple ⟨[RV w t, .agg ⟨x.cells⟩, .bool is]⟩) ∧ (∀ z ∈ lg, σ.next ≤ z) ∧ NewS σ s R σ' w L') : RefT f args σ s R t L' x is := by
 obtain ⟨x, σ', lg, d, w, rfl, hl, hS⟩ := h
 exact ⟨w, σ', d.weaken2 fun c hc hn => by have := hl c hc; omega, hS⟩
set_option maxHeartbeats 1600000 in
set_option maxRecDepth 20000 in
theorem refTake_call {lo : Nat} {σ : St} {s : Value} {t : Int} {R : List Item} (hS : ItS lo σ s R) (hL : R.length < 1000) :
  RefT 53 [RV s t] σ s R t (takeR R).1 (takeR R).2.1 (takeR R).2.2 := by
 refine RefT.of ?_
 obtain ⟨sa, sl, sc, rfl⟩ := hS.shape
 have hol : ∀ σ', opLen (cP Try.prog).T σ' 37 (.slice sa sl sc) = some (.val (.int .i64 R.length) []) := fun σ' => len_it hS.v
 cases hR : R with
 | nil =>
  subst hR
  simp only [List.length_nil, Int.natCast_zero] at hol
  have b0 : ((0 : Int) == 0) = true := by decide
  refine enter (p := q0) Try.func53 rfl stat53 ?_
  simp only [go_sem, seval, if_pos rfl, callW, q0, undef, RV, Try.f53, hol, b0, body84]
  exact ⟨_, rfl, .inl ⟨rfl, rfl⟩⟩
 | cons x R' =>
  rw [← hR]
  have hx : R[0]? = some x := by rw [hR]; rfl
  have hl : 0 < R.length := by rw [hR]; simp
  have e : takeR R = (R.eraseIdx 0, x, true) := by rw [hR]; rfl
  rw [e]
  clear hR e
  have b0 : ((R.length : Int) == 0) = false := by rw [beq_eq_false_iff_ne]; omega
  have hw0 := fun σ' h1 h2 => RefD.to (without_call (σ := σ') (n := 0) (L := R) (lo := lo) (t := t) (hS.keep (σ' := σ') h1 h2) hl (by omega))
  rcases hS with ⟨h1, h2⟩ | ⟨a, h1, ga, ha1, ha2⟩
  ·rw [h2] at hl; simp at hl
  ·cases h1
   have c1 : (0 : Int) < (R.length : Int) := by omega
   have ex := cells_at (G := []) hx
   have lx : 4 ≤ (cellsL R).length := by rw [cellsL_length]; omega
   simp only [List.append_nil, Nat.zero_mul, List.drop_zero, Item.cells] at ex
   have na : ¬ σ.next ≤ a := by omega
   refine enter (p := q0) Try.func53 rfl stat53 ?_
   simp only [go_sem, seval, if_pos rfl, callW, q0, undef, RV, Try.f53, hol, b0, body84]
   refine callX.hidE (hw0 _ ?_ ?_) ?_
   ·simp only [go_sem, seval, if_pos rfl] <;> omega
   ·intro z h1 h2
    simp only [go_sem, seval, if_pos rfl, h2]
   intro e σ1 lg1 hlg1 hA
   obtain ⟨w, rfl, rfl, hw⟩ := hA
   have hn1 := hlg1.1
   simp only [go_sem, seval, if_pos rfl] at hn1
   have g0 : σ1.get σ.next = some (.cells [.slice (some ⟨a, 0, some 6⟩) R.length R.length, .int .i64 t] false) := (hlg1.2 _ (by simp only [go_sem, seval, if_pos rfl]) (by simp)).trans (by simp only [go_sem, seval, if_pos rfl])
   have g1 : σ1.get (σ.next + 1) = some (.cells [.slice none 0 0, .int .i64 0] false) := (hlg1.2 _ (by simp only [go_sem, seval, if_pos rfl]) (by simp)).trans (by simp only [go_sem, seval, if_pos rfl])
   have g2 : σ1.get (σ.next + 2) = some (.cells [.int .i64 0, .int .i64 0, .int .i64 0, .int .i64 0] false) := (hlg1.2 _ (by simp only [go_sem, seval, if_pos rfl]) (by simp)).trans (by simp only [go_sem, seval, if_pos rfl])
   have ga1 : σ1.get a = some (.cells (cellsL R) false) := (hlg1.2 _ (by simp only [go_sem, seval, if_pos rfl] <;> omega) (by simp)).trans (by simp only [go_sem, seval, if_pos rfl, ha2, ga])
   have n0 : σ.next < σ1.next := by omega
   have n1 : σ.next + 1 < σ1.next := by omega
   have n2 : σ.next + 2 < σ1.next := by omega
   have n3 : a < σ1.next := by omega
   obtain ⟨wa, wl, wc, rfl⟩ := hw.shape
   refine ⟨?_⟩
   simp only [go_sem, seval, if_pos rfl, callW, q0, undef, RV, Try.f53, g0, g1, g2, ga1, n0, n1, n2, n3, c1, ex, lx, Int.reduceToNat]
   have m3 : ¬ σ.next + 3 ≤ a := by omega
   have m1 : ¬ a = σ.next + 1 := by omega
   refine ⟨by simp [m3, m1], _, rfl, .inr ?_⟩
   refine (hw.keep (by simp only [go_sem, seval, if_pos rfl]) fun a h1 h2 => ?_).low (by simp only [go_sem, seval, if_pos rfl] <;> omega)
   simp only [go_sem, seval, if_pos rfl] at h1
   have ne1 : ¬ σ.next + 1 = a := by omega
   have ne2 : ¬ σ.next + 2 = a := by omega
   simp only [go_sem, seval, if_pos rfl, ne1, ne2]
set_option maxHeartbeats 3200000 in
set_option maxRecDepth 20000 in
theorem refSet_call {lo : Nat} {σ : St} {s : Value} {t id n d : Int} {R : List Item} (hS : ItS lo σ s R) (ho : ∀ y ∈ R, y.ok = true) (hL : R.length < 1000) (hn : okI n = true) (hd : okI d = true) :
  RefE 51 [RV s t, .int .i64 id, .agg ⟨[.int .i64 n, .int .i64 d]⟩] σ s R t (setR R id n d).1 (setR R id n d).2 := by
 refine RefE.of ?_
 obtain ⟨sa, sl, sc, hs⟩ := hS.shape
 have hm := fun σ => may_call' id n d σ hn hd
 have hf := fun σ' h1 h2 => find_call (σ := σ') (t := t) (id := id) (hS.keep (σ' := σ') h1 h2).v (by omega)
 by_cases hc : mayB id n d = true
 ·by_cases hv : findI id R 0 = -1
  ·subst hs
   have e : setR R id n d = (R, 5) := by simp only [setR, hc, hv, if_true]
   rw [e]
   have c1 : (-1 : Int) < 0 := by omega
   rw [hv] at hf
   refine enter (p := q0) Try.func51 rfl stat51 ?_
   simp only [go_sem, seval, if_pos rfl, callW, q0, undef, RV, Try.f51, body30, body82, body83, body84]
   refine .of (hf _ (by simp only [go_sem, seval, if_pos rfl] <;> omega) fun a h1 h2 => by simp only [go_sem, seval, if_pos rfl, h2]) ?_
   simp only [go_sem, seval, if_pos rfl, callW, q0, undef, Try.f51, body30, body82, body83, body84]
   refine .of (hm _) ?_
   simp only [go_sem, seval, if_pos rfl, callW, q0, undef, RV, Try.f51, hc, c1, body30, body82, body83, body84]
   exact ⟨_, rfl, .inl ⟨rfl, rfl⟩⟩
  ·obtain ⟨k, hk⟩ : ∃ k, (findI id R 0).toNat = k := ⟨_, rfl⟩
   have hge := findI_ge hv
   have hfk : findI id R 0 = (k : Int) := by omega
   have hkl : k < R.length := by omega
   obtain ⟨x, hx⟩ : ∃ x, R[k]? = some x := ⟨_, List.getElem?_eq_getElem hkl⟩
   have e : setR R id n d = (layL (x.key n d) (R.eraseIdx k), 0) := by simp only [setR, hc, hv, hk, hx, if_true, if_false]
   rw [e]
   have hxo := ho x (List.mem_of_getElem? hx)
   obtain ⟨h0, h1, h2⟩ := mayB_is hc
   have hR : okR n d = true := by simp [okR, hn, hd, h2]
   have hyo : (x.key n d).ok = true := by
    simp only [Item.ok, Bool.and_eq_true] at hxo
    simp only [Item.ok, Item.key, hR, hxo.1.1, hxo.2, Bool.and_self]
   rw [hfk] at hf
   have c1 : ¬ (k : Int) < 0 := by omega
   have c2 : (0 : Int) ≤ (k : Int) := by omega
   have c3 : (k : Int) < (R.length : Int) := by omega
   have hw0 := fun σ' h1 h2 => RefD.to (without_call (σ := σ') (n := k) (L := R) (lo := lo) (t := t) (hS.keep (σ' := σ') h1 h2) hkl (by omega))
   rcases hS with ⟨h1, h2⟩ | ⟨a, h1, ga, ha1, ha2⟩
   ·rw [h2] at hkl; simp at hkl
   ·subst h1
    have ex := cells_at (G := []) hx
    have lx : k * 4 + 4 ≤ (cellsL R).length := by rw [cellsL_length]; omega
    simp only [List.append_nil, Item.cells] at ex
    have na : ¬ σ.next ≤ a := by omega
    refine enter (p := q0) Try.func51 rfl stat51 ?_
    simp only [go_sem, seval, if_pos rfl, callW, q0, undef, RV, Try.f51, body30, body82, body83, body84]
    refine .of (hf _ (by simp only [go_sem, seval, if_pos rfl] <;> omega) fun a h1 h2 => by simp only [go_sem, seval, if_pos rfl, h2]) ?_
    simp only [go_sem, seval, if_pos rfl, callW, q0, undef, Try.f51, body30, body82, body83, body84]
    refine .of (hm _) ?_
    simp only [go_sem, seval, if_pos rfl, callW, q0, undef, RV, Try.f51, hc, c1, c2, c3, ga, ha2, na, ex, lx, Int.toNat_natCast, body30, body82, body83, body84]
    refine callX.hidE (hw0 _ ?_ ?_) ?_
    ·simp only [go_sem, seval, if_pos rfl] <;> omega
    ·intro z h1 h2
     simp only [go_sem, seval, if_pos rfl, h2]
    intro e σ1 lg1 hlg1 hA
    obtain ⟨w, rfl, rfl, hw⟩ := hA
    have hn1 := hlg1.1
    simp only [go_sem, seval, if_pos rfl] at hn1
    have g2 : σ1.get (σ.next + 2) = some (.cells [.slice none 0 0, .int .i64 0] false) := (hlg1.2 _ (by simp only [go_sem, seval, if_pos rfl]) (by simp)).trans (by simp only [go_sem, seval, if_pos rfl])
    have g3 : σ1.get (σ.next + 3) = some (.cells [.int .i64 x.id, .int .i64 n, .int .i64 d, .int .i64 x.turn] false) := (hlg1.2 _ (by simp only [go_sem, seval, if_pos rfl]) (by simp)).trans (by simp only [go_sem, seval, if_pos rfl])
    have n2 : σ.next + 2 < σ1.next := by omega
    have n3 : σ.next + 3 < σ1.next := by omega
    have hll : (R.eraseIdx k).length ≤ R.length := List.length_eraseIdx_le ..
    have hly := RefD.to (refLay_call (x := x.key n d) (t := t) hw hyo (fun y hy => ho y (List.mem_of_mem_eraseIdx hy)) (by omega))
    simp only [Item.key, Item.cells] at hly
    obtain ⟨wa, wl, wc, rfl⟩ := hw.shape
    refine ⟨?_⟩
    simp only [go_sem, seval, if_pos rfl, callW, q0, undef, RV, Try.f51, g2, g3, n2, n3, body30, body82, body83, body84]
    refine callX.hidE hly ?_
    intro e σ2 lg2 hlg2 hA
    obtain ⟨w, rfl, rfl, hw2⟩ := hA
    have hn2 := hlg2.1
    have g5 : σ2.get (σ.next + 2) = some (.cells [.slice none 0 0, .int .i64 0] false) := (hlg2.2 _ n2 (by simp)).trans g2
    have n5 : σ.next + 2 < σ2.next := by omega
    obtain ⟨va, vl, vc, rfl⟩ := hw2.shape
    refine ⟨?_⟩
    simp only [go_sem, seval, if_pos rfl, callW, q0, undef, RV, Try.f51, g5, n5, body30, body82, body83, body84]
    refine ⟨_, rfl, .inr ?_⟩
    refine (hw2.keep (by simp only [go_sem, seval, if_pos rfl]) fun a h1 h2 => ?_).low (by omega)
    have ne1 : ¬ σ.next + 2 = a := by omega
    simp only [go_sem, seval, if_pos rfl, ne1]
 ·subst hs
  have e : setR R id n d = (R, 2) := if_neg hc
  have hc' : mayB id n d = false := by simpa using hc
  rw [e]
  refine enter (p := q0) Try.func51 rfl stat51 ?_
  simp only [go_sem, seval, if_pos rfl, callW, q0, undef, RV, Try.f51, body30, body82, body83, body84]
  refine .of (hf _ (by simp only [go_sem, seval, if_pos rfl] <;> omega) fun a h1 h2 => by simp only [go_sem, seval, if_pos rfl, h2]) ?_
  simp only [go_sem, seval, if_pos rfl, callW, q0, undef, Try.f51, body30, body82, body83, body84]
  refine .of (hm _) ?_
  simp only [go_sem, seval, if_pos rfl, callW, q0, undef, RV, Try.f51, hc', body30, body82, body83, body84]
  exact ⟨_, rfl, .inl ⟨rfl, rfl⟩⟩
end Go.Ab
namespace Go.Ab
open Go.Proofs
theorem ext109is : extAt 109 = some .clone := by kernel_rfl
theorem cE_ext109 : cE.T.ext 109 = some .clone := (withExt_ext _ _ 109).trans ext109is
theorem nobody109 : (cP Try.prog).bodies 109 = false := by kernel_rfl
set_option maxRecDepth 20000 in
theorem mclone_call {σ : St} {m ck : Nat} {es : List MapEntry} (gm : σ.get m = some (.map es ck)) (hm : m < σ.next) : DCall Try.prog 72 [.map (some m)] σ (.ret (.map (some σ.next))) (σ.new (.map es ck)) [] := by
 have key : callX Try.prog 72 [.map (some m)] σ fun e σ' lg => e = .ret (.map (some σ.next)) ∧ σ' = σ.new (.map es ck) ∧ lg = [] := by
  refine callX.enter (p := q0) (bt := btAll 72) cE_ok mixed Try.func72 rfl stat72 ?_
  simp only [go_sem, seval, if_pos rfl, opLen, callW, q0, undef, cE_und, cE_info, cE_flat, cE_bodies, cE_ext109, nobody109, extA, isIfaceD, opTypeAssert, Bool.false_eq_true, gm, hm, Try.f72, Try.underlying2, info2, Try.t2, Try.underlying3, info3, Try.t3, Try.underlying20, info20, Try.t20, Try.underlying96, info96, Try.t96]
 obtain ⟨e, σ', lg, d, rfl, rfl, rfl⟩ := key
 exact d
def clS (σ : St) (v : Value) (L : List Item) (w : Value) (σ' : St) : Prop :=
 (v = .slice none 0 0 ∧ w = .slice none 0 0 ∧ σ' = σ) ∨ (L = [] ∧ w = .slice (some ⟨σ.next, 0, some 0⟩) 0 0 ∧ σ' = σ.new (.cells [] false)) ∨ (L ≠ [] ∧ w = .slice (some ⟨σ.next + 1, 0, some 6⟩) L.length L.length ∧ σ' = (σ.new (.cells [] false)).new (.cells (cellsL L) false))
set_option maxRecDepth 20000 in
theorem sclone_call {σ : St} {lo : Nat} {v : Value} {L : List Item} (hv : ItV lo σ v L) (hL : L.length < 1000000) : ∃ w σ', DCall Try.prog 73 [v] σ (.ret w) σ' [] ∧ clS σ v L w σ' := by
 have key : callX Try.prog 73 [v] σ fun e σ' lg => ∃ w, e = .ret w ∧ clS σ v L w σ' ∧ lg = [] := by
  rcases hv with ⟨rfl, rfl⟩ | ⟨a, s, cap, G, rfl, ga, ha, ha2⟩
  ·refine enter (p := q0) Try.func73 rfl stat73 ?_
   simp only [go_sem, seval, if_pos rfl, opLen, callW, q0, undef, Try.f73]
   exact ⟨_, rfl, .inl ⟨rfl, rfl, rfl⟩⟩
  ·have na : ¬ σ.next = a := by omega
   by_cases h0 : L = []
   ·have l0 : L.length = 0 := by rw [h0]; rfl
    have A1 : ∀ σ : St, ∀ b, opAppend (cP Try.prog).T σ 37 37 (.slice (some ⟨b, 0, some 0⟩) 0 0) (.slice (some ⟨a, 0, some s⟩) L.length cap) = some (.val (.slice (some ⟨b, 0, some 0⟩) 0 0) []) := fun σ b => by
     rw [l0]
     simp only [opAppend, und37w, inf31w, srcLen, Try.t31, srcCells]
     simp [isSeqD, oneCells, plain, plainL, vcells]
    refine enter (p := q0) Try.func73 rfl stat73 ?_
    simp only [go_sem, seval, if_pos rfl, opLen, callW, q0, undef, zerosN, Try.f73, A1]
    exact ⟨_, rfl, .inr (.inl ⟨h0, rfl, rfl⟩)⟩
   ·have l0 : ¬ L.length = 0 := fun h => h0 (List.eq_nil_of_length_eq_zero h)
    have A1 : ∀ σ : St, ∀ b, σ.get b = some (.cells [] false) → σ.get a = some (.cells (cellsL L ++ G) false) → opAppend (cP Try.prog).T σ 37 37 (.slice (some ⟨b, 0, some 0⟩) 0 0) (.slice (some ⟨a, 0, some s⟩) L.length cap) = some (.new (.cells (cellsL L) false) (.slice (some ⟨σ.next, 0, some 6⟩) L.length L.length) [b, a]) := fun σ b hb hg => by
     have m4 : ¬ L.length * 4 = 0 := by omega
     have l3 : ¬ 4294967296 ≤ L.length := by omega
     have lx : L.length * 4 ≤ (cellsL L ++ G).length := by rw [List.length_append, cellsL_length]; omega
     have tk : (cellsL L ++ G).take (L.length * 4) = cellsL L := by rw [List.take_append_of_le_length (by rw [cellsL_length]; omega), List.take_of_length_le (by rw [cellsL_length]; omega)]
     have on := one_cellsL L
     have lc : (cellsL L).length = 4 * L.length := cellsL_length L
     have e : L.length * 4 ≤ 4 * L.length + G.length := by omega
     simp only [opAppend, und37w, inf31w, srcLen, Try.t31, srcCells, hb, hg]
     simp [isSeqD, plain, plainL, vcells, l3, l0, m4, lx, tk, on, lc, e, h0]
    refine enter (p := q0) Try.func73 rfl stat73 ?_
    simp only [go_sem, seval, if_pos rfl, opLen, callW, q0, undef, zerosN, Try.f73, ga, ha2, na, A1]
    exact ⟨_, rfl, .inr (.inr ⟨h0, rfl, rfl⟩)⟩
 obtain ⟨e, σ', lg, d, w, rfl, h, rfl⟩ := key
 exact ⟨w, σ', d, h⟩
end Go.Ab
namespace Go.Ab
open Go.Proofs
theorem order_ok {σ0 : St} {a : Nat} : CmpOk σ0 a 79 [] ltI (fun x => x.ok = true) :=
 ⟨body79, fun σ _ x y hx hy => ⟨cmpItem x y, order_call x y σ hx hy, by simp [ltI, hx, hy]⟩⟩
theorem mir_sorted {L : List Item} {D d : Array Item} {t : Int} (hd : Dist L) (ht : Turns L t) (ho : ∀ x ∈ L, x.ok = true) (hL : d.toList = L) (hp : Sort.PermIn 0 d.size d D) (hs : Sort.SortedIn ltI 0 d.size D) : Mir L D.toList := by
 have hsz : D.size = d.size := hp.1
 have hperm : D.toList.Perm L := by
  have h := hp.2.2
  rw [← hsz, Array.extract_size, hsz, Array.extract_size, hL] at h
  exact h
 have hnd : D.toList.Nodup := hperm.nodup_iff.2 (dist_nodup hd)
 refine ⟨fun z => hperm.mem_iff, List.pairwise_iff_getElem.2 fun i j hi hj hij => ?_⟩
 have hmi := hperm.mem_iff.1 (List.getElem_mem hi)
 have hmj := hperm.mem_iff.1 (List.getElem_mem hj)
 have hne : D.toList[i] ≠ D.toList[j] := List.pairwise_iff_getElem.1 hnd i j hi hj hij
 have hsi : i < D.size := by simpa using hi
 have hsj : j < D.size := by simpa using hj
 have hlt := hs i j (Nat.zero_le _) hij (by omega)
 rw [getElem!_pos D i hsi, getElem!_pos D j hsj] at hlt
 simp only [Array.getElem_toList] at hmi hmj hne ⊢
 generalize D[i] = x at *
 generalize D[j] = y at *
 simp only [ltI, ho x hmi, ho y hmj, Bool.not_true, Bool.false_or, Bool.true_and, decide_eq_false_iff_not] at hlt
 rw [cmpItem_neg, bef_iff, Decidable.not_not] at hlt
 exact bef_of_le hlt fun e => hne (dist_mem hd hmi hmj (ht.inj x hmi y hmj e))
def INins (m : Nat) (fr : Fr) (σ : St) : Prop := m = 0 ∧ ∃ ts cv, fr = ⟨ts, []⟩ ∧ FI ts (.slice none 0 0) cv 0 0 1
def ENins (x : AX) (fr : Fr) (σ : St) : Prop := x = .exit 0 ∧ fr.ds = []
set_option maxRecDepth 20000 in
theorem insnil_loop : ∀ m fr σ, INins m fr σ → loopX Try.prog false insOutB fr σ (endL ENins fun _ => False) := by
 refine loop_ind q0 151 (by kernel_rfl) _ _ _ ?_
 rintro m fr σ ⟨rfl, ts, cv, rfl, F⟩
 have e0 := F.t0
 have e1 := F.t1
 have e2 := F.t2
 have e3 := F.t3
 have e8 := F.t8
 have el := F.size
 have c0 : ¬ ((1 : Nat) : Int) < ((0 : Nat) : Int) := by omega
 simp only [go_sem, seval, if_pos rfl, callW, q0, undef, insOutB, loopOf, Try.f151, Option.getD, lget_put, lgetq_put, List.length_set, e0, e1, e2, e3, e8, el, c0]
 exact ⟨rfl, rfl⟩
set_option maxRecDepth 20000 in
theorem insnil_call {cv : Value} (σ : St) : callX Try.prog 151 [.slice none 0 0, .int .i64 (0 : Nat), .int .i64 (0 : Nat), cv] σ fun e σ' lg => e = .ret (.tuple ⟨[]⟩) ∧ lg = [] := by
 have w1 : IntKind.i64.wrap (((0 : Nat) : Int) + 1) = ((1 : Nat) : Int) := by decide
 refine enter (p := q0) Try.func151 rfl stat151 ?_
 simp only [go_sem, seval, if_pos rfl, callW, q0, undef, Try.f151, w1]
 refine loop_then (insnil_loop 0 _ _ ⟨rfl, _, cv, rfl, ⟨rfl, rfl, rfl, rfl, rfl, rfl⟩⟩) ?_
 intro x fr' σ' lg hlg hB h
 obtain ⟨rfl, hds⟩ := h
 obtain ⟨ts', ds'⟩ := fr'
 simp only at hds
 subst hds
 obtain rfl : lg = [] := List.eq_nil_iff_forall_not_mem.2 fun z hz => hB z hz
 simp only [go_sem, seval, if_pos rfl, callW, q0]
def INpdq (m : Nat) (fr : Fr) (σ : St) : Prop := m = 0 ∧ ∃ ts cv limit, fr = ⟨ts, []⟩ ∧ FZ ts (.slice none 0 0) cv 0 0 limit
def ENpdq (x : AX) (fr : Fr) (σ : St) : Prop := x = .ret ∧ fr.ds = []
set_option maxHeartbeats 1600000 in
set_option maxRecDepth 20000 in
theorem pdqnil_loop : ∀ m fr σ, INpdq m fr σ → loopX Try.prog false pdqL fr σ (endL ENpdq fun _ => False) := by
 refine loop_ind q0 147 (by kernel_rfl) _ _ _ ?_
 rintro m fr σ ⟨rfl, ts, cv, limit, rfl, F⟩
 have e0 := F.t0
 have e1 := F.t1
 have e2 := F.t2
 have e3 := F.t3
 have e4 := F.t4
 obtain ⟨wB, e10⟩ := F.t10
 obtain ⟨wP, e11⟩ := F.t11
 have el := F.size
 have w1 : IntKind.i64.wrap (((0 : Nat) : Int) - ((0 : Nat) : Int)) = ((0 : Nat) : Int) := by decide
 have c0 : ((0 : Nat) : Int) ≤ 12 := by omega
 rw [pdqL_is]
 simp only [go_sem, seval, if_pos rfl, callW, q0, undef, pdqX, pdqL, loopOf, nthC, dropC, blockOf, Try.f147, Option.getD, lget_put, lgetq_put, List.length_set, Int.toNat_natCast, e0, e1, e2, e3, e4, e10, e11, el, w1, c0]
 refine callX.hidE (insnil_call σ) ?_
 intro e σ1 lg1 hlg1 hA
 obtain ⟨rfl, rfl⟩ := hA
 refine ⟨?_⟩
 simp only [go_sem, seval, if_pos rfl, callW, q0, undef, pdqX, pdqL, loopOf, nthC, dropC, blockOf, Try.f147, Option.getD, lget_put, lgetq_put, List.length_set, Int.toNat_natCast, e0, e1, e2, e3, e4, e10, e11, el]
 exact ⟨rfl, rfl⟩
set_option maxRecDepth 20000 in
theorem pdqnil_call {cv : Value} {limit : Nat} (σ : St) : callX Try.prog 147 [.slice none 0 0, .int .i64 (0 : Nat), .int .i64 (0 : Nat), .int .i64 limit, cv] σ fun e σ' lg => e = .ret (.tuple ⟨[]⟩) ∧ lg = [] := by
 refine enter (p := q0) Try.func147 rfl stat147 ?_
 simp only [go_sem, seval, if_pos rfl, callW, q0, undef, Try.f147]
 refine loop_then (pdqnil_loop 0 _ _ ⟨rfl, _, cv, limit, rfl, ⟨rfl, rfl, rfl, rfl, rfl, rfl, ⟨_, rfl⟩, ⟨_, rfl⟩⟩⟩) ?_
 intro x fr' σ' lg hlg hB h
 obtain ⟨rfl, hds⟩ := h
 obtain ⟨ts', ds'⟩ := fr'
 simp only at hds
 subst hds
 obtain rfl : lg = [] := List.eq_nil_iff_forall_not_mem.2 fun z hz => hB z hz
 simp only [go_sem, seval, if_pos rfl, callW, q0]
set_option maxRecDepth 20000 in
theorem sortnil_call {cv : Value} (σ : St) : callX Try.prog 136 [.slice none 0 0, cv] σ fun e σ' lg => e = .ret (.tuple ⟨[]⟩) ∧ lg = [] := by
 have wu : IntKind.u64.wrap 0 = ((0 : Nat) : Int) := by decide
 have hb := bitslen_call (n := 0) (by omega)
 have hp : ∀ σ, callX Try.prog 147 [.slice none 0 0, .int .i64 0, .int .i64 0, .int .i64 (Sort.bitsLen 0 : Nat), cv] σ fun e σ' lg => e = .ret (.tuple ⟨[]⟩) ∧ lg = [] := fun σ => pdqnil_call σ
 refine enter (p := q0) Try.func136 rfl stat136 ?_
 simp only [go_sem, seval, if_pos rfl, callW, q0, undef, Try.f136, wu, body147, body148]
 refine .of (hb _) ?_
 simp only [go_sem, seval, if_pos rfl, callW, q0, undef, Try.f136, wu, body147, body148]
 refine callX.hidE (hp _) ?_
 intro e σ1 lg1 hlg1 hA
 obtain ⟨rfl, rfl⟩ := hA
 refine ⟨?_⟩
 simp only [go_sem, seval, if_pos rfl, callW, q0]
def SortedR (σ : St) (L : List Item) (e : AE) (σ' : St) (lg : Log) : Prop := ∃ w S, e = .ret w ∧ (∀ z ∈ lg, σ.next ≤ z) ∧ Mir L S ∧ S.length = L.length ∧ ItS σ.next σ' w S
set_option maxHeartbeats 1600000 in
set_option maxRecDepth 20000 in
theorem sortedf_call {σ : St} {c lo : Nat} {v : Value} {L : List Item} {t : Int} (gc : σ.get c = some (.cells [v] false)) (hc : c < σ.next) (hv : ItV lo σ v L) (hL : L.length < 256) (ho : ∀ x ∈ L, x.ok = true) (hd : Dist L) (ht : Turns L t) :
  callX Try.prog 111 [.func (.func 110) ⟨[]⟩ ⟨[.pointer (some ⟨c, 0, none⟩)]⟩, .func (.func 79) ⟨[]⟩ ⟨[]⟩] σ (SortedR σ L) := by
 refine enter (p := q0) Try.func111 rfl stat111 ?_
 simp only [go_sem, seval, if_pos rfl, callW, q0, undef, Try.f111, body135]
 refine callX.hidE (collectI_call gc hc hv (by omega)) ?_
 intro e σ1 lg1 hlg1 h1
 have hn1 := hlg1.1
 obtain ⟨w, rfl, hB, hw⟩ := h1
 rcases hw with ⟨rfl, rfl⟩ | ⟨a, rfl, ga, ha1, ha2⟩
 ·refine ⟨?_⟩
  simp only [go_sem, seval, if_pos rfl, callW, q0, undef, Try.f111, body136]
  refine callX.hidE (sortnil_call _) ?_
  intro e σ2 lg2 hlg2 hA
  obtain ⟨rfl, rfl⟩ := hA
  refine ⟨?_⟩
  simp only [go_sem, seval, if_pos rfl, callW, q0, undef]
  exact ⟨_, [], rfl, by simpa using hB, Mir.nil, rfl, .inl ⟨rfl, rfl⟩⟩
 ·have H : SAt σ1 a L.toArray [] (fun x => x.ok = true) σ1 := ⟨⟨Nat.le_refl _, fun _ _ _ => rfl⟩, by simpa using ga, ha2, fun i hi => ho _ (by
   rw [getElem!_pos L.toArray i hi]
   simp), by simp; omega⟩
  have hs := sortfunc_call (s := 6) (cap := L.length) order_ok swo_ltI H (by simpa using hL)
  simp only [sliceS, List.size_toArray] at hs
  refine ⟨?_⟩
  simp only [go_sem, seval, if_pos rfl, callW, q0, undef, Try.f111, body136]
  refine callX.hidE hs ?_
  intro e σ2 lg2 hlg2 hA
  obtain ⟨rfl, D, hS, hP, hso⟩ := hA
  refine ⟨?_⟩
  simp only [go_sem, seval, if_pos rfl, callW, q0, undef]
  have hsz : D.size = L.length := by have := hP.1; simpa using this
  refine ⟨_, D.toList, rfl, fun z hz => ?_, mir_sorted (d := L.toArray) hd ht ho rfl hP hso, by simpa using hsz, .inr ⟨a, by simp [hsz], by simpa using hS.2.get, by omega, ?_⟩⟩
  ·simp only [List.mem_append, List.mem_cons, List.not_mem_nil, or_false, false_or] at hz
   rcases hz with hz | hz
   ·exact hB z hz
   ·rcases hS.1 z hz with rfl | hz <;> omega
  ·have := hS.2.base.nx
   omega
end Go.Ab
namespace Go.Ab
open Go.Proofs
section
variable {σ : St} {own : List Nat} {h m k : Nat} {L R : List Item} {t : Int}
theorem HO.view (H : HO σ own h m L t) : ∃ v, σ.get h = some (.cells [.map (some m), v, .int .i64 t] false) ∧ h < σ.next ∧ ItV 0 σ v L := by
 rcases H with ⟨rfl, ⟨_, H⟩ | ⟨e, _, H⟩⟩ | ⟨a, cap, rfl, H⟩
 ·exact ⟨_, H.gh, H.lt.1, .inl ⟨rfl, rfl⟩⟩
 ·exact ⟨_, H.gh, H.lt.1, .inr ⟨e, 0, 0, [], rfl, by simpa [cellsL] using H.ge, Nat.zero_le _, H.lt.2.2⟩⟩
 ·obtain ⟨f, H1, _⟩ := H.hs
  obtain ⟨G, ga, hG⟩ := H1.ga
  exact ⟨_, H1.gh, H1.lt.1, .inr ⟨a, 6, cap, G, rfl, ga, Nat.zero_le _, H1.lt.2.1⟩⟩
theorem values_call {lo : Nat} {v : Value} (hv : ItV lo σ v L) : DCall Try.prog 74 [v] σ (.ret (.func (.func 110) ⟨[]⟩ ⟨[.pointer (some ⟨σ.next, 0, none⟩)]⟩)) (σ.new (.cells [v] false)) [] := by
 have key : callX Try.prog 74 [v] σ fun e σ' lg => e = .ret (.func (.func 110) ⟨[]⟩ ⟨[.pointer (some ⟨σ.next, 0, none⟩)]⟩) ∧ σ' = σ.new (.cells [v] false) ∧ lg = [] := by
  rcases hv with ⟨rfl, rfl⟩ | ⟨a, s, cap, G, rfl, _⟩
  ·refine enter (p := q0) Try.func74 rfl stat74 ?_
   simp only [go_sem, seval, if_pos rfl, callW, q0, undef, Try.f74, body110]
  ·refine enter (p := q0) Try.func74 rfl stat74 ?_
   simp only [go_sem, seval, if_pos rfl, callW, q0, undef, Try.f74, body110]
 obtain ⟨e, σ', lg, d, rfl, rfl, rfl⟩ := key
 exact d
theorem sorted_call (H : HO σ own h m L t) (ht : Turns L t) (hL : L.length < 256) : callX Try.prog 75 [.pointer (some ⟨h, 0, none⟩)] σ (SortedR σ L) := by
 obtain ⟨v, gh, hh, hv⟩ := H.view
 have hf := sortedf_call (σ := σ.new (.cells [v] false)) (c := σ.next) (lo := 0) (v := v) (t := t) (by rw [St.get_new, if_pos rfl]) (by simp) (hv.keep (by simp) fun a _ h => by rw [St.get_new, if_neg (by omega)]) hL H.ok H.dist ht
 refine enter (p := q0) Try.func75 rfl stat75 ?_
 simp only [go_sem, seval, if_pos rfl, callW, q0, undef, Try.f75, body44, body74, body111]
 refine .of (none_call gh) ?_
 simp only [go_sem, seval, if_pos rfl, callW, q0, undef, Try.f75, gh, hh, body44, body74, body111]
 refine .of (values_call hv) ?_
 simp only [go_sem, seval, if_pos rfl, callW, q0, undef, Try.f75, body44, body74, body111]
 refine callX.hidE hf ?_
 intro e σ1 lg1 hlg1 hA
 obtain ⟨w, S, rfl, hB, h1, h2, h3⟩ := hA
 refine ⟨?_⟩
 simp only [go_sem, seval, if_pos rfl, callW, q0, undef]
 refine ⟨w, S, rfl, fun z hz => ?_, h1, h2, ?_⟩
 ·have := hB z (by simpa using hz)
  rw [St.next_new] at this
  omega
 ·rcases h3 with h3 | ⟨a, q1, q2, q3, q4⟩
  ·exact .inl h3
  ·exact .inr ⟨a, q1, q2, by rw [St.next_new] at q3; omega, q4⟩
def AllR (σ : St) (L : List Item) (e : AE) (σ' : St) (lg : Log) : Prop :=
 ∃ b w S, e = .ret (.func (.func 110) ⟨[]⟩ ⟨[.pointer (some ⟨b, 0, none⟩)]⟩) ∧ (∀ z ∈ lg, σ.next ≤ z) ∧ Mir L S ∧ S.length = L.length ∧ σ'.get b = some (.cells [w] false) ∧ σ.next ≤ b ∧ b < σ'.next ∧ ItS σ.next σ' w S
theorem hall_call (H : HO σ own h m L t) (ht : Turns L t) (hL : L.length < 256) : callX Try.prog 40 [.pointer (some ⟨h, 0, none⟩)] σ (AllR σ L) := by
 refine enter (p := q0) Try.func40 rfl stat40 ?_
 simp only [go_sem, seval, if_pos rfl, callW, q0, undef, Try.f40, body74, body75]
 refine callX.hidE (sorted_call H ht hL) ?_
 intro e σ1 lg1 hlg1 hA
 have nx := hlg1.1
 obtain ⟨w, S, rfl, hB, h1, h2, h3⟩ := hA
 refine ⟨?_⟩
 simp only [go_sem, seval, if_pos rfl, callW, q0, undef, Try.f40, body74, body75]
 refine .of (values_call h3.v) ?_
 simp only [go_sem, seval, if_pos rfl, callW, q0, undef]
 refine ⟨σ1.next, w, S, rfl, by simpa using hB, h1, h2, by rw [St.get_new, if_pos rfl], nx, by simp, h3.keep (by simp) fun a _ h => by rw [St.get_new, if_neg (by omega)]⟩
end
end Go.Ab
namespace Go.Ab
open Go.Proofs
def CopyR (σ : St) (L : List Item) (t : Int) (e : AE) (σ' : St) (lg : Log) : Prop :=
 ∃ h2 m2 own2, e = .ret (.pointer (some ⟨h2, 0, none⟩)) ∧ (∀ z ∈ lg, σ.next ≤ z) ∧ HO σ' own2 h2 m2 L t ∧ ∀ c ∈ own2, σ.next ≤ c
section
variable {σ : St} {own : List Nat} {h m : Nat} {L : List Item} {t : Int}
theorem KV.none {es : List MapEntry} (h : KV es) (hn : ∀ k, lk es k = none) : es = [] := by
 cases es with
 | nil => rfl
 | cons e es =>
  obtain ⟨k, v, h1, h2⟩ := h.ints e (by simp)
  have := hn k
  simp [lk, h1, h2] at this
theorem HO.map (H : HO σ own h m L t) : ∃ es ck f, σ.get m = some (.map es ck) ∧ m < σ.next ∧ KV es ∧ (∀ k, lk es k = f k) ∧ Idx L f := by
 have hi0 : Idx [] (fun _ => none) := ⟨fun i z h => by simp at h, fun k v h => by cases h⟩
 rcases H with ⟨rfl, ⟨_, H⟩ | ⟨e, _, H⟩⟩ | ⟨a, cap, rfl, H⟩
 ·obtain ⟨ck, gm⟩ := H.gm
  exact ⟨[], ck, fun _ => none, gm, H.lt.2, KV.nil, fun _ => rfl, hi0⟩
 ·obtain ⟨ck, gm⟩ := H.gm
  exact ⟨[], ck, fun _ => none, gm, H.lt.2.1, KV.nil, fun _ => rfl, hi0⟩
 ·obtain ⟨f, H1, hi⟩ := H.hs
  obtain ⟨es, ck, gm, hkv, hlk⟩ := H1.gm
  exact ⟨es, ck, f, gm, H1.lt.2.2, hkv, hlk, hi⟩
set_option maxHeartbeats 1600000 in
set_option maxRecDepth 20000 in
theorem copy_call (H : HO σ own h m L t) (hL : L.length < 1000000) : callX Try.prog 39 [.pointer (some ⟨h, 0, none⟩)] σ (CopyR σ L t) := by
 obtain ⟨v, gh, hh, hv⟩ := H.view
 obtain ⟨es, ck, f, gm, hm, hkv, hlk, hidx⟩ := H.map
 have hok := H.ok
 have d1 := mclone_call gm hm
 obtain ⟨w, σ2, d2, hw⟩ := sclone_call (σ := σ.new (.map es ck)) (lo := 0) (L := L) (v := v) (hv.keep (by simp) fun a _ ha => by rw [St.get_new, if_neg (by omega)]) hL
 have hs2 : ∃ sa sl sc, w = .slice sa sl sc := by
  rcases hw with ⟨_, rfl, _⟩ | ⟨_, rfl, _⟩ | ⟨_, rfl, _⟩ <;> exact ⟨_, _, _, rfl⟩
 have hs1 : ∃ sa sl sc, v = .slice sa sl sc := by
  rcases hv with ⟨rfl, _⟩ | ⟨a, s, cap, G, rfl, _⟩ <;> exact ⟨_, _, _, rfl⟩
 obtain ⟨wa, wl, wc, rfl⟩ := hs2
 obtain ⟨va, vl, vc, rfl⟩ := hs1
 have n2 := d2.1.1
 have g2 : ∀ c, c < σ.next + 1 → σ2.get c = (σ.new (.map es ck)).get c := fun c hc => d2.1.2 c hc (by simp)
 have gh2 : σ2.get h = some (.cells [.map (some m), .slice va vl vc, .int .i64 t] false) := (g2 h (by omega)).trans (by rw [St.get_new, if_neg (by omega)]; exact gh)
 have hh2 : h < σ2.next := by rw [St.next_new] at n2; omega
 have fin : CopyR σ L t (.ret (.pointer (some ⟨σ2.next, 0, none⟩))) (σ2.new (.cells [.map (some σ.next), .slice wa wl wc, .int .i64 t] false)) [] := by
  have es0 : L = [] → es = [] := fun h0 => hkv.none fun k => by
   rw [hlk]
   cases hf : f k with
   | none => rfl
   | some v =>
    obtain ⟨i, x, h1, _⟩ := hidx.bwd k v hf
    rw [h0] at h1
    simp at h1
  rcases hw with ⟨hv1, hw1, hσ⟩ | ⟨h0, hw1, hσ⟩ | ⟨h0, hw1, hσ⟩
  ·cases hw1
   have h0 : L = [] := by
    rcases hv with ⟨_, h⟩ | ⟨a, s, cap, G, h, _⟩
    ·exact h
    ·rw [hv1] at h; cases h
   have he := es0 h0
   subst h0 he hσ
   refine ⟨_, σ.next, [_, σ.next], rfl, fun z hz => by simp at hz, .inl ⟨rfl, .inl ⟨rfl, ⟨?_, ⟨ck, ?_⟩, ?_, ?_⟩⟩⟩, fun c hc => ?_⟩
   ·rw [St.get_new, if_pos rfl]
   ·rw [St.get_new, if_neg (by simp), St.get_new, if_pos rfl]
   ·simp
   ·simp only [St.next_new]; omega
   ·simp only [St.next_new] at hc; simp at hc; omega
  ·cases hw1
   have he := es0 h0
   subst h0 he hσ
   refine ⟨_, σ.next, [_, σ.next + 1, σ.next], rfl, fun z hz => by simp at hz, .inl ⟨rfl, .inr ⟨σ.next + 1, rfl, ⟨?_, ?_, ⟨ck, ?_⟩, ?_, ?_⟩⟩⟩, fun c hc => ?_⟩
   ·simp only [go_sem, seval, if_pos rfl, List.append_nil]
   ·simp only [go_sem, seval, if_pos rfl, List.append_nil]
   ·simp only [go_sem, seval, if_pos rfl, List.append_nil]
   ·simp only [St.next_new]; omega
   ·simp only [St.next_new]; omega
   ·simp only [St.next_new] at hc; simp at hc; omega
  ·cases hw1
   subst hσ
   refine ⟨_, σ.next, [_, σ.next + 2, σ.next], rfl, fun z hz => by simp at hz, .inr ⟨σ.next + 2, L.length, rfl, ⟨⟨f, ⟨?_, ⟨[], ?_, by simp⟩, ⟨es, ck, ?_, hkv, hlk⟩, ?_, ?_⟩, hidx⟩, hok, by omega⟩⟩, fun c hc => ?_⟩
   ·simp only [go_sem, seval, if_pos rfl, List.append_nil]
   ·simp only [go_sem, seval, if_pos rfl, List.append_nil]
   ·simp only [go_sem, seval, if_pos rfl, List.append_nil]
   ·simp only [St.next_new]; omega
   ·simp only [St.next_new]; omega
   ·simp only [St.next_new] at hc; simp at hc; omega
 refine enter (p := q0) Try.func39 rfl stat39 ?_
 simp only [go_sem, seval, if_pos rfl, callW, q0, undef, Try.f39, body44, body72, body73]
 refine .of (none_call gh) ?_
 simp only [go_sem, seval, if_pos rfl, callW, q0, undef, Try.f39, gh, hh, body44, body72, body73]
 refine .of d1 ?_
 simp only [go_sem, seval, if_pos rfl, callW, q0, undef, Try.f39, gh, hh, body44, body72, body73]
 refine .of d2 ?_
 simp only [go_sem, seval, if_pos rfl, callW, q0, undef, Try.f39, gh2, hh2, body44, body72, body73]
 have q0 : ¬ σ.next ≤ h := by omega
 have q1 : ¬ σ.next + 1 ≤ h := by omega
 exact ⟨by simp [q0, q1], fin⟩
end
end Go.Ab
namespace Go.Ab
open Go.Proofs
noncomputable def smA : Code := match findR (Try.f29.body.getD .skip) with | some x => x.2.1 | none => .skip
noncomputable def smD : Code := match findR (Try.f29.body.getD .skip) with | some x => x.2.2 | none => .skip
structure JSm (σ0 : St) (ts : List Value) (nb : Nat) (done : List Item) (σ : St) : Prop where
 nx : σ0.next + 2 ≤ σ.next
 old : ∀ z, z < σ0.next → z ≠ nb → σ.get z = σ0.get z
 gn : σ.get nb = some (.cells [.int .i64 done.length] false)
 gd : σ.get σ0.next = some (.deferred false)
 gy : σ.get (σ0.next + 1) = some (loopOb .ready none ts #[15] smA smD σ0.next)
set_option maxHeartbeats 1600000 in
set_option maxRecDepth 20000 in
theorem sm_yields {σ0 : St} {ts : List Value} {nb gb : Nat} {t : Int} {s : Value} {R : List Item} (hts : ts.length = 66) (t3 : lget ts 3 = .pointer (some ⟨gb, 0, none⟩)) (t6 : lget ts 6 = .pointer (some ⟨nb, 0, none⟩)) (hnb : nb < σ0.next) (hgb : gb < nb)
  (gg : σ0.get gb = some (.cells [s, .int .i64 t] false)) (hs : (s = .slice none 0 0 ∧ R = []) ∨ ∃ a, s = .slice (some ⟨a, 0, some 6⟩) R.length R.length ∧ σ0.get a = some (.cells (cellsL R) false) ∧ a < nb) (hL : R.length < 1000000) :
  YieldsI (σ0.next + 1) (fun z => nb ≤ z) R (JSm σ0 ts nb) := by
 refine ⟨fun done x rest σ hsp H => ?_, fun done σ σ' H hn hg => ?_⟩
 ·have hlt : done.length < R.length := by
   have := congrArg List.length hsp
   simp at this; omega
  have hx : R[done.length]? = some x := by rw [hsp]; simp
  obtain ⟨a, rfl, ga, hab⟩ := hs.resolve_left fun h => by rw [h.2] at hlt; simp at hlt
  have ne1 : gb ≠ nb := by omega
  have ne2 : a ≠ nb := by omega
  have hgb' : gb < σ0.next := by omega
  have hab' : a < σ0.next := by omega
  have hdl : (done ++ [x]).length = done.length + 1 := by rw [List.length_append]; rfl
  have nx := H.nx
  have gy := H.gy
  have gn := H.gn
  have old := H.old
  have gd := H.gd
  have ggs := (old gb hgb' ne1).trans gg
  have gas := (old a hab' ne2).trans ga
  generalize done.length = i at hlt hx hdl gn
  have ky : σ0.next + 1 < σ.next := by omega
  have k1 : nb < σ.next := by omega
  have k2 : gb < σ.next := by omega
  have k3 : a < σ.next := by omega
  have m1 : ¬ σ0.next + 1 = nb := by omega
  have m2 : ¬ σ0.next + 1 = gb := by omega
  have m3 : ¬ σ0.next + 1 = a := by omega
  have m4 : ¬ σ.next = σ0.next + 1 := by omega
  have m5 : ¬ σ0.next + 1 = σ.next := by omega
  have m6 : ¬ nb = σ0.next + 1 := by omega
  have c0 : ¬ (R.length : Int) ≤ (i : Int) := by omega
  have c1 : (0 : Int) ≤ (i : Int) := by omega
  have c2 : (i : Int) < (R.length : Int) := by omega
  have ex := cells_at (G := []) hx
  have lx : i * 4 + 4 ≤ (cellsL R).length := by rw [cellsL_length]; omega
  simp only [List.append_nil, Item.cells] at ex
  have w1 : IntKind.i64.wrap ((i : Int) + 1) = ((i + 1 : Nat) : Int) := by
   have : (i : Int) + 1 = ((i + 1 : Nat) : Int) := by omega
   rw [this]; exact wrapIN (by omega)
  have hol : ∀ σ, opLen (cP Try.prog).T σ 37 (.slice (some ⟨a, 0, some 6⟩) R.length R.length) = some (.val (.int .i64 R.length) []) := fun _ => by simp only [opLen, und37w]
  refine roundX.enter (p := q0) (bt := btAll 29) cP_ok mixed gy rfl (by kernel_rfl) (by kernel_rfl) ?_
  simp only [go_sem, seval, if_pos rfl, callW, q0, Item.cells, smA, findR, Try.f29, Option.getD, roundTs, lget_put, lgetq_put, List.length_set, hts]
  refine midRW.mk ?_ ?_
  ·simp only [go_sem, seval, if_pos rfl, ky, m4]
   exact gy
  simp only [go_sem, seval, if_pos rfl, callW, q0, undef, smD, findR, Try.f29, Option.getD, lget_put, lgetq_put, List.length_set, hts, hol, t3, t6, gn, ggs, gas, ky, k1, k2, k3, m1, m2, m3, m4, m5, m6, c0, c1, c2, ex, lx, w1, flat31, eqCells, beq_self_eq_true, Int.toNat_natCast]
  refine ⟨by omega, by simp only [go_sem, seval, if_pos rfl] <;> omega, fun z hz hne => ?_, ?_, ?_, ?_⟩
  ·have z1 : ¬ σ0.next + 1 = z := by omega
   have z2 : ¬ nb = z := fun h => hne h.symm
   have z3 : z < σ.next := by omega
   simp only [go_sem, seval, if_pos rfl, z1, z2, z3]
   exact old z hz hne
  ·rw [hdl]; simp only [go_sem, seval, if_pos rfl, m1, k1]
  ·have z1 : ¬ σ0.next + 1 = σ0.next := by omega
   have z2 : ¬ nb = σ0.next := by omega
   have z3 : σ0.next < σ.next := by omega
   simp only [go_sem, seval, if_pos rfl, z1, z2, z3]
   exact gd
  ·rw [St.get_set, if_pos rfl]
   rfl
 ·have nx := H.nx
  exact ⟨by omega, fun z hz h1 => (hg z (by omega)).trans (H.old z hz h1), (hg _ (by omega)).trans H.gn, (hg _ (by omega)).trans H.gd, (hg _ (by omega)).trans H.gy⟩
theorem rangeX_abs {P : Program} {rnd : Bool} {g : Operand} {ps : Array Tmp} {a b : Code} {ts : List Value} {ds : List Deferred} {σ : St} {Q : RR → Prop} (F : List Value → St → Prop) (h : F ts σ) (k : ∀ ts' σ', F ts' σ' → rangeX P rnd g ps a b ⟨ts', ds⟩ σ' Q) : rangeX P rnd g ps a b ⟨ts, ds⟩ σ Q := k ts σ h
structure FSm (σ σ1 : St) (h b : Nat) (ts : List Value) (σ' : St) : Prop where
 size : ts.length = 66
 t0 : lget ts 0 = .pointer (some ⟨h, 0, none⟩)
 t3 : lget ts 3 = .pointer (some ⟨σ.next, 0, none⟩)
 t4 : lget ts 4 = .pointer (some ⟨σ.next + 1, 0, none⟩)
 t6 : lget ts 6 = .pointer (some ⟨σ1.next, 0, none⟩)
 t14 : lget ts 14 = .func (.func 110) ⟨[]⟩ ⟨[.pointer (some ⟨b, 0, none⟩)]⟩
 nx : σ'.next = σ1.next + 1
 old : ∀ c, c < σ1.next → σ'.get c = σ1.get c
 gn : σ'.get σ1.next = some (.cells [.int .i64 0] false)
set_option maxHeartbeats 3200000 in
set_option maxRecDepth 20000 in
theorem same_call {σ : St} {own : List Nat} {h m k lo : Nat} {L R : List Item} {t t2 : Int} {s : Value} (H : HO σ own h m L t) (I : I4 L t k) (M : Mir L R) (hL : L.length < 256) (hS : ItS lo σ s R) :
  DCall Try.prog 29 [.pointer (some ⟨h, 0, none⟩), RV s t2] σ (.ret (.bool true)) σ [] := by
 refine pure_call ?_ rfl
 have hcase : (R = [] ∧ takeR R = ([], ⟨0, 0, 0, 0⟩, false)) ∨ ∃ x R', R[0]? = some x ∧ 0 < R.length ∧ takeR R = (R', x, true) := by
  cases R with
  | nil => exact .inl ⟨rfl, rfl⟩
  | cons x R' => exact .inr ⟨x, R', rfl, Nat.zero_lt_succ _, rfl⟩
 obtain ⟨sa, sl, sc, rfl⟩ := hS.shape
 refine callX.enterD (p := q0) cP_ok mixed Try.func29 rfl stat29 ?_
 simp only [go_sem, seval, if_pos rfl, callW, q0, undef, RV, Try.f29, body40]
 refine callX.hidE (hall_call (H.grow ?_ ?_) I.tu hL) ?_
 ·simp only [go_sem, seval, if_pos rfl]
 ·intro c hc
  simp only [go_sem, seval, if_pos rfl, hc]
 intro e σ1 lg1 hlg1 hA
 obtain ⟨b, w, S, rfl, hB, hM, hSl, gb, hb1, hb2, hw⟩ := hA
 have hn1 := hlg1.1
 simp only [go_sem, seval, if_pos rfl] at hn1 hB hb1
 obtain rfl := M.eq hM
 refine ⟨?_⟩
 simp only [go_sem, seval, if_pos rfl, callW, q0, undef, RV, Try.f29, body40]
 have hge : ∀ c, c < σ.next → σ1.get c = σ.get c := fun c hc => (hlg1.2 c (by simp only [go_sem, seval, if_pos rfl] <;> omega) fun hm => by have := hB c hm; omega).trans (by simp only [go_sem, seval, if_pos rfl, hc])
 have g0 : σ1.get σ.next = some (.cells [.slice sa sl sc, .int .i64 t2] false) := (hlg1.2 _ (by simp only [go_sem, seval, if_pos rfl]) fun hm => by have := hB _ hm; omega).trans (by simp only [go_sem, seval, if_pos rfl])
 have g1 : σ1.get (σ.next + 1) = some (.cells [.bool false] false) := (hlg1.2 _ (by simp only [go_sem, seval, if_pos rfl]) fun hm => by have := hB _ hm; omega).trans (by simp only [go_sem, seval, if_pos rfl])
 refine rangeX_abs (FSm σ σ1 h b) ⟨rfl, rfl, rfl, rfl, rfl, rfl, by simp only [go_sem, seval, if_pos rfl], fun c hc => by simp only [go_sem, seval, if_pos rfl, hc], by simp only [go_sem, seval, if_pos rfl]⟩ ?_
 intro ts σ3 F
 have nx3 := F.nx
 have el := F.size
 refine rangeX.of cP_ok (f := 110) (xs := []) (ys := [.pointer (some ⟨b, 0, none⟩)]) (by simp only [go_sem, seval, if_pos rfl, F.t14]) body110 ?_
 have hs3 : (Value.slice sa sl sc = .slice none 0 0 ∧ R = []) ∨ ∃ a, Value.slice sa sl sc = .slice (some ⟨a, 0, some 6⟩) R.length R.length ∧ σ3.get a = some (.cells (cellsL R) false) ∧ a < σ.next := by
  rcases hS with h | ⟨a, q1, q2, q3, q4⟩
  ·exact .inl h
  ·exact .inr ⟨a, q1, ((F.old a (by omega)).trans (hge a q4)).trans q2, q4⟩
 have hY := sm_yields (σ0 := σ3) (ts := ts) (nb := σ1.next) (gb := σ.next) (t := t2) (s := .slice sa sl sc) (R := R) el F.t3 F.t6 (by omega) (by omega) ((F.old _ (by omega)).trans g0) (hs3.imp id fun ⟨a, q1, q2, q3⟩ => ⟨a, q1, q2, by omega⟩) (by omega)
 refine callX.hid (R := fun σ' lg => (∀ z ∈ lg, σ1.next ≤ z) ∧ JSm σ3 ts σ1.next R σ') (seqI_call (c := b) (v := w) (n0 := σ1.next) (lo := 0) hY (fun z hz => hz) (fun done σ' H => ⟨?_, ?_⟩) (by omega) ?_ ⟨?_, ?_, ?_, ?_, ?_⟩) ?_
 ·exact (hw.low (Nat.zero_le _)).v.keep (by have := H.nx; omega) fun a _ ha => (H.old a (by omega) (by omega)).trans (F.old a ha)
 ·have := H.nx; omega
 ·have z1 : b < σ3.next := by omega
  simp only [go_sem, seval, if_pos rfl, z1]
  exact (F.old b hb2).trans gb
 ·simp only [go_sem, seval, if_pos rfl]
 ·intro z hz hne
  simp only [go_sem, seval, if_pos rfl, hz]
 ·have z1 : σ1.next < σ3.next := by omega
  simp only [go_sem, seval, if_pos rfl, z1]
  exact F.gn
 ·simp only [go_sem, seval, if_pos rfl]
 ·simp only [go_sem, seval, if_pos rfl]
  rfl
 intro σ2 lg2 hlg2 h1
 obtain ⟨hB2, J⟩ := h1
 have gy := J.gy
 have nx := J.nx
 have gn := J.gn
 have gd := J.gd
 have gg : σ2.get σ.next = some (.cells [.slice sa sl sc, .int .i64 t2] false) := (J.old _ (by omega) (by omega)).trans ((F.old _ (by omega)).trans g0)
 have gr : σ2.get (σ.next + 1) = some (.cells [.bool false] false) := (J.old _ (by omega) (by omega)).trans ((F.old _ (by omega)).trans g1)
 have hold : ∀ c, c < σ.next → σ2.get c = σ.get c := fun c hc => (J.old c (by omega) (by omega)).trans ((F.old c (by omega)).trans (hge c hc))
 have f0 := F.t0
 have f3 := F.t3
 have f4 := F.t4
 have f6 := F.t6
 have k0 : σ.next < σ2.next := by omega
 have k1 : σ.next + 1 < σ2.next := by omega
 have k2 : σ1.next < σ2.next := by omega
 have k3 : ¬ σ3.next + 1 = σ.next := by omega
 have k4 : ¬ σ3.next + 1 = σ.next + 1 := by omega
 have k5 : ¬ σ3.next + 1 = σ1.next := by omega
 have hol : ∀ σ, opLen (cP Try.prog).T σ 37 (.slice sa sl sc) = some (.val (.int .i64 R.length) []) := fun _ => len_it hS.v
 have bL : ((L.length : Int) == (R.length : Int)) = true := by rw [hSl]; exact beq_self_eq_true _
 rcases hcase with ⟨hR, hT⟩ | ⟨x, R', hx, hl, hT⟩
 ·have c0 : ¬ (0 : Int) < (R.length : Int) := by rw [hR]; simp
  refine ⟨?_⟩
  refine ⟨.ready, none, .norm, gy, rfl, rfl, ?_⟩
  simp only [go_sem, seval, if_pos rfl, callW, q0, undef, lget_put, lgetq_put, List.length_set, el, f0, f3, f4, f6, gg, gr, gn, k0, k1, k2, k3, k4, k5, body17, body19]
  generalize hσ4 : St.set σ2 (σ3.next + 1) _ = σ4
  have n4 : σ4.next = σ2.next := by rw [← hσ4]; rfl
  have o4 : ∀ c, c ≠ σ3.next + 1 → σ4.get c = σ2.get c := fun c hc => by rw [← hσ4, St.get_set, if_neg (Ne.symm hc)]
  clear hσ4
  have H4 : HO σ4 own h m L t := H.grow (by omega) fun c hc => (o4 c (by omega)).trans (hold c hc)
  have hls := ho_least H4 I.hp M
  rw [hT] at hls
  simp only [Item.cells] at hls
  have gg4 := (o4 σ.next (by omega)).trans gg
  have gr4 := (o4 (σ.next + 1) (by omega)).trans gr
  have gn4 := (o4 σ1.next (by omega)).trans gn
  have r0 : σ.next < σ4.next := by omega
  have r1 : σ.next + 1 < σ4.next := by omega
  have r2 : σ1.next < σ4.next := by omega
  have gd4 := (o4 σ3.next (by omega)).trans gd
  have r3 : σ3.next < σ4.next := by omega
  have r4 : ¬ σ.next + 1 = σ3.next := by omega
  have r6 : ¬ σ3.next = σ.next + 1 := by omega
  refine .of hls ?_
  simp only [go_sem, seval, if_pos rfl, callW, q0, undef, lget_put, lgetq_put, List.length_set, el, f0, f3, f4, f6, gg4, gr4, gn4, hol, beq_self_eq_true, r0, r1, r2, body17, body19]
  refine .of (ho_len (H4.grow ?_ ?_)) ?_
  ·simp only [go_sem, seval, if_pos rfl]
  ·intro c hc
   simp only [go_sem, seval, if_pos rfl, hc]
  simp only [go_sem, seval, if_pos rfl, callW, q0, undef, lget_put, lgetq_put, List.length_set, el, f0, f3, f4, f6, gg4, gr4, gn4, hol, beq_self_eq_true, r0, r1, r2, bL, flat31, eqCells, c0]
  refine .collected (by simp only [go_sem, seval, if_pos rfl, r3, r4, gd4]) ?_
  refine .ret cP_ok (by simp only [go_sem, seval, if_pos rfl, lget_put, List.length_set, el, f4, r6] <;> rfl) ?_
  simp only [go_sem, seval, if_pos rfl]
  intro z hz
  rcases hz with (hz | hz | (hz | hz) | hz | hz) | hz
  ·have := hB z hz; omega
  ·omega
  ·have := hB2 z hz; omega
  all_goals omega
 ·have c0 : (0 : Int) < (R.length : Int) := by omega
  obtain ⟨a, q1, q2, q3⟩ := hs3.resolve_left fun h => by rw [h.2] at hl; simp at hl
  cases q1
  have ex := cells_at (G := []) hx
  have lx : 4 ≤ (cellsL R).length := by rw [cellsL_length]; omega
  simp only [List.append_nil, Nat.zero_mul, List.drop_zero, Item.cells] at ex
  have ga2 : σ2.get a = some (.cells (cellsL R) false) := (J.old a (by omega) (by omega)).trans q2
  refine ⟨?_⟩
  refine ⟨.ready, none, .norm, gy, rfl, rfl, ?_⟩
  simp only [go_sem, seval, if_pos rfl, callW, q0, undef, lget_put, lgetq_put, List.length_set, el, f0, f3, f4, f6, gg, gr, gn, k0, k1, k2, k3, k4, k5, body17, body19]
  generalize hσ4 : St.set σ2 (σ3.next + 1) _ = σ4
  have n4 : σ4.next = σ2.next := by rw [← hσ4]; rfl
  have o4 : ∀ c, c ≠ σ3.next + 1 → σ4.get c = σ2.get c := fun c hc => by rw [← hσ4, St.get_set, if_neg (Ne.symm hc)]
  clear hσ4
  have H4 : HO σ4 own h m L t := H.grow (by omega) fun c hc => (o4 c (by omega)).trans (hold c hc)
  have ga4 := (o4 a (by omega)).trans ga2
  have r5 : a < σ4.next := by omega
  have hls := ho_least H4 I.hp M
  rw [hT] at hls
  simp only [Item.cells] at hls
  have gg4 := (o4 σ.next (by omega)).trans gg
  have gr4 := (o4 (σ.next + 1) (by omega)).trans gr
  have gn4 := (o4 σ1.next (by omega)).trans gn
  have r0 : σ.next < σ4.next := by omega
  have r1 : σ.next + 1 < σ4.next := by omega
  have r2 : σ1.next < σ4.next := by omega
  have gd4 := (o4 σ3.next (by omega)).trans gd
  have r3 : σ3.next < σ4.next := by omega
  have r4 : ¬ σ.next + 1 = σ3.next := by omega
  have r6 : ¬ σ3.next = σ.next + 1 := by omega
  refine .of hls ?_
  simp only [go_sem, seval, if_pos rfl, callW, q0, undef, lget_put, lgetq_put, List.length_set, el, f0, f3, f4, f6, gg4, gr4, gn4, hol, beq_self_eq_true, r0, r1, r2, body17, body19]
  refine .of (ho_len (H4.grow ?_ ?_)) ?_
  ·simp only [go_sem, seval, if_pos rfl]
  ·intro c hc
   simp only [go_sem, seval, if_pos rfl, hc]
  simp only [go_sem, seval, if_pos rfl, callW, q0, undef, lget_put, lgetq_put, List.length_set, el, f0, f3, f4, f6, gg4, gr4, gn4, hol, beq_self_eq_true, r0, r1, r2, bL, flat31, eqCells, c0, ex, lx, ga4, r5, Int.reduceToNat]
  refine .collected (by simp only [go_sem, seval, if_pos rfl, r3, r4, gd4]) ?_
  refine .ret cP_ok (by simp only [go_sem, seval, if_pos rfl, lget_put, List.length_set, el, f4, r6] <;> rfl) ?_
  simp only [go_sem, seval, if_pos rfl]
  intro z hz
  rcases hz with (hz | hz | (hz | hz) | hz | hz) | hz
  ·have := hB z hz; omega
  ·omega
  ·have := hB2 z hz; omega
  all_goals omega
end Go.Ab
namespace Go.Ab
open Go.Proofs
def ItX (own : List Nat) (σ : St) (s : Value) (R : List Item) : Prop := (s = .slice none 0 0 ∧ R = []) ∨ ∃ a, s = .slice (some ⟨a, 0, some 6⟩) R.length R.length ∧ σ.get a = some (.cells (cellsL R) false) ∧ a < σ.next ∧ a ∉ own
theorem ItX.s {own : List Nat} {σ : St} {s : Value} {R : List Item} (h : ItX own σ s R) : ItS 0 σ s R := by
 rcases h with h | ⟨a, h1, h2, h3, h4⟩
 ·exact .inl h
 ·exact .inr ⟨a, h1, h2, Nat.zero_le _, h3⟩
theorem ItX.keep {own own' : List Nat} {σ σ' : St} {s : Value} {R : List Item} (h : ItX own σ s R) (hn : σ.next ≤ σ'.next) (hg : ∀ c, c ∉ own → c < σ.next → σ'.get c = σ.get c) (ho : ∀ c ∈ own', c ∈ own ∨ σ.next ≤ c) : ItX own' σ' s R := by
 rcases h with h | ⟨a, h1, h2, h3, h4⟩
 ·exact .inl h
 ·exact .inr ⟨a, h1, (hg a h4 h3).trans h2, by omega, fun hm => (ho a hm).elim h4 fun h => by omega⟩
theorem NewS.x {own : List Nat} {σ σ' : St} {s w : Value} {R R' : List Item} (h : NewS σ s R σ' w R') (hX : ItX own σ s R) (hn : σ.next ≤ σ'.next) (hg : ∀ c, c < σ.next → σ'.get c = σ.get c) (ho : ∀ c ∈ own, c < σ.next) : ItX own σ' w R' := by
 rcases h with ⟨rfl, rfl⟩ | h | ⟨a, h1, h2, h3, h4⟩
 ·exact hX.keep hn (fun c _ hc => hg c hc) fun c hc => .inl hc
 ·exact .inl h
 ·exact .inr ⟨a, h1, h2, h4, fun hm => by have := ho a hm; omega⟩
theorem RefE.to {f : FuncId} {args : List Value} {σ : St} {s : Value} {R : List Item} {t : Int} {L' : List Item} {e : Int} (h : RefE f args σ s R t L' e) : callX Try.prog f args σ fun x σ' lg => ∃ w, x = .ret (.tuple ⟨[RV w t, .int .i64 e]⟩) ∧ lg = [] ∧ NewS σ s R σ' w L' := by
 obtain ⟨w, σ', d, hS⟩ := h
 exact ⟨_, _, _, d, w, rfl, rfl, hS⟩
theorem RefT.to {f : FuncId} {args : List Value} {σ : St} {s : Value} {R : List Item} {t : Int} {L' : List Item} {x : Item} {is : Bool} (h : RefT f args σ s R t L' x is) : callX Try.prog f args σ fun e σ' lg => ∃ w, e = .ret (.tuple ⟨[RV w t, .agg ⟨x.cells⟩, .bool is]⟩) ∧ lg = [] ∧ NewS σ s R σ' w L' := by
 obtain ⟨w, σ', d, hS⟩ := h
 exact ⟨_, _, _, d, w, rfl, rfl, hS⟩
theorem nodup_le : ∀ A B : List Item, A.Nodup → (∀ x ∈ A, x ∈ B) → A.length ≤ B.length
 | [], _, _, _ => Nat.zero_le _
 | a :: A, B, h, hs => by
  have h' := List.pairwise_cons.1 h
  obtain ⟨i, hi⟩ := List.getElem?_of_mem (hs a (by simp))
  have hl : i < B.length := (List.getElem?_eq_some_iff.1 hi).1
  have := nodup_le A (B.eraseIdx i) h'.2 fun x hx => by
   obtain ⟨j, hj⟩ := List.getElem?_of_mem (hs x (by simp [hx]))
   refine List.mem_eraseIdx_iff_getElem?.2 ⟨j, fun e => ?_, hj⟩
   subst e
   rw [hi] at hj
   exact h'.1 x hx (Option.some.inj hj)
  rw [List.length_eraseIdx_of_lt hl] at this
  simp only [List.length_cons]
  omega
theorem Mir.len {L R : List Item} (M : Mir L R) (hd : Dist L) : R.length ≤ L.length := nodup_le R L (dist_nodup (M.dist hd)) fun x hx => (M.mem x).1 hx
def DoesR (σ : St) (own : List Nat) (h m k : Nat) (e : AE) (σ' : St) (lg : Log) : Prop :=
 ∃ w own' L' R' t', e = .ret (.tuple ⟨[RV w t', .bool true]⟩) ∧ (∀ c ∈ lg, c ∈ own ∨ σ.next ≤ c) ∧ (∀ c ∈ own', c ∈ own ∨ σ.next ≤ c) ∧ HO σ' own' h m L' t' ∧ I4 L' t' (k + 1) ∧ Mir L' R' ∧ ItX own' σ' w R'
theorem b21 : ((2 : Int) == 1) = false := by decide
theorem b31 : ((3 : Int) == 1) = false := by decide
theorem b32 : ((3 : Int) == 2) = false := by decide
theorem b41 : ((4 : Int) == 1) = false := by decide
theorem b42 : ((4 : Int) == 2) = false := by decide
theorem b43 : ((4 : Int) == 3) = false := by decide
section
variable {σ : St} {own : List Nat} {h m k : Nat} {L R : List Item} {t : Int} {s : Value}
set_option maxHeartbeats 3200000 in
set_option maxRecDepth 20000 in
theorem xdoes_1 (H : HO σ own h m L t) (I : I4 L t k) (M : Mir L R) (hX : ItX own σ s R) (hk : k < 900) (id n d : Int) (hn : okI n = true) (hd : okI d = true) :
  callX Try.prog 18 [.pointer (some ⟨h, 0, none⟩), RV s t, .agg ⟨[.int .i64 1, .int .i64 id, .int .i64 n, .int .i64 d]⟩] σ (DoesR σ own h m k) := by
 have hRl : R.length ≤ L.length := M.len H.dist
 have hLk := I.len
 have hok : ∀ y ∈ R, y.ok = true := fun y hy => H.ok y ((M.mem y).1 hy)
 have hlt := H.lt
 have ht := I.t0
 have htk := I.tk
 obtain ⟨sa, sl, sc, rfl⟩ := hX.s.shape
 have hr := fun σ' h1 h2 => RefE.to (refPut_call (lo := 0) (σ := σ') (s := .slice sa sl sc) (t := t) (id := id) (R := R) (hX.s.keep (σ' := σ') h1 h2) hok (by omega) hn hd (by omega))
 have nh : ∀ σ', HO σ' own h m L t → ∃ σ2 lg2, DCall Try.prog 14 [.pointer (some ⟨h, 0, none⟩), .int .i64 id, .agg ⟨[.int .i64 n, .int .i64 d]⟩] σ' (.ret (.int .i64 ((putR R t id n d).2.2))) σ2 lg2 ∧ Now σ' own h m k σ2 lg2 (putR R t id n d).1 (putR R t id n d).2.1 := fun σ' H' => ho_put H' I M hk id n d hn hd
 generalize putR R t id n d = RR at hr nh
 refine enter (p := q0) Try.func18 rfl stat18 ?_
 simp only [go_sem, seval, if_pos rfl, callW, q0, undef, RV, Try.f18, b21, beq_self_eq_true, body14, body50]
 refine callX.hidE (hr _ ?_ ?_) ?_
 ·simp only [go_sem, seval, if_pos rfl] <;> omega
 ·intro z h1 h2
  simp only [go_sem, seval, if_pos rfl, h2]
 intro e σ1 lg1 hlg1 hA
 obtain ⟨w, rfl, rfl, hw⟩ := hA
 have hn1 := hlg1.1
 simp only [go_sem, seval, if_pos rfl] at hn1
 have hs1 : ∀ c, c < σ.next + 3 → σ1.get c = _ := fun c hc => hlg1.2 c (by simp only [go_sem, seval, if_pos rfl] <;> omega) (by simp)
 have gA : ∀ c, c < σ.next → σ1.get c = σ.get c := fun c hc => (hs1 c (by omega)).trans (by simp only [go_sem, seval, if_pos rfl, hc])
 have g1 : σ1.get (σ.next + 1) = some (.cells [.int .i64 1, .int .i64 id, .int .i64 n, .int .i64 d] false) := (hs1 _ (by omega)).trans (by simp only [go_sem, seval, if_pos rfl])
 have g0 : σ1.get σ.next = some (.cells [.slice sa sl sc, .int .i64 t] false) := (hs1 _ (by omega)).trans (by simp only [go_sem, seval, if_pos rfl])
 have g2 : σ1.get (σ.next + 2) = some (.cells [.slice none 0 0, .int .i64 0] false) := (hs1 _ (by omega)).trans (by simp only [go_sem, seval, if_pos rfl])
 have X1 : ItX (own ++ [σ.next, σ.next + 1, σ.next + 2]) σ1 w RR.1 := by
  refine hw.x (hX.keep (by simp only [go_sem, seval, if_pos rfl] <;> omega) (fun c _ hc => by simp only [go_sem, seval, if_pos rfl, hc]) fun c hc => ?_) hlg1.1 (fun c hc => hlg1.2 c hc (by simp)) fun c hc => ?_
  ·simp at hc
   rcases hc with hc | hc
   ·exact .inl hc
   ·right; omega
  ·simp only [go_sem, seval, if_pos rfl]
   simp at hc
   rcases hc with hc | hc
   ·have := hlt c hc; omega
   ·omega
 have H1 := H.keep (σ' := σ1.set σ.next (.cells [w, .int .i64 RR.2.1] false)) (by simp only [go_sem, seval, if_pos rfl]; omega) fun c hc => by
  have := hlt c hc
  rw [St.get_set, if_neg (by omega)]
  exact gA c this
 obtain ⟨σ2, lg2, hd2, own', L', hl, H2, I2, M2⟩ := nh _ H1
 have hn2 : σ1.next ≤ σ2.next := hd2.1.1
 have ko : ∀ c, c ∉ own → c < σ1.next → c ≠ σ.next → σ2.get c = σ1.get c := fun c hc h1 h2 => (hd2.1.2 c h1 fun hm => hc (hl.log c hm)).trans (by rw [St.get_set, if_neg (Ne.symm h2)])
 have no : ∀ c, σ.next ≤ c → c ∉ own := fun c hc hm => by have := hlt c hm; omega
 have b0 : σ2.get σ.next = some (.cells [w, .int .i64 RR.2.1] false) := (hd2.1.2 _ (show σ.next < σ1.next by omega) fun hm => no _ (Nat.le_refl _) (hl.log _ hm)).trans (by rw [St.get_set, if_pos rfl])
 have b1 := (ko (σ.next + 1) (no _ (by omega)) (by omega) (by omega)).trans g1
 have b2 := (ko (σ.next + 2) (no _ (by omega)) (by omega) (by omega)).trans g2
 have n0 : σ.next < σ1.next := by omega
 have n1 : σ.next + 1 < σ1.next := by omega
 have n2 : σ.next + 2 < σ1.next := by omega
 have m0 : σ.next < σ2.next := by omega
 have m1 : σ.next + 1 < σ2.next := by omega
 have m2 : σ.next + 2 < σ2.next := by omega
 obtain ⟨wa, wl, wc, rfl⟩ := X1.s.shape
 have fin : DoesR σ own h m k (.ret (.tuple ⟨[RV (.slice wa wl wc) RR.2.1, .bool true]⟩)) (σ2.set (σ.next + 2) (.cells [.slice wa wl wc, .int .i64 RR.2.1] false)) (σ.next :: (lg2 ++ [σ.next + 2])) := by
  refine ⟨_, own', L', RR.1, _, rfl, fun c hc => ?_, fun c hc => ?_, H2.keep (Nat.le_refl _) fun c hc => ?_, I2, M2, X1.keep (by simp only [St.next_set]; omega) (fun c hc h1 => ?_) fun c hc => ?_⟩
  ·simp at hc
   rcases hc with hc | hc | hc
   ·right; omega
   ·exact .inl (hl.log c hc)
   ·right; omega
  ·rcases hl.own c hc with h | h
   ·exact .inl h
   ·right; simp only [St.next_set] at h; omega
  ·rw [St.get_set, if_neg]
   rcases hl.own c hc with h | h
   ·have := hlt c h; omega
   ·simp only [St.next_set] at h; omega
  ·simp at hc
   rw [St.get_set, if_neg (by omega)]
   exact ko c hc.1 h1 hc.2.1
  ·rcases hl.own c hc with h | h
   ·exact .inl (by simp [h])
   ·right; simpa only [St.next_set] using h
 refine ⟨?_⟩
 simp only [go_sem, seval, if_pos rfl, callW, q0, undef, RV, Try.f18, b21, beq_self_eq_true, g0, g1, g2, n0, n1, n2, body14, body50]
 refine .of hd2 ?_
 simp only [go_sem, seval, if_pos rfl, callW, q0, undef, RV, Try.f18, b21, beq_self_eq_true, b0, b1, b2, m0, m1, m2, body14, body50]
 exact fin
set_option maxHeartbeats 3200000 in
set_option maxRecDepth 20000 in
theorem xdoes_2 (H : HO σ own h m L t) (I : I4 L t k) (M : Mir L R) (hX : ItX own σ s R) (hk : k < 900) (id n d : Int) (hn : okI n = true) (hd : okI d = true) :
  callX Try.prog 18 [.pointer (some ⟨h, 0, none⟩), RV s t, .agg ⟨[.int .i64 2, .int .i64 id, .int .i64 n, .int .i64 d]⟩] σ (DoesR σ own h m k) := by
 have hRl : R.length ≤ L.length := M.len H.dist
 have hLk := I.len
 have hok : ∀ y ∈ R, y.ok = true := fun y hy => H.ok y ((M.mem y).1 hy)
 have hlt := H.lt
 have ht := I.t0
 have htk := I.tk
 obtain ⟨sa, sl, sc, rfl⟩ := hX.s.shape
 have hr := fun σ' h1 h2 => RefE.to (refSet_call (lo := 0) (σ := σ') (s := .slice sa sl sc) (t := t) (id := id) (R := R) (hX.s.keep (σ' := σ') h1 h2) (n := n) (d := d) hok (by omega) hn hd)
 have nh : ∀ σ', HO σ' own h m L t → ∃ σ2 lg2, DCall Try.prog 15 [.pointer (some ⟨h, 0, none⟩), .int .i64 id, .agg ⟨[.int .i64 n, .int .i64 d]⟩] σ' (.ret (.int .i64 ((setR R id n d).2))) σ2 lg2 ∧ Now σ' own h m k σ2 lg2 (setR R id n d).1 t := fun σ' H' => ho_set H' I M id n d hn hd
 generalize setR R id n d = RR at hr nh
 refine enter (p := q0) Try.func18 rfl stat18 ?_
 simp only [go_sem, seval, if_pos rfl, callW, q0, undef, RV, Try.f18, b21, beq_self_eq_true, body15, body51]
 refine callX.hidE (hr _ ?_ ?_) ?_
 ·simp only [go_sem, seval, if_pos rfl] <;> omega
 ·intro z h1 h2
  simp only [go_sem, seval, if_pos rfl, h2]
 intro e σ1 lg1 hlg1 hA
 obtain ⟨w, rfl, rfl, hw⟩ := hA
 have hn1 := hlg1.1
 simp only [go_sem, seval, if_pos rfl] at hn1
 have hs1 : ∀ c, c < σ.next + 3 → σ1.get c = _ := fun c hc => hlg1.2 c (by simp only [go_sem, seval, if_pos rfl] <;> omega) (by simp)
 have gA : ∀ c, c < σ.next → σ1.get c = σ.get c := fun c hc => (hs1 c (by omega)).trans (by simp only [go_sem, seval, if_pos rfl, hc])
 have g1 : σ1.get (σ.next + 1) = some (.cells [.int .i64 2, .int .i64 id, .int .i64 n, .int .i64 d] false) := (hs1 _ (by omega)).trans (by simp only [go_sem, seval, if_pos rfl])
 have g0 : σ1.get σ.next = some (.cells [.slice sa sl sc, .int .i64 t] false) := (hs1 _ (by omega)).trans (by simp only [go_sem, seval, if_pos rfl])
 have g2 : σ1.get (σ.next + 2) = some (.cells [.slice none 0 0, .int .i64 0] false) := (hs1 _ (by omega)).trans (by simp only [go_sem, seval, if_pos rfl])
 have X1 : ItX (own ++ [σ.next, σ.next + 1, σ.next + 2]) σ1 w RR.1 := by
  refine hw.x (hX.keep (by simp only [go_sem, seval, if_pos rfl] <;> omega) (fun c _ hc => by simp only [go_sem, seval, if_pos rfl, hc]) fun c hc => ?_) hlg1.1 (fun c hc => hlg1.2 c hc (by simp)) fun c hc => ?_
  ·simp at hc
   rcases hc with hc | hc
   ·exact .inl hc
   ·right; omega
  ·simp only [go_sem, seval, if_pos rfl]
   simp at hc
   rcases hc with hc | hc
   ·have := hlt c hc; omega
   ·omega
 have H1 := H.keep (σ' := σ1.set σ.next (.cells [w, .int .i64 t] false)) (by simp only [go_sem, seval, if_pos rfl]; omega) fun c hc => by
  have := hlt c hc
  rw [St.get_set, if_neg (by omega)]
  exact gA c this
 obtain ⟨σ2, lg2, hd2, own', L', hl, H2, I2, M2⟩ := nh _ H1
 have hn2 : σ1.next ≤ σ2.next := hd2.1.1
 have ko : ∀ c, c ∉ own → c < σ1.next → c ≠ σ.next → σ2.get c = σ1.get c := fun c hc h1 h2 => (hd2.1.2 c h1 fun hm => hc (hl.log c hm)).trans (by rw [St.get_set, if_neg (Ne.symm h2)])
 have no : ∀ c, σ.next ≤ c → c ∉ own := fun c hc hm => by have := hlt c hm; omega
 have b0 : σ2.get σ.next = some (.cells [w, .int .i64 t] false) := (hd2.1.2 _ (show σ.next < σ1.next by omega) fun hm => no _ (Nat.le_refl _) (hl.log _ hm)).trans (by rw [St.get_set, if_pos rfl])
 have b1 := (ko (σ.next + 1) (no _ (by omega)) (by omega) (by omega)).trans g1
 have b2 := (ko (σ.next + 2) (no _ (by omega)) (by omega) (by omega)).trans g2
 have n0 : σ.next < σ1.next := by omega
 have n1 : σ.next + 1 < σ1.next := by omega
 have n2 : σ.next + 2 < σ1.next := by omega
 have m0 : σ.next < σ2.next := by omega
 have m1 : σ.next + 1 < σ2.next := by omega
 have m2 : σ.next + 2 < σ2.next := by omega
 obtain ⟨wa, wl, wc, rfl⟩ := X1.s.shape
 have fin : DoesR σ own h m k (.ret (.tuple ⟨[RV (.slice wa wl wc) t, .bool true]⟩)) (σ2.set (σ.next + 2) (.cells [.slice wa wl wc, .int .i64 t] false)) (σ.next :: (lg2 ++ [σ.next + 2])) := by
  refine ⟨_, own', L', RR.1, _, rfl, fun c hc => ?_, fun c hc => ?_, H2.keep (Nat.le_refl _) fun c hc => ?_, I2, M2, X1.keep (by simp only [St.next_set]; omega) (fun c hc h1 => ?_) fun c hc => ?_⟩
  ·simp at hc
   rcases hc with hc | hc | hc
   ·right; omega
   ·exact .inl (hl.log c hc)
   ·right; omega
  ·rcases hl.own c hc with h | h
   ·exact .inl h
   ·right; simp only [St.next_set] at h; omega
  ·rw [St.get_set, if_neg]
   rcases hl.own c hc with h | h
   ·have := hlt c h; omega
   ·simp only [St.next_set] at h; omega
  ·simp at hc
   rw [St.get_set, if_neg (by omega)]
   exact ko c hc.1 h1 hc.2.1
  ·rcases hl.own c hc with h | h
   ·exact .inl (by simp [h])
   ·right; simpa only [St.next_set] using h
 refine ⟨?_⟩
 simp only [go_sem, seval, if_pos rfl, callW, q0, undef, RV, Try.f18, b21, beq_self_eq_true, g0, g1, g2, n0, n1, n2, body15, body51]
 refine .of hd2 ?_
 simp only [go_sem, seval, if_pos rfl, callW, q0, undef, RV, Try.f18, b21, beq_self_eq_true, b0, b1, b2, m0, m1, m2, body15, body51]
 exact fin
set_option maxHeartbeats 3200000 in
set_option maxRecDepth 20000 in
theorem xdoes_3 (H : HO σ own h m L t) (I : I4 L t k) (M : Mir L R) (hX : ItX own σ s R) (hk : k < 900) (id n d : Int) :
  callX Try.prog 18 [.pointer (some ⟨h, 0, none⟩), RV s t, .agg ⟨[.int .i64 3, .int .i64 id, .int .i64 n, .int .i64 d]⟩] σ (DoesR σ own h m k) := by
 have hRl : R.length ≤ L.length := M.len H.dist
 have hLk := I.len
 have hok : ∀ y ∈ R, y.ok = true := fun y hy => H.ok y ((M.mem y).1 hy)
 have hlt := H.lt
 have ht := I.t0
 have htk := I.tk
 obtain ⟨sa, sl, sc, rfl⟩ := hX.s.shape
 have hr := fun σ' h1 h2 => RefE.to (refDrop_call (lo := 0) (σ := σ') (s := .slice sa sl sc) (t := t) (id := id) (R := R) (hX.s.keep (σ' := σ') h1 h2) (by omega))
 have nh : ∀ σ', HO σ' own h m L t → ∃ σ2 lg2, DCall Try.prog 43 [.pointer (some ⟨h, 0, none⟩), .int .i64 id] σ' (.ret (.int .i64 ((dropR R id).2))) σ2 lg2 ∧ Now σ' own h m k σ2 lg2 (dropR R id).1 t := fun σ' H' => ho_drop H' I M id
 generalize dropR R id = RR at hr nh
 refine enter (p := q0) Try.func18 rfl stat18 ?_
 simp only [go_sem, seval, if_pos rfl, callW, q0, undef, RV, Try.f18, b31, b32, beq_self_eq_true, body43, body52]
 refine callX.hidE (hr _ ?_ ?_) ?_
 ·simp only [go_sem, seval, if_pos rfl] <;> omega
 ·intro z h1 h2
  simp only [go_sem, seval, if_pos rfl, h2]
 intro e σ1 lg1 hlg1 hA
 obtain ⟨w, rfl, rfl, hw⟩ := hA
 have hn1 := hlg1.1
 simp only [go_sem, seval, if_pos rfl] at hn1
 have hs1 : ∀ c, c < σ.next + 3 → σ1.get c = _ := fun c hc => hlg1.2 c (by simp only [go_sem, seval, if_pos rfl] <;> omega) (by simp)
 have gA : ∀ c, c < σ.next → σ1.get c = σ.get c := fun c hc => (hs1 c (by omega)).trans (by simp only [go_sem, seval, if_pos rfl, hc])
 have g1 : σ1.get (σ.next + 1) = some (.cells [.int .i64 3, .int .i64 id, .int .i64 n, .int .i64 d] false) := (hs1 _ (by omega)).trans (by simp only [go_sem, seval, if_pos rfl])
 have g0 : σ1.get σ.next = some (.cells [.slice sa sl sc, .int .i64 t] false) := (hs1 _ (by omega)).trans (by simp only [go_sem, seval, if_pos rfl])
 have g2 : σ1.get (σ.next + 2) = some (.cells [.slice none 0 0, .int .i64 0] false) := (hs1 _ (by omega)).trans (by simp only [go_sem, seval, if_pos rfl])
 have X1 : ItX (own ++ [σ.next, σ.next + 1, σ.next + 2]) σ1 w RR.1 := by
  refine hw.x (hX.keep (by simp only [go_sem, seval, if_pos rfl] <;> omega) (fun c _ hc => by simp only [go_sem, seval, if_pos rfl, hc]) fun c hc => ?_) hlg1.1 (fun c hc => hlg1.2 c hc (by simp)) fun c hc => ?_
  ·simp at hc
   rcases hc with hc | hc
   ·exact .inl hc
   ·right; omega
  ·simp only [go_sem, seval, if_pos rfl]
   simp at hc
   rcases hc with hc | hc
   ·have := hlt c hc; omega
   ·omega
 have H1 := H.keep (σ' := σ1.set σ.next (.cells [w, .int .i64 t] false)) (by simp only [go_sem, seval, if_pos rfl]; omega) fun c hc => by
  have := hlt c hc
  rw [St.get_set, if_neg (by omega)]
  exact gA c this
 obtain ⟨σ2, lg2, hd2, own', L', hl, H2, I2, M2⟩ := nh _ H1
 have hn2 : σ1.next ≤ σ2.next := hd2.1.1
 have ko : ∀ c, c ∉ own → c < σ1.next → c ≠ σ.next → σ2.get c = σ1.get c := fun c hc h1 h2 => (hd2.1.2 c h1 fun hm => hc (hl.log c hm)).trans (by rw [St.get_set, if_neg (Ne.symm h2)])
 have no : ∀ c, σ.next ≤ c → c ∉ own := fun c hc hm => by have := hlt c hm; omega
 have b0 : σ2.get σ.next = some (.cells [w, .int .i64 t] false) := (hd2.1.2 _ (show σ.next < σ1.next by omega) fun hm => no _ (Nat.le_refl _) (hl.log _ hm)).trans (by rw [St.get_set, if_pos rfl])
 have b1 := (ko (σ.next + 1) (no _ (by omega)) (by omega) (by omega)).trans g1
 have b2 := (ko (σ.next + 2) (no _ (by omega)) (by omega) (by omega)).trans g2
 have n0 : σ.next < σ1.next := by omega
 have n1 : σ.next + 1 < σ1.next := by omega
 have n2 : σ.next + 2 < σ1.next := by omega
 have m0 : σ.next < σ2.next := by omega
 have m1 : σ.next + 1 < σ2.next := by omega
 have m2 : σ.next + 2 < σ2.next := by omega
 obtain ⟨wa, wl, wc, rfl⟩ := X1.s.shape
 have fin : DoesR σ own h m k (.ret (.tuple ⟨[RV (.slice wa wl wc) t, .bool true]⟩)) (σ2.set (σ.next + 2) (.cells [.slice wa wl wc, .int .i64 t] false)) (σ.next :: (lg2 ++ [σ.next + 2])) := by
  refine ⟨_, own', L', RR.1, _, rfl, fun c hc => ?_, fun c hc => ?_, H2.keep (Nat.le_refl _) fun c hc => ?_, I2, M2, X1.keep (by simp only [St.next_set]; omega) (fun c hc h1 => ?_) fun c hc => ?_⟩
  ·simp at hc
   rcases hc with hc | hc | hc
   ·right; omega
   ·exact .inl (hl.log c hc)
   ·right; omega
  ·rcases hl.own c hc with h | h
   ·exact .inl h
   ·right; simp only [St.next_set] at h; omega
  ·rw [St.get_set, if_neg]
   rcases hl.own c hc with h | h
   ·have := hlt c h; omega
   ·simp only [St.next_set] at h; omega
  ·simp at hc
   rw [St.get_set, if_neg (by omega)]
   exact ko c hc.1 h1 hc.2.1
  ·rcases hl.own c hc with h | h
   ·exact .inl (by simp [h])
   ·right; simpa only [St.next_set] using h
 refine ⟨?_⟩
 simp only [go_sem, seval, if_pos rfl, callW, q0, undef, RV, Try.f18, b31, b32, beq_self_eq_true, g0, g1, g2, n0, n1, n2, body43, body52]
 refine .of hd2 ?_
 simp only [go_sem, seval, if_pos rfl, callW, q0, undef, RV, Try.f18, b31, b32, beq_self_eq_true, b0, b1, b2, m0, m1, m2, body43, body52]
 exact fin
set_option maxHeartbeats 3200000 in
set_option maxRecDepth 20000 in
theorem xdoes_4 (H : HO σ own h m L t) (I : I4 L t k) (M : Mir L R) (hX : ItX own σ s R) (hk : k < 900) (id n d : Int) :
  callX Try.prog 18 [.pointer (some ⟨h, 0, none⟩), RV s t, .agg ⟨[.int .i64 4, .int .i64 id, .int .i64 n, .int .i64 d]⟩] σ (DoesR σ own h m k) := by
 have hRl : R.length ≤ L.length := M.len H.dist
 have hLk := I.len
 have hlt := H.lt
 obtain ⟨sa, sl, sc, rfl⟩ := hX.s.shape
 have hr := fun σ' hx => RefT.to (refTake_call (lo := 0) (σ := σ') (s := .slice sa sl sc) (t := t) (R := R) hx (by omega))
 have nh : ∀ σ', HO σ' own h m L t → ∃ σ2 lg2, DCall Try.prog 16 [.pointer (some ⟨h, 0, none⟩)] σ' (.ret (.tuple ⟨[.agg ⟨(takeR R).2.1.cells⟩, .bool (takeR R).2.2]⟩)) σ2 lg2 ∧ Now σ' own h m k σ2 lg2 (takeR R).1 t := fun σ' H' => ho_take H' I M
 generalize takeR R = RR at hr nh
 obtain ⟨R', x, is⟩ := RR
 simp only [Item.cells] at nh
 let σA := ((σ.new (.cells [.slice sa sl sc, .int .i64 t] false)).new (.cells [.int .i64 4, .int .i64 id, .int .i64 n, .int .i64 d] false)).new (.cells [.slice none 0 0, .int .i64 0] false)
 have gA : ∀ c, c < σ.next → σA.get c = σ.get c := fun c hc => by simp only [σA, go_sem, seval, if_pos rfl, hc]
 have nA : σA.next = σ.next + 3 := rfl
 have HA : HO σA own h m L t := H.grow (by omega) gA
 obtain ⟨σ2, lg2, hd2, own', L', hl, H2, I2, M2⟩ := nh σA HA
 have hn2 : σ.next + 3 ≤ σ2.next := hd2.1.1
 have no : ∀ c, σ.next ≤ c → c ∉ own := fun c hc hm => by have := hlt c hm; omega
 have ko : ∀ c, c ∉ own → c < σ.next + 3 → σ2.get c = σA.get c := fun c hc h1 => hd2.1.2 c h1 fun hm => hc (hl.log c hm)
 have b0 : σ2.get σ.next = some (.cells [.slice sa sl sc, .int .i64 t] false) := (ko _ (no _ (Nat.le_refl _)) (by omega)).trans (by simp only [σA, go_sem, seval, if_pos rfl])
 have b2 : σ2.get (σ.next + 2) = some (.cells [.slice none 0 0, .int .i64 0] false) := (ko _ (no _ (by omega)) (by omega)).trans (by simp only [σA, go_sem, seval, if_pos rfl])
 have m0 : σ.next < σ2.next := by omega
 have m2 : σ.next + 2 < σ2.next := by omega
 have X2 : ItX (own' ++ [σ.next, σ.next + 1, σ.next + 2]) σ2 (.slice sa sl sc) R := hX.keep (by omega) (fun c hc h1 => (ko c hc (by omega)).trans (gA c h1)) fun c hc => by
  simp at hc
  rcases hc with hc | hc
  ·rcases hl.own c hc with h | h
   ·exact .inl h
   ·right; omega
  ·right; omega
 have hb4 : ((4 : Int) == 4) = true := by decide
 refine enter (p := q0) Try.func18 rfl stat18 ?_
 simp only [go_sem, seval, if_pos rfl, callW, q0, undef, RV, Try.f18, b41, b42, b43, hb4, body16, body53]
 refine .of hd2 ?_
 simp only [go_sem, seval, if_pos rfl, callW, q0, undef, RV, Try.f18, b41, b42, b43, hb4, b0, b2, m0, m2, body16, body53]
 refine callX.hidE (hr _ (X2.s.keep ?_ ?_)) ?_
 ·simp only [go_sem, seval, if_pos rfl]
 ·intro z h1 h2
  simp only [go_sem, seval, if_pos rfl, h2]
 intro e σ4 lg4 hlg4 hA
 obtain ⟨w, rfl, rfl, hw⟩ := hA
 have hn4 := hlg4.1
 simp only [go_sem, seval, if_pos rfl] at hn4
 have hs4 : ∀ c, c < σ2.next + 1 → σ4.get c = _ := fun c hc => hlg4.2 c (by simp only [go_sem, seval, if_pos rfl] <;> omega) (by simp)
 have g4 : ∀ c, c < σ2.next → σ4.get c = σ2.get c := fun c hc => (hs4 c (by omega)).trans (by simp only [go_sem, seval, if_pos rfl, hc])
 have y4 : σ4.get σ2.next = some (.cells [.int .i64 x.id, .int .i64 x.n, .int .i64 x.d, .int .i64 x.turn] false) := (hs4 _ (by omega)).trans (by simp only [go_sem, seval, if_pos rfl])
 have c2 := (g4 _ m2).trans b2
 have X4 : ItX (own' ++ [σ.next, σ.next + 1, σ.next + 2] ++ [σ2.next]) σ4 w R' := by
  refine hw.x (X2.keep (by simp only [go_sem, seval, if_pos rfl]) (fun c _ hc => by simp only [go_sem, seval, if_pos rfl, hc]) fun c hc => ?_) hlg4.1 (fun c hc => hlg4.2 c hc (by simp)) fun c hc => ?_
  ·rw [List.mem_append, List.mem_singleton] at hc
   rcases hc with hc | hc
   ·exact .inl hc
   ·right; omega
  ·simp only [go_sem, seval, if_pos rfl]
   simp at hc
   rcases hc with hc | hc
   ·have := H2.lt c hc; omega
   ·omega
 have H4 : HO σ4 own' h m L' t := H2.grow (by omega) g4
 have n0 : σ2.next < σ4.next := by omega
 have n2 : σ.next + 2 < σ4.next := by omega
 have q1 : ¬ σ2.next = σ.next + 2 := by omega
 have q2 : ¬ σ.next + 2 = σ2.next := by omega
 obtain ⟨wa, wl, wc, rfl⟩ := X4.s.shape
 have fin : ∀ A B C D, DoesR σ own h m k (.ret (.tuple ⟨[RV (.slice wa wl wc) t, .bool true]⟩)) (((((σ4.new A).new B).set σ4.next C).set (σ4.next + 1) D).set (σ.next + 2) (.cells [.slice wa wl wc, .int .i64 t] false)) (lg2 ++ [σ2.next] ++ [σ4.next, σ4.next + 1, σ.next + 2]) := fun A B C D => by
  have key : ∀ c, c < σ4.next → ¬ c = σ.next + 2 → (((((σ4.new A).new B).set σ4.next C).set (σ4.next + 1) D).set (σ.next + 2) (.cells [.slice wa wl wc, .int .i64 t] false)).get c = σ4.get c := fun c h1 h2 => by
   have h3 : ¬ σ.next + 2 = c := fun e => h2 e.symm
   simp only [go_sem, seval, if_pos rfl, h1, h3]
  refine ⟨_, own', L', R', _, rfl, fun c hc => ?_, fun c hc => ?_, H4.keep (by simp only [go_sem, seval, if_pos rfl] <;> omega) fun c hc => ?_, I2, M2, X4.keep (by simp only [go_sem, seval, if_pos rfl] <;> omega) (fun c hc h1 => ?_) fun c hc => ?_⟩
  ·simp only [List.mem_append, List.mem_cons, List.not_mem_nil, or_false] at hc
   rcases hc with (hc | hc) | hc | hc | hc
   ·exact .inl (hl.log c hc)
   all_goals (right; omega)
  ·rcases hl.own c hc with h | h
   ·exact .inl h
   ·right; omega
  ·have hc4 := H4.lt c hc
   refine key c hc4 ?_
   rcases hl.own c hc with h | h
   ·have := hlt c h; omega
   ·omega
  ·simp only [List.mem_append, List.mem_cons, List.not_mem_nil, or_false, not_or] at hc
   exact key c h1 hc.1.2.2.2
  ·exact .inl (by simp [hc])
 refine ⟨?_⟩
 simp only [go_sem, seval, if_pos rfl, callW, q0, undef, RV, Try.f18, b41, b42, b43, hb4, y4, c2, n0, n2, q1, q2, flat31, eqCells, Item.cells, beq_self_eq_true, body16, body53]
 exact fin _ _ _ _
set_option maxHeartbeats 3200000 in
set_option maxRecDepth 20000 in
theorem xdoes_5 (H : HO σ own h m L t) (I : I4 L t k) (M : Mir L R) (hX : ItX own σ s R) (kind id n d : Int) (c1 : ¬ kind = 1) (c2 : ¬ kind = 2) (c3 : ¬ kind = 3) (c4 : ¬ kind = 4) :
  callX Try.prog 18 [.pointer (some ⟨h, 0, none⟩), RV s t, .agg ⟨[.int .i64 kind, .int .i64 id, .int .i64 n, .int .i64 d]⟩] σ (DoesR σ own h m k) := by
 have hlt := H.lt
 obtain ⟨sa, sl, sc, rfl⟩ := hX.s.shape
 have e1 : (kind == 1) = false := by rw [beq_eq_false_iff_ne]; exact c1
 have e2 : (kind == 2) = false := by rw [beq_eq_false_iff_ne]; exact c2
 have e3 : (kind == 3) = false := by rw [beq_eq_false_iff_ne]; exact c3
 have e4 : (kind == 4) = false := by rw [beq_eq_false_iff_ne]; exact c4
 have fin : ∀ σ' lg, σ.next ≤ σ'.next → (∀ c, c < σ.next → σ'.get c = σ.get c) → (∀ c ∈ lg, σ.next ≤ c) → DoesR σ own h m k (.ret (.tuple ⟨[RV (.slice sa sl sc) t, .bool true]⟩)) σ' lg := fun σ' lg h1 h2 h3 =>
  ⟨_, own, L, R, t, rfl, fun c hc => .inr (h3 c hc), fun c hc => .inl hc, H.grow h1 h2, I.more, M, hX.keep h1 (fun c _ hc => h2 c hc) fun c hc => .inl hc⟩
 refine enter (p := q0) Try.func18 rfl stat18 ?_
 simp only [go_sem, seval, if_pos rfl, callW, q0, undef, RV, Try.f18, e1, e2, e3, e4, beq_self_eq_true]
 refine fin _ _ ?_ ?_ ?_
 ·simp only [go_sem, seval, if_pos rfl] <;> omega
 ·intro c hc
  simp only [go_sem, seval, if_pos rfl, hc]
 ·simp only [go_sem, seval, if_pos rfl] <;> omega
theorem xdoes_call (H : HO σ own h m L t) (I : I4 L t k) (M : Mir L R) (hX : ItX own σ s R) (hk : k < 900) (kind id n d : Int) (hn : okI n = true) (hd : okI d = true) :
  callX Try.prog 18 [.pointer (some ⟨h, 0, none⟩), RV s t, .agg ⟨[.int .i64 kind, .int .i64 id, .int .i64 n, .int .i64 d]⟩] σ (DoesR σ own h m k) := by
 by_cases c1 : kind = 1
 ·subst c1; exact xdoes_1 H I M hX hk id n d hn hd
 by_cases c2 : kind = 2
 ·subst c2; exact xdoes_2 H I M hX hk id n d hn hd
 by_cases c3 : kind = 3
 ·subst c3; exact xdoes_3 H I M hX hk id n d
 by_cases c4 : kind = 4
 ·subst c4; exact xdoes_4 H I M hX hk id n d
 exact xdoes_5 H I M hX kind id n d c1 c2 c3 c4
end
end Go.Ab
namespace Go.Ab
open Go.Proofs
theorem known12_call (σ : St) : DCall Try.prog 12 [] σ (.ret (.bool true)) σ [] := whole_call (n := 300) (d := 30) (by kernel_rfl) rfl rfl σ
structure Both (σ : St) (lo h m g k : Nat) (own : List Nat) (L R : List Item) (t : Int) (s : Value) : Prop where
 H : HO σ own h m L t
 I : I4 L t k
 M : Mir L R
 X : ItX own σ s R
 gg : σ.get g = some (.cells [s, .int .i64 t] false)
 glt : g < σ.next
 gno : g ∉ own
 own : ∀ c ∈ own, lo ≤ c
 glo : lo ≤ g
 lo : lo ≤ σ.next
theorem Both.ne {σ : St} {g : Nat} {own : List Nat} {R : List Item} {s w v : Value} (X : ItX own σ w R) (gg : σ.get g = some (.cells [s, v] false)) : ItX (g :: own) σ w R := by
 rcases X with h | ⟨a, h1, h2, h3, h4⟩
 ·exact .inl h
 ·refine .inr ⟨a, h1, h2, h3, fun hm => ?_⟩
  rcases List.mem_cons.1 hm with rfl | hm
  ·rw [gg] at h2
   have e := congrArg List.length (AObj.cells.inj (Option.some.inj h2)).1
   rw [cellsL_length] at e
   simp at e
   omega
  ·exact h4 hm
def True8 (σ : St) (e : AE) (σ' : St) (lg : Log) : Prop := e = .ret (.bool true) ∧ ∀ c ∈ lg, σ.next ≤ c
end Go.Ab
namespace Go.Ab
open Go.Proofs
def itemEq (x y : Item) : Bool := (x.id == y.id) && ((x.n == y.n) && ((x.d == y.d) && (x.turn == y.turn)))
def eqL : List Item → List Item → Bool
 | [], [] => true
 | x :: A, y :: B => if itemEq x y = true then eqL A B else false
 | _, _ => false
theorem itemEq_refl (x : Item) : itemEq x x = true := by simp [itemEq]
theorem eqL_refl : ∀ A : List Item, eqL A A = true
 | [] => rfl
 | x :: A => by simp [eqL, itemEq_refl, eqL_refl A]
theorem eqL_len : ∀ {A B : List Item}, A.length ≠ B.length → eqL A B = false
 | [], [], h => absurd rfl h
 | [], _ :: _, _ => rfl
 | _ :: _, [], _ => rfl
 | x :: A, y :: B, h => by
  simp only [eqL]
  split
  ·exact eqL_len fun e => h (by simp [e])
  ·rfl
theorem eqCells_item (x y : Item) : eqCells [.int, .int, .int, .int] [.int .i64 x.id, .int .i64 x.n, .int .i64 x.d, .int .i64 x.turn] [.int .i64 y.id, .int .i64 y.n, .int .i64 y.d, .int .i64 y.turn] = some (itemEq x y) := by
 simp only [eqCells, itemEq, if_true]
 cases h1 : (x.id == y.id) <;> cases h2 : (x.n == y.n) <;> cases h3 : (x.d == y.d) <;> cases h4 : (x.turn == y.turn) <;> simp_all
structure FEq (ts : List Value) (v w : Value) (j i : Nat) : Prop where
 size : ts.length = 26
 t0 : lget ts 0 = v
 t1 : lget ts 1 = w
 tj : lget ts j = .int .i64 i
def IEq (v w : Value) (j lo : Nat) (A B : List Item) (r : Bool) (σs : St) (m : Nat) (fr : Fr) (σ : St) : Prop :=
 ∃ ts, ∃ i : Nat, fr = ⟨ts, []⟩ ∧ FEq ts v w j i ∧ (j = 13 → lget ts 12 = .int .i64 A.length) ∧ σ = σs ∧ m + i = A.length ∧ eqL (A.drop i) (B.drop i) = r
def EEq (r : Bool) (σs : St) (x : AX) (fr : Fr) (σ : St) : Prop := fr.ds = [] ∧ fr.ts.length = 26 ∧ σ = σs ∧ ((x = .exit 0 ∧ r = true) ∨ (x = .ret ∧ r = false ∧ lget fr.ts 4 = .bool false))
noncomputable def eqB76 : Code := loopOf (Try.f76.body.getD .skip)
noncomputable def eqB42 : Code := loopOf (Try.f42.body.getD .skip)
set_option maxHeartbeats 1600000 in
set_option maxRecDepth 20000 in
theorem eq76_loop {v w : Value} {lo : Nat} {A B : List Item} {r : Bool} {σs : St} (hA : ItS lo σs v A) (hB : ItS lo σs w B) (hl : A.length = B.length) (hL : A.length < 1000000) :
  ∀ m fr σ, IEq v w 13 lo A B r σs m fr σ → loopX Try.prog false eqB76 fr σ (endL (EEq r σs) fun _ => False) := by
 refine loop_ind q0 76 (by kernel_rfl) _ _ _ ?_
 rintro m fr σ ⟨ts, i, rfl, F, e12, rfl, hm, hr⟩
 have e0 := F.t0
 have e1 := F.t1
 have ej := F.tj
 have el := F.size
 have e12 := e12
 simp only [Nat.reduceEqDiff, forall_const, false_implies] at e12
 have hol : ∀ σ', opLen (cP Try.prog).T σ' 37 v = some (.val (.int .i64 A.length) []) := fun σ' => len_it hA.v
 by_cases hi : i < A.length
 ·have c0 : (i : Int) < (A.length : Int) := by omega
  have hx : A[i]? = some A[i] := List.getElem?_eq_getElem hi
  have hiB : i < B.length := by omega
  have hy : B[i]? = some B[i] := List.getElem?_eq_getElem hiB
  rw [List.drop_eq_getElem_cons hi, List.drop_eq_getElem_cons hiB] at hr
  generalize A[i] = x at hx hr
  generalize B[i] = y at hy hr
  rcases hA with ⟨_, rfl⟩ | ⟨a, rfl, ga, ha1, ha2⟩
  ·simp at hi
  rcases hB with ⟨_, rfl⟩ | ⟨b, rfl, gb, hb1, hb2⟩
  ·simp at hiB
  have c1 : (0 : Int) ≤ (i : Int) := by omega
  have c2 : (i : Int) < (B.length : Int) := by omega
  have x1 := cells_at (G := []) hx
  have y1 := cells_at (G := []) hy
  have l1 : i * 4 + 4 ≤ (cellsL A).length := by rw [cellsL_length]; omega
  have l2 : i * 4 + 4 ≤ (cellsL B).length := by rw [cellsL_length]; omega
  simp only [List.append_nil, Item.cells] at x1 y1
  have w1 : IntKind.i64.wrap ((i : Int) + 1) = ((i + 1 : Nat) : Int) := by
   have : (i : Int) + 1 = ((i + 1 : Nat) : Int) := by omega
   rw [this]; exact wrapIN (by omega)
  have hec := eqCells_item x y
  simp only [eqL] at hr
  cases hxy : itemEq x y with
  | true =>
   rw [hxy] at hec hr
   rw [if_pos rfl] at hr
   simp only [go_sem, seval, if_pos rfl, callW, q0, undef, eqB76, loopOf, Try.f76, Option.getD, lget_put, lgetq_put, List.length_set, Int.toNat_natCast, e0, e1, ej, el, e12, hol, ga, gb, ha2, hb2, c0, c1, c2, x1, y1, l1, l2, w1, flat31, hec]
   exact ⟨m - 1, by omega, _, i + 1, rfl, ⟨by simp only [List.length_set, el], by simp only [go_sem, seval, if_pos rfl, lget_put, List.length_set, el, e0], by simp only [go_sem, seval, if_pos rfl, lget_put, List.length_set, el, e1], by simp only [go_sem, seval, if_pos rfl, lget_put, List.length_set, el]⟩, fun _ => by simp only [go_sem, seval, if_pos rfl, lget_put, List.length_set, el, e12], rfl, by omega, hr⟩
  | false =>
   rw [hxy] at hec hr
   rw [if_neg (by simp)] at hr
   simp only [go_sem, seval, if_pos rfl, callW, q0, undef, eqB76, loopOf, Try.f76, Option.getD, lget_put, lgetq_put, List.length_set, Int.toNat_natCast, e0, e1, ej, el, e12, hol, ga, gb, ha2, hb2, c0, c1, c2, x1, y1, l1, l2, w1, flat31, hec]
   exact ⟨rfl, by simp only [List.length_set, el], rfl, .inr ⟨rfl, hr.symm, by simp only [go_sem, seval, if_pos rfl, lget_put, List.length_set, el]⟩⟩
 ·have c0 : ¬ (i : Int) < (A.length : Int) := by omega
  have hre : r = true := by
   rw [← hr, List.drop_eq_nil_of_le (by omega), List.drop_eq_nil_of_le (by omega)]
   rfl
  simp only [go_sem, seval, if_pos rfl, callW, q0, undef, eqB76, loopOf, Try.f76, Option.getD, lget_put, lgetq_put, List.length_set, e0, e1, ej, el, e12, hol, c0]
  exact ⟨rfl, by simp only [List.length_set, el], rfl, .inl ⟨rfl, hre⟩⟩
set_option maxHeartbeats 1600000 in
set_option maxRecDepth 20000 in
theorem eq42_loop {v w : Value} {lo : Nat} {A B : List Item} {r : Bool} {σs : St} (hA : ItS lo σs v A) (hB : ItS lo σs w B) (hl : A.length = B.length) (hL : A.length < 1000000) :
  ∀ m fr σ, IEq v w 5 lo A B r σs m fr σ → loopX Try.prog false eqB42 fr σ (endL (EEq r σs) fun _ => False) := by
 refine loop_ind q0 42 (by kernel_rfl) _ _ _ ?_
 rintro m fr σ ⟨ts, i, rfl, F, e12, rfl, hm, hr⟩
 have e0 := F.t0
 have e1 := F.t1
 have ej := F.tj
 have el := F.size
 have e12 := e12
 simp only [Nat.reduceEqDiff, forall_const, false_implies] at e12
 have hol : ∀ σ', opLen (cP Try.prog).T σ' 37 v = some (.val (.int .i64 A.length) []) := fun σ' => len_it hA.v
 by_cases hi : i < A.length
 ·have c0 : (i : Int) < (A.length : Int) := by omega
  have hx : A[i]? = some A[i] := List.getElem?_eq_getElem hi
  have hiB : i < B.length := by omega
  have hy : B[i]? = some B[i] := List.getElem?_eq_getElem hiB
  rw [List.drop_eq_getElem_cons hi, List.drop_eq_getElem_cons hiB] at hr
  generalize A[i] = x at hx hr
  generalize B[i] = y at hy hr
  rcases hA with ⟨_, rfl⟩ | ⟨a, rfl, ga, ha1, ha2⟩
  ·simp at hi
  rcases hB with ⟨_, rfl⟩ | ⟨b, rfl, gb, hb1, hb2⟩
  ·simp at hiB
  have c1 : (0 : Int) ≤ (i : Int) := by omega
  have c2 : (i : Int) < (B.length : Int) := by omega
  have x1 := cells_at (G := []) hx
  have y1 := cells_at (G := []) hy
  have l1 : i * 4 + 4 ≤ (cellsL A).length := by rw [cellsL_length]; omega
  have l2 : i * 4 + 4 ≤ (cellsL B).length := by rw [cellsL_length]; omega
  simp only [List.append_nil, Item.cells] at x1 y1
  have w1 : IntKind.i64.wrap ((i : Int) + 1) = ((i + 1 : Nat) : Int) := by
   have : (i : Int) + 1 = ((i + 1 : Nat) : Int) := by omega
   rw [this]; exact wrapIN (by omega)
  have hec := eqCells_item x y
  simp only [eqL] at hr
  cases hxy : itemEq x y with
  | true =>
   rw [hxy] at hec hr
   rw [if_pos rfl] at hr
   simp only [go_sem, seval, if_pos rfl, callW, q0, undef, eqB42, loopOf, Try.f42, Option.getD, lget_put, lgetq_put, List.length_set, Int.toNat_natCast, e0, e1, ej, el, e12, hol, ga, gb, ha2, hb2, c0, c1, c2, x1, y1, l1, l2, w1, flat31, hec]
   exact ⟨m - 1, by omega, _, i + 1, rfl, ⟨by simp only [List.length_set, el], by simp only [go_sem, seval, if_pos rfl, lget_put, List.length_set, el, e0], by simp only [go_sem, seval, if_pos rfl, lget_put, List.length_set, el, e1], by simp only [go_sem, seval, if_pos rfl, lget_put, List.length_set, el]⟩, fun h => absurd h (by decide), rfl, by omega, hr⟩
  | false =>
   rw [hxy] at hec hr
   rw [if_neg (by simp)] at hr
   simp only [go_sem, seval, if_pos rfl, callW, q0, undef, eqB42, loopOf, Try.f42, Option.getD, lget_put, lgetq_put, List.length_set, Int.toNat_natCast, e0, e1, ej, el, e12, hol, ga, gb, ha2, hb2, c0, c1, c2, x1, y1, l1, l2, w1, flat31, hec]
   exact ⟨rfl, by simp only [List.length_set, el], rfl, .inr ⟨rfl, hr.symm, by simp only [go_sem, seval, if_pos rfl, lget_put, List.length_set, el]⟩⟩
 ·have c0 : ¬ (i : Int) < (A.length : Int) := by omega
  have hre : r = true := by
   rw [← hr, List.drop_eq_nil_of_le (by omega), List.drop_eq_nil_of_le (by omega)]
   rfl
  simp only [go_sem, seval, if_pos rfl, callW, q0, undef, eqB42, loopOf, Try.f42, Option.getD, lget_put, lgetq_put, List.length_set, e0, e1, ej, el, e12, hol, c0]
  exact ⟨rfl, by simp only [List.length_set, el], rfl, .inl ⟨rfl, hre⟩⟩
set_option maxRecDepth 20000 in
theorem eq76_call {v w : Value} {lo : Nat} {A B : List Item} {σ : St} (hA : ItS lo σ v A) (hB : ItS lo σ w B) (hL : A.length < 1000000) : DCall Try.prog 76 [v, w] σ (.ret (.bool (eqL A B))) σ [] := by
 have hoA : ∀ σ', opLen (cP Try.prog).T σ' 37 v = some (.val (.int .i64 A.length) []) := fun σ' => len_it hA.v
 have hoB : ∀ σ', opLen (cP Try.prog).T σ' 37 w = some (.val (.int .i64 B.length) []) := fun σ' => len_it hB.v
 refine pure_call ?_ rfl
 by_cases hl : A.length = B.length
 ·have b0 : ((A.length : Int) != (B.length : Int)) = false := by rw [hl]; exact bne_self_eq_false _
  refine enter (p := q0) Try.func76 rfl stat76 ?_
  simp only [go_sem, seval, if_pos rfl, callW, q0, undef, Try.f76, hoA, hoB, b0]
  refine loop_then (eq76_loop (v := v) (w := w) (r := eqL A B) hA hB hl hL A.length _ _ ⟨_, 0, rfl, ⟨rfl, rfl, rfl, rfl⟩, fun _ => by rfl, rfl, by omega, rfl⟩) ?_
  intro x fr' σ1 lg hlg hB1 h
  obtain ⟨hds, hlen, rfl, h⟩ := h
  obtain ⟨ts', ds'⟩ := fr'
  simp only at hds hlen h
  subst hds
  obtain rfl : lg = [] := List.eq_nil_iff_forall_not_mem.2 fun z hz => hB1 z hz
  rcases h with ⟨rfl, hr⟩ | ⟨rfl, hr, h4⟩
  ·simp only [go_sem, seval, if_pos rfl, callW, q0, undef, Try.f76, lget_put, lgetq_put, List.length_set, hlen, hr]
  ·simp only [go_sem, seval, if_pos rfl, callW, q0, undef, Try.f76, lget_put, lgetq_put, List.length_set, hlen, hr, h4]
 ·have b0 : ((A.length : Int) != (B.length : Int)) = true := by rw [bne_iff_ne]; omega
  have hr := eqL_len hl
  refine enter (p := q0) Try.func76 rfl stat76 ?_
  simp only [go_sem, seval, if_pos rfl, callW, q0, undef, Try.f76, hoA, hoB, b0, hr]
set_option maxRecDepth 20000 in
theorem eq42_call {v w : Value} {lo : Nat} {A B : List Item} {σ : St} (hA : ItS lo σ v A) (hB : ItS lo σ w B) (hL : A.length < 1000000) : DCall Try.prog 42 [v, w] σ (.ret (.bool (eqL A B))) σ [] := by
 have hoA : ∀ σ', opLen (cP Try.prog).T σ' 37 v = some (.val (.int .i64 A.length) []) := fun σ' => len_it hA.v
 have hoB : ∀ σ', opLen (cP Try.prog).T σ' 37 w = some (.val (.int .i64 B.length) []) := fun σ' => len_it hB.v
 refine pure_call ?_ rfl
 by_cases hl : A.length = B.length
 ·have b0 : ((A.length : Int) != (B.length : Int)) = false := by rw [hl]; exact bne_self_eq_false _
  refine enter (p := q0) Try.func42 rfl stat42 ?_
  simp only [go_sem, seval, if_pos rfl, callW, q0, undef, Try.f42, hoA, hoB, b0]
  refine loop_then (eq42_loop (v := v) (w := w) (r := eqL A B) hA hB hl hL A.length _ _ ⟨_, 0, rfl, ⟨rfl, rfl, rfl, rfl⟩, fun h => absurd h (by decide), rfl, by omega, rfl⟩) ?_
  intro x fr' σ1 lg hlg hB1 h
  obtain ⟨hds, hlen, rfl, h⟩ := h
  obtain ⟨ts', ds'⟩ := fr'
  simp only at hds hlen h
  subst hds
  obtain rfl : lg = [] := List.eq_nil_iff_forall_not_mem.2 fun z hz => hB1 z hz
  rcases h with ⟨rfl, hr⟩ | ⟨rfl, hr, h4⟩
  ·simp only [go_sem, seval, if_pos rfl, callW, q0, undef, Try.f42, lget_put, lgetq_put, List.length_set, hlen, hr]
  ·simp only [go_sem, seval, if_pos rfl, callW, q0, undef, Try.f42, lget_put, lgetq_put, List.length_set, hlen, hr, h4]
 ·have b0 : ((A.length : Int) != (B.length : Int)) = true := by rw [bne_iff_ne]; omega
  have hr := eqL_len hl
  refine enter (p := q0) Try.func42 rfl stat42 ?_
  simp only [go_sem, seval, if_pos rfl, callW, q0, undef, Try.f42, hoA, hoB, b0, hr]
end Go.Ab
namespace Go.Ab
open Go.Proofs
theorem endRW_exit {l : Nat} {ts : List Value} {ps : Array Tmp} {a b : Code} {d i : Nat} {K : AE → St → Log → Prop} {fr : Fr} {σ : St} {lg lg' : Log} :
  endRW l ts ps a b d K lg ⟨.exit i, fr, σ, lg'⟩ = (σ.get l = some (loopOb .busy none ts ps a b d) ∧ K (.ret (.bool false)) (σ.set l (loopOb .done (some (.exit i)) ts ps a b d)) (lg ++ ([l] ++ (lg' ++ [l])))) := (rfl)
attribute [go_sem] endRW_exit
structure YieldsS (y : Nat) (B : Nat → Prop) (L : List Item) (stop : Nat) (J JE : List Item → St → Prop) : Prop where
 round : ∀ done x rest σ, L = done ++ x :: rest → done.length + 1 ≠ stop → J done σ → roundX Try.prog y [(.agg ⟨x.cells⟩)] σ fun e σ' lg => e = .ret (.bool true) ∧ ((∀ z ∈ lg, B z) ∧ J (done ++ [x]) σ')
 last : ∀ done x rest σ, L = done ++ x :: rest → done.length + 1 = stop → J done σ → roundX Try.prog y [(.agg ⟨x.cells⟩)] σ fun e σ' lg => e = .ret (.bool false) ∧ ((∀ z ∈ lg, B z) ∧ JE (done ++ [x]) σ')
 keep : ∀ done σ σ', J done σ → σ.next ≤ σ'.next → (∀ z, z < σ.next → σ'.get z = σ.get z) → J done σ'
def IYS (y : Nat) (v : Value) (L : List Item) (stop : Nat) (J : List Item → St → Prop) (m : Nat) (fr : Fr) (σ : St) : Prop :=
 ∃ ts, ∃ i : Nat, fr = ⟨ts, []⟩ ∧ FYI ts y v L.length i ∧ m + i = L.length ∧ i < stop ∧ J (L.take i) σ
def EYS (L : List Item) (stop : Nat) (J JE : List Item → St → Prop) (x : AX) (fr : Fr) (σ : St) : Prop := fr.ds = [] ∧ ((x = .exit 0 ∧ J L σ ∧ L.length < stop) ∨ (x = .ret ∧ JE (L.take stop) σ ∧ stop ≤ L.length))
set_option maxRecDepth 20000 in
theorem seqS_loop {y n0 lo stop : Nat} {v : Value} {L : List Item} {B : Nat → Prop} {J JE : List Item → St → Prop} (hY : YieldsS y B L stop J JE) (hB : ∀ z, n0 ≤ z → B z) (hv : ∀ done σ, J done σ → ItV lo σ v L ∧ n0 ≤ σ.next) (hL : L.length < 1000000) :
  ∀ m fr σ, IYS y v L stop J m fr σ → loopX Try.prog false (loopOf (Try.f110.body.getD .skip)) fr σ (endL (EYS L stop J JE) B) := by
 refine loop_ind q0 110 (by kernel_rfl) _ _ _ ?_
 rintro m fr σ ⟨ts, i, rfl, F, hmi, hst, hJ⟩
 have e0 := F.t0
 have e5 := F.t5
 have e6 := F.t6
 have e7 := F.t7
 have el := F.size
 by_cases hi : i < L.length
 ·have c0 : (i : Int) < (L.length : Int) := by omega
  have hx : L[i]? = some L[i] := List.getElem?_eq_getElem hi
  have hsp : L = L.take i ++ L[i] :: L.drop (i + 1) := by simp
  have tk : L.take (i + 1) = L.take i ++ [L[i]] := by rw [List.take_add_one, hx]; rfl
  generalize L[i] = x at hx hsp tk
  obtain ⟨hS, hn0⟩ := hv _ _ hJ
  rcases hS with ⟨_, rfl⟩ | ⟨a, s, cap, G, rfl, ga, ha1, ha2⟩
  ·simp at hi
  have c1 : (0 : Int) ≤ (i : Int) := by omega
  have ex := cells_at (G := G) hx
  have lx : i * 4 + 4 ≤ (cellsL L ++ G).length := by rw [List.length_append, cellsL_length]; omega
  simp only [Item.cells] at ex
  have na : ¬ σ.next = a := by omega
  have w1 : IntKind.i64.wrap ((i : Int) + 1) = ((i + 1 : Nat) : Int) := by
   have : (i : Int) + 1 = ((i + 1 : Nat) : Int) := by omega
   rw [this]; exact wrapIN (by omega)
  have hdl : (L.take i).length = i := by simp; omega
  by_cases hls : i + 1 = stop
  ·simp only [go_sem, seval, if_pos rfl, callW, q0, undef, loopOf, Try.f110, Option.getD, lget_put, lgetq_put, List.length_set, Int.toNat_natCast, e0, e5, e6, e7, el, ga, ha2, na, c0, c1, ex, lx]
   refine roundX.hid (hY.last _ x _ _ hsp (by rw [hdl]; exact hls) (hY.keep _ σ _ hJ ?_ ?_)) ?_
   ·simp only [go_sem, seval, if_pos rfl, St.next_put] <;> omega
   ·intro z hz
    simp only [go_sem, seval, if_pos rfl, hz]
   intro σ1 lg1 hlg1 h1
   obtain ⟨hB1, hJ1⟩ := h1
   rw [← tk, hls] at hJ1
   have hBn := hB σ.next hn0
   refine ⟨?_⟩
   simp only [go_sem, seval, if_pos rfl, callW, q0, undef, lget_put, lgetq_put, List.length_set, e0, e5, e6, e7, el, w1]
   exact ⟨⟨hBn, hB1⟩, rfl, .inr ⟨rfl, hJ1, by omega⟩⟩
  ·simp only [go_sem, seval, if_pos rfl, callW, q0, undef, loopOf, Try.f110, Option.getD, lget_put, lgetq_put, List.length_set, Int.toNat_natCast, e0, e5, e6, e7, el, ga, ha2, na, c0, c1, ex, lx]
   refine roundX.hid (hY.round _ x _ _ hsp (by rw [hdl]; exact hls) (hY.keep _ σ _ hJ ?_ ?_)) ?_
   ·simp only [go_sem, seval, if_pos rfl, St.next_put] <;> omega
   ·intro z hz
    simp only [go_sem, seval, if_pos rfl, hz]
   intro σ1 lg1 hlg1 h1
   obtain ⟨hB1, hJ1⟩ := h1
   rw [← tk] at hJ1
   have hBn := hB σ.next hn0
   refine ⟨?_⟩
   simp only [go_sem, seval, if_pos rfl, callW, q0, undef, lget_put, lgetq_put, List.length_set, e0, e5, e6, e7, el, w1]
   exact ⟨⟨hBn, hB1⟩, m - 1, by omega, _, i + 1, rfl, ⟨by simp only [List.length_set, el], by simp only [go_sem, seval, if_pos rfl, lget_put, List.length_set, el, e0], by simp only [go_sem, seval, if_pos rfl, lget_put, List.length_set, el, e5], by simp only [go_sem, seval, if_pos rfl, lget_put, List.length_set, el, e6], by simp only [go_sem, seval, if_pos rfl, lget_put, List.length_set, el]⟩, by omega, by omega, hJ1⟩
 ·have c0 : ¬ (i : Int) < (L.length : Int) := by omega
  obtain rfl : i = L.length := by omega
  rw [List.take_length] at hJ
  simp only [go_sem, seval, if_pos rfl, callW, q0, undef, loopOf, Try.f110, Option.getD, lget_put, lgetq_put, List.length_set, e0, e5, e6, e7, el, c0]
  exact ⟨rfl, .inl ⟨rfl, hJ, by omega⟩⟩
set_option maxRecDepth 20000 in
theorem seqS_call {y n0 lo c stop : Nat} {v : Value} {L : List Item} {B : Nat → Prop} {J JE : List Item → St → Prop} (hY : YieldsS y B L stop J JE) (hB : ∀ z, n0 ≤ z → B z) (hv : ∀ done σ, J done σ → ItV lo σ v L ∧ n0 ≤ σ.next) (hL : L.length < 1000000) {σ : St} (gc : σ.get c = some (.cells [v] false)) (h0 : J [] σ) (hs0 : 0 < stop) :
  callX Try.prog 110 [.func (.yield y) #[] #[], .pointer (some ⟨c, 0, none⟩)] σ fun e σ' lg => e = .ret (.tuple ⟨[]⟩) ∧ ((∀ z ∈ lg, B z) ∧ ((J L σ' ∧ L.length < stop) ∨ (JE (L.take stop) σ' ∧ stop ≤ L.length))) := by
 have hv0 := (hv _ _ h0).1
 have hlen : v = .slice none 0 0 ∧ L.length = 0 ∨ ∃ a s cap, v = .slice (some ⟨a, 0, some s⟩) L.length cap := by
  rcases hv0 with ⟨h1, h2⟩ | ⟨a, s, cap, G, h1, _⟩
  ·exact .inl ⟨h1, by rw [h2]; rfl⟩
  ·exact .inr ⟨a, s, cap, h1⟩
 refine enter (p := q0) Try.func110 rfl stat110 ?_
 have key : ∀ n : Nat, n = L.length → opLen (cP Try.prog).T σ 37 v = some (.val (.int .i64 n) []) := by
  rintro n rfl
  rcases hlen with ⟨rfl, h⟩ | ⟨a, s, cap, rfl⟩
  ·rw [h]; simp only [opLen, und37w]; rfl
  ·simp only [opLen, und37w]
 have hlen' := key _ rfl
 simp only [go_sem, seval, if_pos rfl, callW, q0, undef, Try.f110, gc, hlen']
 refine loop_then (seqS_loop hY hB hv hL L.length _ _ ⟨_, 0, rfl, ⟨rfl, rfl, rfl, rfl, rfl⟩, rfl, hs0, h0⟩) ?_
 intro x fr' σ' lg hlg hB' h
 obtain ⟨hds, hJ⟩ := h
 obtain ⟨ts', ds'⟩ := fr'
 simp only at hds
 subst hds
 rcases hJ with ⟨rfl, h1, h2⟩ | ⟨rfl, h1, h2⟩
 ·simp only [go_sem, seval, if_pos rfl, callW, q0, Try.f110]
  exact ⟨hB', .inl ⟨h1, h2⟩⟩
 ·simp only [go_sem, seval, if_pos rfl, callW, q0, Try.f110]
  exact ⟨hB', .inr ⟨h1, h2⟩⟩
end Go.Ab
