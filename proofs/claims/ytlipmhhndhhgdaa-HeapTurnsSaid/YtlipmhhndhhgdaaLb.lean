/- The plain law of heaps: rise, sink, out keep the order; the root is least. -/
import Derived.Test.YtlipmhhndhhgdaaLa
set_option linter.unusedSimpArgs false
set_option linter.unusedVariables false
namespace Go.Ab

/-- The item of one place is not greater than that of another. -/
def LeA (L : List Item) (i j : Nat) : Prop := ∀ x y, L[i]? = some x → L[j]? = some y → cmpItem x y ≤ 0
def AllPos (L : List Item) : Prop := ∀ x ∈ L, x.pos

/-- A heap. -/
def Hp (L : List Item) : Prop := ∀ i, 0 < i → LeA L ((i - 1) / 2) i
/-- What stands above a place is not greater than what stands below it. -/
def Over (L : List Item) (n : Nat) : Prop := 0 < n → ∀ i, 0 < i → (i - 1) / 2 = n → LeA L ((n - 1) / 2) i
def HpR (L : List Item) (n : Nat) : Prop := (∀ i, 0 < i → i ≠ n → LeA L ((i - 1) / 2) i) ∧ Over L n
def HpS (L : List Item) (n : Nat) : Prop := (∀ i, 0 < i → (i - 1) / 2 ≠ n → LeA L ((i - 1) / 2) i) ∧ Over L n
def HpX (L : List Item) (n : Nat) : Prop := (∀ i, 0 < i → i ≠ n → (i - 1) / 2 ≠ n → LeA L ((i - 1) / 2) i) ∧ Over L n

theorem swapL_pos {L : List Item} {i j : Nat} {x y : Item} (h : AllPos L) (hi : L[i]? = some x) (hj : L[j]? = some y) : AllPos (swapL L i j x y) := fun z hz => by
  obtain ⟨q, hq⟩ := List.getElem?_of_mem hz
  rw [swapL_get hi hj] at hq
  split at hq
  · cases hq; exact h _ (List.mem_of_getElem? hi)
  · split at hq
    · cases hq; exact h _ (List.mem_of_getElem? hj)
    · exact h _ (List.mem_of_getElem? hq)

theorem pos_at {L : List Item} {i : Nat} {x : Item} (h : AllPos L) (hi : L[i]? = some x) : x.pos := h _ (List.mem_of_getElem? hi)

theorem HpR.step {L : List Item} {n : Nat} {x y : Item} (hR : HpR L n) (hp : AllPos L) (hn : 0 < n) (hx : L[(n - 1) / 2]? = some x) (hy : L[n]? = some y) (hc : ¬ cmpItem x y ≤ 0) : HpR (swapL L ((n - 1) / 2) n x y) ((n - 1) / 2) := by
  have hyx : cmpItem y x ≤ 0 := (cmpItem_total x y).resolve_left hc
  constructor
  · intro i hi hne u v hu hv
    rw [swapL_get hx hy] at hu hv
    by_cases e : i = n
    · subst e
      rw [if_pos rfl] at hv; cases hv
      rw [if_neg (by omega), if_pos rfl] at hu; cases hu
      exact hyx
    · rw [if_neg e, if_neg hne] at hv
      by_cases e2 : (i - 1) / 2 = (n - 1) / 2
      · rw [if_neg (by omega), if_pos e2] at hu; cases hu
        exact cmpItem_trans (pos_at hp hy) (pos_at hp hx) (pos_at hp hv) hyx (hR.1 i hi e x v (by rw [e2]; exact hx) hv)
      · by_cases e3 : (i - 1) / 2 = n
        · rw [if_pos e3] at hu; cases hu
          exact hR.2 hn i hi e3 x v hx hv
        · rw [if_neg e3, if_neg e2] at hu
          exact hR.1 i hi e u v hu hv
  · intro h0 i hi he u v hu hv
    rw [swapL_get hx hy] at hu hv
    rw [if_neg (by omega), if_neg (by omega)] at hu
    have h1 := hR.1 ((n - 1) / 2) h0 (by omega) u x hu hx
    by_cases e : i = n
    · subst e
      rw [if_pos rfl] at hv; cases hv
      exact h1
    · rw [if_neg e, if_neg (by omega)] at hv
      exact cmpItem_trans (pos_at hp hu) (pos_at hp hx) (pos_at hp hv) h1 (hR.1 i hi e x v (by rw [he]; exact hx) hv)

theorem rise_heap : ∀ (k n : Nat) (L : List Item), n < k → n < L.length → AllPos L → HpR L n → Hp (riseL k L n)
  | 0, n, L, h, _, _, _ => absurd h (by omega)
  | k + 1, n, L, h, hl, hp, hR => by
    simp only [riseL]
    split
    · rename_i e
      subst e
      exact fun i hi => hR.1 i hi (by omega)
    · rename_i e
      split
      · rename_i x y hx hy
        split
        · rename_i hc
          intro i hi
          by_cases e2 : i = n
          · subst e2
            intro u v hu hv
            rw [hx] at hu; rw [hy] at hv; cases hu; cases hv
            exact hc
          · exact hR.1 i hi e2
        · rename_i hc
          exact rise_heap k _ _ (by omega) (by rw [swapL_length]; omega) (swapL_pos hp hx hy) (hR.step hp (by omega) hx hy hc)
      · rename_i hno
        exact absurd (hno _ _ (List.getElem?_eq_getElem (by omega)) (List.getElem?_eq_getElem hl)) id

theorem less1_le {L : List Item} {n k : Nat} : LeA L (less1 L n k) n ∧ LeA L (less1 L n k) k := by
  unfold less1
  split
  · rename_i y x hy hx
    split
    · rename_i hc
      refine ⟨fun u v hu hv => ?_, fun u v hu hv => ?_⟩
      · rw [hy] at hu; rw [hx] at hv; cases hu; cases hv; omega
      · rw [hu] at hv; cases hv
        rw [cmpItem_le]; omega
    · rename_i hc
      refine ⟨fun u v hu hv => ?_, fun u v hu hv => ?_⟩
      · rw [hu] at hv; cases hv
        rw [cmpItem_le]; omega
      · rw [hx] at hu; rw [hy] at hv; cases hu; cases hv
        rcases cmpItem_total x y with h | h
        · exact h
        · have h0 : cmpItem y x = 0 := by omega
          have : cmpItem x y ≤ 0 := by
            unfold cmpItem at h0 ⊢
            unfold cmpR cmpI at *
            split at h0 <;> split <;> split at h0 <;> omega
          exact this
  · rename_i hno
    refine ⟨fun u v hu hv => ?_, fun u v hu hv => ?_⟩
    · rw [hu] at hv; cases hv
      rw [cmpItem_le]; omega
    · exact absurd (hno _ _ hv hu) id

theorem LeA.refl {L : List Item} {i : Nat} : LeA L i i := fun u v hu hv => by
  rw [hu] at hv; cases hv
  rw [cmpItem_le]; omega

theorem leastL_le {L : List Item} {n : Nat} (hp : AllPos L) (hn : n < L.length) : LeA L (leastL L n) n ∧ LeA L (leastL L n) (2 * n + 1) ∧ LeA L (leastL L n) (2 * n + 2) := by
  have a := less1_le (L := L) (n := n) (k := 2 * n + 1)
  have b := less1_le (L := L) (n := less1 L n (2 * n + 1)) (k := 2 * n + 2)
  have hm : less1 L n (2 * n + 1) < L.length := less1_lt hn
  obtain ⟨w, hw⟩ : ∃ w, L[less1 L n (2 * n + 1)]? = some w := ⟨_, List.getElem?_eq_getElem hm⟩
  refine ⟨fun u v hu hv => ?_, fun u v hu hv => ?_, b.2⟩
  · exact cmpItem_trans (pos_at hp hu) (pos_at hp hw) (pos_at hp hv) (b.1 u w hu hw) (a.1 w v hw hv)
  · exact cmpItem_trans (pos_at hp hu) (pos_at hp hw) (pos_at hp hv) (b.1 u w hu hw) (a.2 w v hw hv)

theorem leastL_is {L : List Item} {n : Nat} (h : leastL L n ≠ n) : leastL L n = 2 * n + 1 ∨ leastL L n = 2 * n + 2 := by
  unfold leastL at h ⊢
  rcases less1_ge (L := L) (n := less1 L n (2 * n + 1)) (k := 2 * n + 2) with e | e
  · rw [e] at h ⊢
    rcases less1_ge (L := L) (n := n) (k := 2 * n + 1) with e2 | e2
    · exact absurd e2 h
    · exact .inl e2
  · exact .inr e

theorem sink_heap : ∀ (f n : Nat) (L : List Item), L.length ≤ f + n → AllPos L → HpS L n → Hp (sinkL f L n)
  | 0, n, L, h, hp, hS => by
    simp only [sinkL]
    intro i hi
    by_cases e : (i - 1) / 2 = n
    · intro u v hu hv
      have : i < L.length := (List.getElem?_eq_some_iff.1 hv).1
      omega
    · exact hS.1 i hi e
  | f + 1, n, L, h, hp, hS => by
    simp only [sinkL]
    by_cases hn : n < L.length
    · have hl := leastL_le hp hn
      split
      · rename_i e
        rw [e] at hl
        intro i hi
        by_cases e2 : (i - 1) / 2 = n
        · rw [e2]
          rcases (by omega : i = 2 * n + 1 ∨ i = 2 * n + 2) with e3 | e3
          · rw [e3]; exact hl.2.1
          · rw [e3]; exact hl.2.2
        · exact hS.1 i hi e2
      · rename_i e
        have hm := leastL_lt hn
        have hi2 := leastL_is e
        generalize leastL L n = m at *
        split
        · rename_i x y hx hy
          refine sink_heap f m _ (by rw [swapL_length]; omega) (swapL_pos hp hx hy) ⟨?_, ?_⟩
          · intro i hi hne u v hu hv
            rw [swapL_get hx hy] at hu hv
            by_cases e1 : i = m
            · subst e1
              rw [if_neg (by omega), if_pos rfl] at hv; cases hv
              rw [if_pos (by omega)] at hu; cases hu
              exact hl.1 x y hx hy
            · by_cases e2 : (i - 1) / 2 = n
              · rw [if_pos e2] at hu; cases hu
                rw [if_neg (by omega), if_neg e1] at hv
                rcases (by omega : i = 2 * n + 1 ∨ i = 2 * n + 2) with e3 | e3
                · rw [e3] at hv; exact hl.2.1 x v hx hv
                · rw [e3] at hv; exact hl.2.2 x v hx hv
              · rw [if_neg e2, if_neg hne] at hu
                by_cases e3 : i = n
                · subst e3
                  rw [if_pos rfl] at hv; cases hv
                  exact hS.2 hi m (by omega) (by omega) u x hu hx
                · rw [if_neg e3, if_neg e1] at hv
                  exact hS.1 i hi e2 u v hu hv
          · intro h0 i hi he u v hu hv
            rw [swapL_get hx hy] at hu hv
            rw [if_pos (by omega)] at hu; cases hu
            rw [if_neg (by omega), if_neg (by omega)] at hv
            exact hS.1 i hi (by omega) x v (by rw [he]; exact hx) hv
        · rename_i hno
          exact absurd (hno _ _ (List.getElem?_eq_getElem hm) (List.getElem?_eq_getElem hn)) id
    · have e : leastL L n = n := by
        have g : L[n]? = none := List.getElem?_eq_none (by omega)
        have e1 : ∀ k, less1 L n k = n := fun k => by
          unfold less1
          rw [g]
          split <;> first | rfl | (rename_i q; cases q)
        unfold leastL
        rw [e1, e1]
      rw [if_pos e]
      intro i hi
      by_cases e : (i - 1) / 2 = n
      · intro u v hu hv
        have : i < L.length := (List.getElem?_eq_some_iff.1 hv).1
        omega
      · exact hS.1 i hi e

theorem Hp.over {L : List Item} (h : Hp L) (hp : AllPos L) {n : Nat} (hn : n < L.length) : Over L n := fun h0 i hi he u v hu hv => by
  obtain ⟨w, hw⟩ : ∃ w, L[n]? = some w := ⟨_, List.getElem?_eq_getElem hn⟩
  exact cmpItem_trans (pos_at hp hu) (pos_at hp hw) (pos_at hp hv) (h n h0 u w hu hw) (h i hi w v (by rw [he]; exact hw) hv)

theorem Hp.toS {L : List Item} (h : Hp L) (hp : AllPos L) {n : Nat} (hn : n < L.length) : HpS L n := ⟨fun i hi _ => h i hi, h.over hp hn⟩

/-- A list that is one heap but at one place. -/
theorem Hp.toX {L M : List Item} (h : Hp L) (hp : AllPos L) {n : Nat} (hn : n < L.length) (hM : ∀ i v, i ≠ n → M[i]? = some v → L[i]? = some v) : HpX M n := by
  constructor
  · intro i hi h1 h2 u v hu hv
    exact h i hi u v (hM _ _ h2 hu) (hM _ _ h1 hv)
  · intro h0 i hi he u v hu hv
    exact h.over hp hn h0 i hi he u v (hM _ _ (by omega) hu) (hM _ _ (by omega) hv)

theorem fix {L : List Item} {n k : Nat} (hX : HpX L n) (hp : AllPos L) (hn : n < L.length) (hk : n < k) : (riseL k L n = L ∧ HpS L n) ∨ Hp (riseL k L n) := by
  cases k with
  | zero => omega
  | succ k =>
    by_cases h0 : n = 0
    · subst h0
      refine .inl ⟨by simp [riseL], fun i hi h1 => hX.1 i hi (by omega) h1, fun h => absurd h (by omega)⟩
    · obtain ⟨x, hx⟩ : ∃ x, L[(n - 1) / 2]? = some x := ⟨_, List.getElem?_eq_getElem (by omega)⟩
      obtain ⟨y, hy⟩ : ∃ y, L[n]? = some y := ⟨_, List.getElem?_eq_getElem hn⟩
      by_cases hc : cmpItem x y ≤ 0
      · refine .inl ⟨by simp [riseL, h0, hx, hy, hc], fun i hi h1 => ?_, hX.2⟩
        by_cases e : i = n
        · subst e
          intro u v hu hv
          rw [hx] at hu; rw [hy] at hv; cases hu; cases hv
          exact hc
        · exact hX.1 i hi e h1
      · refine .inr (rise_heap (k + 1) n L hk hn hp ⟨fun i hi h1 => ?_, hX.2⟩)
        by_cases e : (i - 1) / 2 = n
        · intro u v hu hv
          rw [e, hy] at hu; cases hu
          exact cmpItem_trans (pos_at hp hy) (pos_at hp hx) (pos_at hp hv) ((cmpItem_total x y).resolve_left hc) (hX.2 (by omega) i hi e x v hx hv)
        · exact hX.1 i hi h1 e

theorem riseL_pos : ∀ (k : Nat) (L : List Item) (n : Nat), AllPos L → AllPos (riseL k L n)
  | 0, _, _, h => h
  | k + 1, L, n, h => by
    simp only [riseL]
    split
    · exact h
    · split
      · rename_i h1 h2
        split
        · exact h
        · exact riseL_pos k _ _ (swapL_pos h h1 h2)
      · exact h

/-- The root is least. -/
theorem Hp.root {L : List Item} (h : Hp L) (hp : AllPos L) : ∀ i, LeA L 0 i := by
  intro i
  induction i using Nat.strongRecOn with
  | _ i ih =>
    by_cases h0 : i = 0
    · subst h0; exact LeA.refl
    · intro u v hu hv
      have hi : i < L.length := (List.getElem?_eq_some_iff.1 hv).1
      obtain ⟨w, hw⟩ : ∃ w, L[(i - 1) / 2]? = some w := ⟨_, List.getElem?_eq_getElem (by omega)⟩
      exact cmpItem_trans (pos_at hp hu) (pos_at hp hw) (pos_at hp hv) (ih _ (by omega) u w hu hw) (h i (by omega) w v hw hv)

end Go.Ab
