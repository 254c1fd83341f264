/- The plain law of heaps: what Put, Set and out leave. -/
import Derived.Test.YtlipmhhndhhgdaaLb
set_option linter.unusedSimpArgs false
set_option linter.unusedVariables false
namespace Go.Ab

/-- No two places have one ID. -/
def Dist (L : List Item) : Prop := ∀ (i j : Nat) (x y : Item), L[i]? = some x → L[j]? = some y → x.id = y.id → i = j
theorem Idx.dist {L : List Item} {f : Int → Option Int} (h : Idx L f) : Dist L := fun _ _ _ _ hi hj e => h.inj hi hj e

theorem swapL_mem_iff {L : List Item} {i j : Nat} {x y z : Item} (hi : L[i]? = some x) (hj : L[j]? = some y) : z ∈ swapL L i j x y ↔ z ∈ L := by
  refine ⟨fun h => ?_, swapL_mem hi hj⟩
  obtain ⟨q, hq⟩ := List.getElem?_of_mem h
  rw [swapL_get hi hj] at hq
  split at hq
  · cases hq; exact List.mem_of_getElem? hi
  · split at hq
    · cases hq; exact List.mem_of_getElem? hj
    · exact List.mem_of_getElem? hq

theorem riseL_mem_iff {z : Item} : ∀ (k : Nat) (L : List Item) (n : Nat), z ∈ riseL k L n ↔ z ∈ L
  | 0, _, _ => Iff.rfl
  | k + 1, L, n => by
    simp only [riseL]
    split
    · exact Iff.rfl
    · split
      · rename_i h1 h2
        split
        · exact Iff.rfl
        · exact (riseL_mem_iff k _ _).trans (swapL_mem_iff h1 h2)
      · exact Iff.rfl

theorem sinkL_mem_iff {z : Item} : ∀ (k : Nat) (L : List Item) (n : Nat), z ∈ sinkL k L n ↔ z ∈ L
  | 0, _, _ => Iff.rfl
  | k + 1, L, n => by
    simp only [sinkL]
    split
    · exact Iff.rfl
    · split
      · rename_i h1 h2
        exact (sinkL_mem_iff k _ _).trans (swapL_mem_iff h1 h2)
      · exact Iff.rfl

theorem sinkL_length' : ∀ (k : Nat) (L : List Item) (n : Nat), (sinkL k L n).length = L.length
  | 0, _, _ => rfl
  | k + 1, L, n => by
    simp only [sinkL]
    split
    · rfl
    · split
      · rw [sinkL_length', swapL_length]
      · rfl

theorem mem_set_iff {L : List Item} (hd : Dist L) {n : Nat} {x y z : Item} (hx : L[n]? = some x) : z ∈ L.set n y ↔ z = y ∨ z ∈ L ∧ z.id ≠ x.id := by
  have hn : n < L.length := (List.getElem?_eq_some_iff.1 hx).1
  constructor
  · intro h
    obtain ⟨q, hq⟩ := List.getElem?_of_mem h
    by_cases e : q = n
    · subst e
      rw [List.getElem?_set_self hn] at hq; cases hq
      exact .inl rfl
    · rw [List.getElem?_set_ne (Ne.symm e)] at hq
      exact .inr ⟨List.mem_of_getElem? hq, fun h => e (hd q n z x hq hx h)⟩
  · rintro (rfl | ⟨h, hne⟩)
    · exact List.mem_of_getElem? (i := n) (List.getElem?_set_self hn)
    · obtain ⟨q, hq⟩ := List.getElem?_of_mem h
      have e : q ≠ n := fun e => by
        subst e; rw [hx] at hq; cases hq; exact hne rfl
      exact List.mem_of_getElem? (i := q) (by rw [List.getElem?_set_ne (Ne.symm e)]; exact hq)

theorem AllPos.set {L : List Item} (h : AllPos L) {n : Nat} {y : Item} (hy : y.pos) : AllPos (L.set n y) := fun z hz => by
  rcases List.mem_or_eq_of_mem_set hz with h1 | h1
  · exact h z h1
  · rw [h1]; exact hy

theorem set_heap {L : List Item} (h : Hp L) (hp : AllPos L) (hd : Dist L) {n n2 : Nat} {x y z : Item} (hx : L[n]? = some x) (hid : y.id = x.id) (hy : y.pos) (hz : (riseL (n + 1) (L.set n y) n)[n2]? = some z) (hzi : z.id = x.id) :
    Hp (sinkL (L.length + 1) (riseL (n + 1) (L.set n y) n) n2) := by
  have hn : n < L.length := (List.getElem?_eq_some_iff.1 hx).1
  have hp1 := hp.set (n := n) hy
  have hX : HpX (L.set n y) n := h.toX hp hn fun i v hi hv => by rw [List.getElem?_set_ne (Ne.symm hi)] at hv; exact hv
  have hl : (riseL (n + 1) (L.set n y) n).length = L.length := by rw [riseL_length, List.length_set]
  have hp2 := riseL_pos (n + 1) _ n hp1
  rcases fix hX hp1 (by rw [List.length_set]; exact hn) (Nat.lt_succ_self n) with ⟨e, hS⟩ | hH
  · rw [e] at hz ⊢
    have e2 : n2 = n := by
      by_cases e3 : n2 = n
      · exact e3
      · rw [List.getElem?_set_ne (Ne.symm e3)] at hz
        exact hd _ _ _ _ hz hx hzi
    subst e2
    exact sink_heap _ _ _ (by rw [List.length_set]; omega) hp1 hS
  · exact sink_heap _ _ _ (by omega) hp2 (hH.toS hp2 (List.getElem?_eq_some_iff.1 hz).1)

theorem put_heap {L : List Item} (h : Hp L) (hp : AllPos L) {y : Item} (hy : y.pos) : Hp (riseL (L.length + 1) (L ++ [y]) L.length) := by
  refine rise_heap _ _ _ (by omega) (by simp) (fun z hz => ?_) ⟨fun i hi hne u v hu hv => ?_, fun _ i hi he u v hu hv => ?_⟩
  · rcases List.mem_append.1 hz with h1 | h1
    · exact hp z h1
    · simp only [List.mem_singleton] at h1
      rw [h1]; exact hy
  · have hl := (List.getElem?_eq_some_iff.1 hv).1
    simp only [List.length_append, List.length_singleton] at hl
    rw [List.getElem?_append_left (by omega)] at hu hv
    exact h i hi u v hu hv
  · have hl := (List.getElem?_eq_some_iff.1 hv).1
    simp only [List.length_append, List.length_singleton] at hl
    omega

theorem Hp.single {y : Item} : Hp [y] := fun i hi u v _ hv => by
  have hl := (List.getElem?_eq_some_iff.1 hv).1
  simp only [List.length_singleton] at hl
  omega

theorem out_heap {L : List Item} (h : Hp L) (hp : AllPos L) {n : Nat} {x : Item} (hx : L[n]? = some x) : Hp (outL L n) := by
  have hn : n < L.length := (List.getElem?_eq_some_iff.1 hx).1
  obtain ⟨y, hy⟩ : ∃ y, L[L.length - 1]? = some y := ⟨_, List.getElem?_eq_getElem (by omega)⟩
  simp only [outL, hx, hy]
  have hM : ∀ i v, i ≠ n → ((swapL L n (L.length - 1) x y).take (L.length - 1))[i]? = some v → L[i]? = some v := fun i v hi hv => by
    have hl := (List.getElem?_eq_some_iff.1 hv).1
    rw [List.length_take, swapL_length] at hl
    rw [List.getElem?_take_of_lt (by omega), swapL_get hx hy, if_neg (by omega), if_neg hi] at hv
    exact hv
  have hp1 : AllPos ((swapL L n (L.length - 1) x y).take (L.length - 1)) := fun z hz => swapL_pos hp hx hy z (List.mem_of_mem_take hz)
  have hX := h.toX hp hn hM
  split
  · rename_i hlt
    have hl1 : ((swapL L n (L.length - 1) x y).take (L.length - 1)).length = L.length - 1 := by rw [List.length_take, swapL_length]; omega
    have hp2 := riseL_pos (n + 1) _ n hp1
    rcases fix hX hp1 (by omega) (Nat.lt_succ_self n) with ⟨e, hS⟩ | hH
    · rw [e]
      exact sink_heap _ _ _ (by omega) hp1 hS
    · exact sink_heap _ _ _ (by rw [riseL_length]; omega) hp2 (hH.toS hp2 (by rw [riseL_length]; omega))
  · rename_i hlt
    intro i hi u v hu hv
    have hl := (List.getElem?_eq_some_iff.1 hv).1
    rw [List.length_take, swapL_length] at hl
    exact h i hi u v (hM _ _ (by omega) hu) (hM _ _ (by omega) hv)

theorem outL_length {L : List Item} {n : Nat} {x : Item} (hx : L[n]? = some x) : (outL L n).length = L.length - 1 := by
  have hn : n < L.length := (List.getElem?_eq_some_iff.1 hx).1
  obtain ⟨y, hy⟩ : ∃ y, L[L.length - 1]? = some y := ⟨_, List.getElem?_eq_getElem (by omega)⟩
  simp only [outL, hx, hy]
  split
  · rw [sinkL_length', riseL_length, List.length_take, swapL_length]; omega
  · rw [List.length_take, swapL_length]; omega

theorem outL_mem {L : List Item} (hd : Dist L) {n : Nat} {x z : Item} (hx : L[n]? = some x) : z ∈ outL L n ↔ z ∈ L ∧ z.id ≠ x.id := by
  have hn : n < L.length := (List.getElem?_eq_some_iff.1 hx).1
  obtain ⟨y, hy⟩ : ∃ y, L[L.length - 1]? = some y := ⟨_, List.getElem?_eq_getElem (by omega)⟩
  have key : z ∈ (swapL L n (L.length - 1) x y).take (L.length - 1) ↔ z ∈ L ∧ z.id ≠ x.id := by
    constructor
    · intro h
      obtain ⟨q, hq⟩ := List.getElem?_of_mem h
      have hl := (List.getElem?_eq_some_iff.1 hq).1
      rw [List.length_take, swapL_length] at hl
      rw [List.getElem?_take_of_lt (by omega), swapL_get hx hy, if_neg (by omega)] at hq
      split at hq
      · cases hq
        refine ⟨List.mem_of_getElem? hy, fun e => ?_⟩
        have := hd _ _ _ _ hy hx e
        omega
      · rename_i hne
        exact ⟨List.mem_of_getElem? hq, fun e => hne (hd _ _ _ _ hq hx e)⟩
    · rintro ⟨h, hne⟩
      obtain ⟨q, hq⟩ := List.getElem?_of_mem h
      have hql := (List.getElem?_eq_some_iff.1 hq).1
      have e : q ≠ n := fun e => by
        subst e; rw [hx] at hq; cases hq; exact hne rfl
      by_cases e2 : q = L.length - 1
      · subst e2
        rw [hy] at hq; cases hq
        refine List.mem_of_getElem? (i := n) ?_
        rw [List.getElem?_take_of_lt (by omega), swapL_get hx hy, if_neg (Ne.symm e), if_pos rfl]
      · refine List.mem_of_getElem? (i := q) ?_
        rw [List.getElem?_take_of_lt (by omega), swapL_get hx hy, if_neg e2, if_neg e]
        exact hq
  simp only [outL, hx, hy]
  split
  · rw [sinkL_mem_iff, riseL_mem_iff]; exact key
  · exact key

end Go.Ab
