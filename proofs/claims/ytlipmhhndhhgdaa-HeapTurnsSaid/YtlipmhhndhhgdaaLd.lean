/- The plain law of HeapTurns: items that were put by number, all of one key in the end, are taken by number. -/
import Derived.Test.YtlipmhhndhhgdaaLc
set_option linter.unusedSimpArgs false
set_option linter.unusedVariables false
namespace Go.Ab

/-- n items of the numbers 0 to n - 1; each was put as the one that its number says. -/
structure I1 (L : List Item) (n : Nat) : Prop where
  hp : Hp L
  len : L.length = n
  mem : ∀ x ∈ L, 0 ≤ x.id ∧ x.id < n ∧ x.turn = x.id + 1
  all : ∀ j : Nat, j < n → ∃ x ∈ L, x.id = j

theorem I1.nil : I1 [] 0 := ⟨fun i hi u v hu _ => by simp at hu, rfl, fun x hx => by simp at hx, fun j hj => by omega⟩

theorem I1.put {L : List Item} {n : Nat} (h : I1 L n) (hp : AllPos L) (kn kd : Int) (hk : 0 < kd) : I1 (riseL (L.length + 1) (L ++ [⟨n, kn, kd, n + 1⟩]) L.length) (n + 1) where
  hp := put_heap h.hp hp hk
  len := by rw [riseL_length, List.length_append, h.len]; rfl
  mem x hx := by
    rw [riseL_mem_iff, List.mem_append, List.mem_singleton] at hx
    rcases hx with hx | rfl
    · have := h.mem x hx
      omega
    · exact ⟨Int.natCast_nonneg n, by show (n : Int) < ((n + 1 : Nat) : Int); omega, rfl⟩
  all j hj := by
    by_cases e : j < n
    · obtain ⟨x, hx, hi⟩ := h.all j e
      exact ⟨x, by rw [riseL_mem_iff, List.mem_append]; exact .inl hx, hi⟩
    · refine ⟨⟨n, kn, kd, n + 1⟩, by rw [riseL_mem_iff, List.mem_append, List.mem_singleton]; exact .inr rfl, ?_⟩
      simp only; omega

theorem I1.first (kn kd : Int) : I1 [⟨0, kn, kd, 0 + 1⟩] 1 where
  hp := Hp.single
  len := rfl
  mem x hx := by
    rw [List.mem_singleton] at hx
    subst hx
    simp
  all j hj := ⟨_, List.mem_singleton.2 rfl, by simp only; omega⟩

/-- What stands behind Set of the item at a place. -/
def setL (L : List Item) (n n2 : Nat) (y : Item) : List Item := sinkL (L.length + 1) (riseL (n + 1) (L.set n y) n) n2

theorem setL_mem {L : List Item} (hd : Dist L) {n n2 : Nat} {x y z : Item} (hx : L[n]? = some x) : z ∈ setL L n n2 y ↔ z = y ∨ z ∈ L ∧ z.id ≠ x.id := by
  unfold setL
  rw [sinkL_mem_iff, riseL_mem_iff, mem_set_iff hd hx]

theorem setL_length {L : List Item} {n n2 : Nat} {y : Item} : (setL L n n2 y).length = L.length := by
  unfold setL
  rw [sinkL_length', riseL_length, List.length_set]

theorem I1.set {L : List Item} {m : Nat} (h : I1 L m) (hp : AllPos L) (hd : Dist L) {n n2 : Nat} {x z : Item} (hx : L[n]? = some x) (kn kd : Int) (hk : 0 < kd) (hz : (riseL (n + 1) (L.set n (x.key kn kd)) n)[n2]? = some z) (hzi : z.id = x.id) :
    I1 (setL L n n2 (x.key kn kd)) m where
  hp := set_heap h.hp hp hd hx rfl hk hz hzi
  len := setL_length.trans h.len
  mem y hy := by
    rw [setL_mem hd hx] at hy
    rcases hy with rfl | ⟨hy, _⟩
    · exact h.mem x (List.mem_of_getElem? hx)
    · exact h.mem y hy
  all j hj := by
    obtain ⟨y, hy, hi⟩ := h.all j hj
    by_cases e : y.id = x.id
    · exact ⟨x.key kn kd, (setL_mem hd hx).2 (.inl rfl), e ▸ hi⟩
    · exact ⟨y, (setL_mem hd hx).2 (.inr ⟨hy, e⟩), hi⟩

/-- The items of number 0 and of the numbers above i have this key. -/
def Keyed (L : List Item) (i : Int) (kn kd : Int) : Prop := ∀ x ∈ L, (x.id = 0 ∨ i < x.id) → x.n = kn ∧ x.d = kd

theorem Keyed.first {L : List Item} {m : Nat} (h : I1 L m) (hd : Dist L) {n n2 : Nat} {x : Item} (hx : L[n]? = some x) (h0 : x.id = 0) (kn kd : Int) : Keyed (setL L n n2 (x.key kn kd)) ((m : Int) - 1) kn kd := fun y hy hi => by
  rw [setL_mem hd hx] at hy
  rcases hy with rfl | ⟨hy, hne⟩
  · exact ⟨rfl, rfl⟩
  · have := h.mem y hy
    omega

theorem Keyed.next {L : List Item} {i : Int} {kn kd : Int} (h : Keyed L i kn kd) (hd : Dist L) {n n2 : Nat} {x : Item} (hx : L[n]? = some x) (h0 : x.id = i) : Keyed (setL L n n2 (x.key kn kd)) (i - 1) kn kd := fun y hy hi => by
  rw [setL_mem hd hx] at hy
  rcases hy with rfl | ⟨hy, hne⟩
  · exact ⟨rfl, rfl⟩
  · exact h y hy (by omega)

/-- What is left behind i Takes. -/
structure I3 (L : List Item) (m i : Nat) (kn kd : Int) : Prop where
  hp : Hp L
  len : L.length = m - i
  mem : ∀ x ∈ L, (i : Int) ≤ x.id ∧ x.id < m ∧ x.turn = x.id + 1 ∧ x.n = kn ∧ x.d = kd
  all : ∀ j : Nat, i ≤ j → j < m → ∃ x ∈ L, x.id = j

theorem I1.done {L : List Item} {m : Nat} {kn kd : Int} (h : I1 L m) (k : Keyed L 0 kn kd) : I3 L m 0 kn kd where
  hp := h.hp
  len := h.len
  mem x hx := by
    have a := h.mem x hx
    have b := k x hx (by omega)
    exact ⟨by simpa using a.1, a.2.1, a.2.2, b.1, b.2⟩
  all j _ hj := h.all j hj

theorem I3.root {L : List Item} {m i : Nat} {kn kd : Int} (h : I3 L m i kn kd) (hp : AllPos L) (hi : i < m) : ∃ x, L[0]? = some x ∧ x = ⟨i, kn, kd, i + 1⟩ := by
  obtain ⟨x, hx⟩ : ∃ x, L[0]? = some x := ⟨_, List.getElem?_eq_getElem (by have := h.len; omega)⟩
  refine ⟨x, hx, ?_⟩
  obtain ⟨y, hy, hyi⟩ := h.all i (Nat.le_refl _) hi
  obtain ⟨j, hj⟩ := List.getElem?_of_mem hy
  have hle := h.hp.root hp j x y hx hj
  have a := h.mem x (List.mem_of_getElem? hx)
  have b := h.mem y hy
  rw [cmpItem_le, a.2.2.2.1, a.2.2.2.2, b.2.2.2.1, b.2.2.2.2] at hle
  obtain ⟨xi, xn, xd, xt⟩ := x
  simp only at a hle
  obtain ⟨a1, a2, a3, rfl, rfl⟩ := a
  have : xi = i := by omega
  subst this
  rw [a3]

theorem I3.take {L : List Item} {m i : Nat} {kn kd : Int} (h : I3 L m i kn kd) (hp : AllPos L) (hd : Dist L) (hi : i < m) : I3 (outL L 0) m (i + 1) kn kd := by
  obtain ⟨x, hx, rfl⟩ := h.root hp hi
  refine ⟨out_heap h.hp hp hx, by rw [outL_length hx, h.len]; omega, fun y hy => ?_, fun j hj hjm => ?_⟩
  · rw [outL_mem hd hx] at hy
    have := h.mem y hy.1
    have h2 := hy.2
    simp only at h2
    exact ⟨by omega, this.2⟩
  · obtain ⟨y, hy, hyi⟩ := h.all j (by omega) hjm
    refine ⟨y, (outL_mem hd hx).2 ⟨hy, ?_⟩, hyi⟩
    simp only
    omega

end Go.Ab
