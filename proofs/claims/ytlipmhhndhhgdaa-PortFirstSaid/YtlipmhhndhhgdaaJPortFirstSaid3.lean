/- The plain law of heaps: what Put, Set and out leave. The plain law of HeapTurns: items that were put by number, all of one key in the end, are taken by number. Fractions of whole numbers by one number, without a common divisor; their sums. Packets in a ring: lists and their cells. What a tick of a port sends, as a relation on lists. A heap with or without a list, and what its calls leave; lookups in frames that are not spelt out. What code must lead to, as a function of the code: 'simp' unfolds it; calls with an answer that is only known to exist are steps of the proof. The functions and types of the seat's program as trees, and the runner of whole calls over them. The tables of the drawn regions, one by one. What 'simp' is told of the program's types and functions. What 'simp' is told of 'wp'. Loops by a measure; frames of which only some places are known. rat, without its panics: what is made of one, of two fractions. Ranges over functions, in the second layer: the statement, its rounds, its mark. Maps of numbers to values of any kind, as the abstract heap holds them. -/
import Derived.Test.YtlipmhhndhhgdaaJPortFirstSaid2
import Init
import Derived.Test.YtlipmhhndhhgdaaJPortFirstSaid1
import Derived.Test.YtlipmhhndhhgdaaProg
import Derived.KernelRfl

set_option linter.unusedSimpArgs false
set_option linter.unusedVariables false
namespace Go.Ab

/-- No two places have one ID. -/
def Dist (L : List Item) : Prop := ∀ (i j : Nat) (x y : Item), L[i]? = some x → L[j]? = some y → x.id = y.id → i = j
theorem Idx.dist {L : List Item} {f : Int → Option Int} (h : Idx L f) : Dist L := fun _ _ _ _ hi hj e => h.inj hi hj e

theorem swapL_mem_iff {L : List Item} {i j : Nat} {x y z : Item} (hi : L[i]? = some x) (hj : L[j]? = some y) : z ∈ swapL L i j x y ↔ z ∈ L := by
  refine ⟨fun h => ?_, swapL_mem hi hj⟩
  obtain ⟨q, hq⟩ := List.getElem?_of_mem h
  rw [swapL_get hi hj] at hq
  split at hq
  · cases hq; exact List.mem_of_getElem? hi
  · split at hq
    · cases hq; exact List.mem_of_getElem? hj
    · exact List.mem_of_getElem? hq

theorem riseL_mem_iff {z : Item} : ∀ (k : Nat) (L : List Item) (n : Nat), z ∈ riseL k L n ↔ z ∈ L
  | 0, _, _ => Iff.rfl
  | k + 1, L, n => by
    simp only [riseL]
    split
    · exact Iff.rfl
    · split
      · rename_i h1 h2
        split
        · exact Iff.rfl
        · exact (riseL_mem_iff k _ _).trans (swapL_mem_iff h1 h2)
      · exact Iff.rfl

theorem sinkL_mem_iff {z : Item} : ∀ (k : Nat) (L : List Item) (n : Nat), z ∈ sinkL k L n ↔ z ∈ L
  | 0, _, _ => Iff.rfl
  | k + 1, L, n => by
    simp only [sinkL]
    split
    · exact Iff.rfl
    · split
      · rename_i h1 h2
        exact (sinkL_mem_iff k _ _).trans (swapL_mem_iff h1 h2)
      · exact Iff.rfl

theorem sinkL_length' : ∀ (k : Nat) (L : List Item) (n : Nat), (sinkL k L n).length = L.length
  | 0, _, _ => rfl
  | k + 1, L, n => by
    simp only [sinkL]
    split
    · rfl
    · split
      · rw [sinkL_length', swapL_length]
      · rfl

theorem mem_set_iff {L : List Item} (hd : Dist L) {n : Nat} {x y z : Item} (hx : L[n]? = some x) : z ∈ L.set n y ↔ z = y ∨ z ∈ L ∧ z.id ≠ x.id := by
  have hn : n < L.length := (List.getElem?_eq_some_iff.1 hx).1
  constructor
  · intro h
    obtain ⟨q, hq⟩ := List.getElem?_of_mem h
    by_cases e : q = n
    · subst e
      rw [List.getElem?_set_self hn] at hq; cases hq
      exact .inl rfl
    · rw [List.getElem?_set_ne (Ne.symm e)] at hq
      exact .inr ⟨List.mem_of_getElem? hq, fun h => e (hd q n z x hq hx h)⟩
  · rintro (rfl | ⟨h, hne⟩)
    · exact List.mem_of_getElem? (i := n) (List.getElem?_set_self hn)
    · obtain ⟨q, hq⟩ := List.getElem?_of_mem h
      have e : q ≠ n := fun e => by
        subst e; rw [hx] at hq; cases hq; exact hne rfl
      exact List.mem_of_getElem? (i := q) (by rw [List.getElem?_set_ne (Ne.symm e)]; exact hq)

theorem AllPos.set {L : List Item} (h : AllPos L) {n : Nat} {y : Item} (hy : y.pos) : AllPos (L.set n y) := fun z hz => by
  rcases List.mem_or_eq_of_mem_set hz with h1 | h1
  · exact h z h1
  · rw [h1]; exact hy

theorem set_heap {L : List Item} (h : Hp L) (hp : AllPos L) (hd : Dist L) {n n2 : Nat} {x y z : Item} (hx : L[n]? = some x) (hid : y.id = x.id) (hy : y.pos) (hz : (riseL (n + 1) (L.set n y) n)[n2]? = some z) (hzi : z.id = x.id) :
    Hp (sinkL (L.length + 1) (riseL (n + 1) (L.set n y) n) n2) := by
  have hn : n < L.length := (List.getElem?_eq_some_iff.1 hx).1
  have hp1 := hp.set (n := n) hy
  have hX : HpX (L.set n y) n := h.toX hp hn fun i v hi hv => by rw [List.getElem?_set_ne (Ne.symm hi)] at hv; exact hv
  have hl : (riseL (n + 1) (L.set n y) n).length = L.length := by rw [riseL_length, List.length_set]
  have hp2 := riseL_pos (n + 1) _ n hp1
  rcases fix hX hp1 (by rw [List.length_set]; exact hn) (Nat.lt_succ_self n) with ⟨e, hS⟩ | hH
  · rw [e] at hz ⊢
    have e2 : n2 = n := by
      by_cases e3 : n2 = n
      · exact e3
      · rw [List.getElem?_set_ne (Ne.symm e3)] at hz
        exact hd _ _ _ _ hz hx hzi
    subst e2
    exact sink_heap _ _ _ (by rw [List.length_set]; omega) hp1 hS
  · exact sink_heap _ _ _ (by omega) hp2 (hH.toS hp2 (List.getElem?_eq_some_iff.1 hz).1)

theorem put_heap {L : List Item} (h : Hp L) (hp : AllPos L) {y : Item} (hy : y.pos) : Hp (riseL (L.length + 1) (L ++ [y]) L.length) := by
  refine rise_heap _ _ _ (by omega) (by simp) (fun z hz => ?_) ⟨fun i hi hne u v hu hv => ?_, fun _ i hi he u v hu hv => ?_⟩
  · rcases List.mem_append.1 hz with h1 | h1
    · exact hp z h1
    · simp only [List.mem_singleton] at h1
      rw [h1]; exact hy
  · have hl := (List.getElem?_eq_some_iff.1 hv).1
    simp only [List.length_append, List.length_singleton] at hl
    rw [List.getElem?_append_left (by omega)] at hu hv
    exact h i hi u v hu hv
  · have hl := (List.getElem?_eq_some_iff.1 hv).1
    simp only [List.length_append, List.length_singleton] at hl
    omega

theorem Hp.single {y : Item} : Hp [y] := fun i hi u v _ hv => by
  have hl := (List.getElem?_eq_some_iff.1 hv).1
  simp only [List.length_singleton] at hl
  omega

theorem out_heap {L : List Item} (h : Hp L) (hp : AllPos L) {n : Nat} {x : Item} (hx : L[n]? = some x) : Hp (outL L n) := by
  have hn : n < L.length := (List.getElem?_eq_some_iff.1 hx).1
  obtain ⟨y, hy⟩ : ∃ y, L[L.length - 1]? = some y := ⟨_, List.getElem?_eq_getElem (by omega)⟩
  simp only [outL, hx, hy]
  have hM : ∀ i v, i ≠ n → ((swapL L n (L.length - 1) x y).take (L.length - 1))[i]? = some v → L[i]? = some v := fun i v hi hv => by
    have hl := (List.getElem?_eq_some_iff.1 hv).1
    rw [List.length_take, swapL_length] at hl
    rw [List.getElem?_take_of_lt (by omega), swapL_get hx hy, if_neg (by omega), if_neg hi] at hv
    exact hv
  have hp1 : AllPos ((swapL L n (L.length - 1) x y).take (L.length - 1)) := fun z hz => swapL_pos hp hx hy z (List.mem_of_mem_take hz)
  have hX := h.toX hp hn hM
  split
  · rename_i hlt
    have hl1 : ((swapL L n (L.length - 1) x y).take (L.length - 1)).length = L.length - 1 := by rw [List.length_take, swapL_length]; omega
    have hp2 := riseL_pos (n + 1) _ n hp1
    rcases fix hX hp1 (by omega) (Nat.lt_succ_self n) with ⟨e, hS⟩ | hH
    · rw [e]
      exact sink_heap _ _ _ (by omega) hp1 hS
    · exact sink_heap _ _ _ (by rw [riseL_length]; omega) hp2 (hH.toS hp2 (by rw [riseL_length]; omega))
  · rename_i hlt
    intro i hi u v hu hv
    have hl := (List.getElem?_eq_some_iff.1 hv).1
    rw [List.length_take, swapL_length] at hl
    exact h i hi u v (hM _ _ (by omega) hu) (hM _ _ (by omega) hv)

theorem outL_length {L : List Item} {n : Nat} {x : Item} (hx : L[n]? = some x) : (outL L n).length = L.length - 1 := by
  have hn : n < L.length := (List.getElem?_eq_some_iff.1 hx).1
  obtain ⟨y, hy⟩ : ∃ y, L[L.length - 1]? = some y := ⟨_, List.getElem?_eq_getElem (by omega)⟩
  simp only [outL, hx, hy]
  split
  · rw [sinkL_length', riseL_length, List.length_take, swapL_length]; omega
  · rw [List.length_take, swapL_length]; omega

theorem outL_mem {L : List Item} (hd : Dist L) {n : Nat} {x z : Item} (hx : L[n]? = some x) : z ∈ outL L n ↔ z ∈ L ∧ z.id ≠ x.id := by
  have hn : n < L.length := (List.getElem?_eq_some_iff.1 hx).1
  obtain ⟨y, hy⟩ : ∃ y, L[L.length - 1]? = some y := ⟨_, List.getElem?_eq_getElem (by omega)⟩
  have key : z ∈ (swapL L n (L.length - 1) x y).take (L.length - 1) ↔ z ∈ L ∧ z.id ≠ x.id := by
    constructor
    · intro h
      obtain ⟨q, hq⟩ := List.getElem?_of_mem h
      have hl := (List.getElem?_eq_some_iff.1 hq).1
      rw [List.length_take, swapL_length] at hl
      rw [List.getElem?_take_of_lt (by omega), swapL_get hx hy, if_neg (by omega)] at hq
      split at hq
      · cases hq
        refine ⟨List.mem_of_getElem? hy, fun e => ?_⟩
        have := hd _ _ _ _ hy hx e
        omega
      · rename_i hne
        exact ⟨List.mem_of_getElem? hq, fun e => hne (hd _ _ _ _ hq hx e)⟩
    · rintro ⟨h, hne⟩
      obtain ⟨q, hq⟩ := List.getElem?_of_mem h
      have hql := (List.getElem?_eq_some_iff.1 hq).1
      have e : q ≠ n := fun e => by
        subst e; rw [hx] at hq; cases hq; exact hne rfl
      by_cases e2 : q = L.length - 1
      · subst e2
        rw [hy] at hq; cases hq
        refine List.mem_of_getElem? (i := n) ?_
        rw [List.getElem?_take_of_lt (by omega), swapL_get hx hy, if_neg (Ne.symm e), if_pos rfl]
      · refine List.mem_of_getElem? (i := q) ?_
        rw [List.getElem?_take_of_lt (by omega), swapL_get hx hy, if_neg e2, if_neg e]
        exact hq
  simp only [outL, hx, hy]
  split
  · rw [sinkL_mem_iff, riseL_mem_iff]; exact key
  · exact key

end Go.Ab

set_option linter.unusedSimpArgs false
set_option linter.unusedVariables false
namespace Go.Ab

/-- n items of the numbers 0 to n - 1; each was put as the one that its number says. -/
structure I1 (L : List Item) (n : Nat) : Prop where
  hp : Hp L
  len : L.length = n
  mem : ∀ x ∈ L, 0 ≤ x.id ∧ x.id < n ∧ x.turn = x.id + 1
  all : ∀ j : Nat, j < n → ∃ x ∈ L, x.id = j

theorem I1.nil : I1 [] 0 := ⟨fun i hi u v hu _ => by simp at hu, rfl, fun x hx => by simp at hx, fun j hj => by omega⟩

theorem I1.put {L : List Item} {n : Nat} (h : I1 L n) (hp : AllPos L) (kn kd : Int) (hk : 0 < kd) : I1 (riseL (L.length + 1) (L ++ [⟨n, kn, kd, n + 1⟩]) L.length) (n + 1) where
  hp := put_heap h.hp hp hk
  len := by rw [riseL_length, List.length_append, h.len]; rfl
  mem x hx := by
    rw [riseL_mem_iff, List.mem_append, List.mem_singleton] at hx
    rcases hx with hx | rfl
    · have := h.mem x hx
      omega
    · exact ⟨Int.natCast_nonneg n, by show (n : Int) < ((n + 1 : Nat) : Int); omega, rfl⟩
  all j hj := by
    by_cases e : j < n
    · obtain ⟨x, hx, hi⟩ := h.all j e
      exact ⟨x, by rw [riseL_mem_iff, List.mem_append]; exact .inl hx, hi⟩
    · refine ⟨⟨n, kn, kd, n + 1⟩, by rw [riseL_mem_iff, List.mem_append, List.mem_singleton]; exact .inr rfl, ?_⟩
      simp only; omega

theorem I1.first (kn kd : Int) : I1 [⟨0, kn, kd, 0 + 1⟩] 1 where
  hp := Hp.single
  len := rfl
  mem x hx := by
    rw [List.mem_singleton] at hx
    subst hx
    simp
  all j hj := ⟨_, List.mem_singleton.2 rfl, by simp only; omega⟩

/-- What stands behind Set of the item at a place. -/
def setL (L : List Item) (n n2 : Nat) (y : Item) : List Item := sinkL (L.length + 1) (riseL (n + 1) (L.set n y) n) n2

theorem setL_mem {L : List Item} (hd : Dist L) {n n2 : Nat} {x y z : Item} (hx : L[n]? = some x) : z ∈ setL L n n2 y ↔ z = y ∨ z ∈ L ∧ z.id ≠ x.id := by
  unfold setL
  rw [sinkL_mem_iff, riseL_mem_iff, mem_set_iff hd hx]

theorem setL_length {L : List Item} {n n2 : Nat} {y : Item} : (setL L n n2 y).length = L.length := by
  unfold setL
  rw [sinkL_length', riseL_length, List.length_set]

theorem I1.set {L : List Item} {m : Nat} (h : I1 L m) (hp : AllPos L) (hd : Dist L) {n n2 : Nat} {x z : Item} (hx : L[n]? = some x) (kn kd : Int) (hk : 0 < kd) (hz : (riseL (n + 1) (L.set n (x.key kn kd)) n)[n2]? = some z) (hzi : z.id = x.id) :
    I1 (setL L n n2 (x.key kn kd)) m where
  hp := set_heap h.hp hp hd hx rfl hk hz hzi
  len := setL_length.trans h.len
  mem y hy := by
    rw [setL_mem hd hx] at hy
    rcases hy with rfl | ⟨hy, _⟩
    · exact h.mem x (List.mem_of_getElem? hx)
    · exact h.mem y hy
  all j hj := by
    obtain ⟨y, hy, hi⟩ := h.all j hj
    by_cases e : y.id = x.id
    · exact ⟨x.key kn kd, (setL_mem hd hx).2 (.inl rfl), e ▸ hi⟩
    · exact ⟨y, (setL_mem hd hx).2 (.inr ⟨hy, e⟩), hi⟩

/-- The items of number 0 and of the numbers above i have this key. -/
def Keyed (L : List Item) (i : Int) (kn kd : Int) : Prop := ∀ x ∈ L, (x.id = 0 ∨ i < x.id) → x.n = kn ∧ x.d = kd

theorem Keyed.first {L : List Item} {m : Nat} (h : I1 L m) (hd : Dist L) {n n2 : Nat} {x : Item} (hx : L[n]? = some x) (h0 : x.id = 0) (kn kd : Int) : Keyed (setL L n n2 (x.key kn kd)) ((m : Int) - 1) kn kd := fun y hy hi => by
  rw [setL_mem hd hx] at hy
  rcases hy with rfl | ⟨hy, hne⟩
  · exact ⟨rfl, rfl⟩
  · have := h.mem y hy
    omega

theorem Keyed.next {L : List Item} {i : Int} {kn kd : Int} (h : Keyed L i kn kd) (hd : Dist L) {n n2 : Nat} {x : Item} (hx : L[n]? = some x) (h0 : x.id = i) : Keyed (setL L n n2 (x.key kn kd)) (i - 1) kn kd := fun y hy hi => by
  rw [setL_mem hd hx] at hy
  rcases hy with rfl | ⟨hy, hne⟩
  · exact ⟨rfl, rfl⟩
  · exact h y hy (by omega)

/-- What is left behind i Takes. -/
structure I3 (L : List Item) (m i : Nat) (kn kd : Int) : Prop where
  hp : Hp L
  len : L.length = m - i
  mem : ∀ x ∈ L, (i : Int) ≤ x.id ∧ x.id < m ∧ x.turn = x.id + 1 ∧ x.n = kn ∧ x.d = kd
  all : ∀ j : Nat, i ≤ j → j < m → ∃ x ∈ L, x.id = j

theorem I1.done {L : List Item} {m : Nat} {kn kd : Int} (h : I1 L m) (k : Keyed L 0 kn kd) : I3 L m 0 kn kd where
  hp := h.hp
  len := h.len
  mem x hx := by
    have a := h.mem x hx
    have b := k x hx (by omega)
    exact ⟨by simpa using a.1, a.2.1, a.2.2, b.1, b.2⟩
  all j _ hj := h.all j hj

theorem I3.root {L : List Item} {m i : Nat} {kn kd : Int} (h : I3 L m i kn kd) (hp : AllPos L) (hi : i < m) : ∃ x, L[0]? = some x ∧ x = ⟨i, kn, kd, i + 1⟩ := by
  obtain ⟨x, hx⟩ : ∃ x, L[0]? = some x := ⟨_, List.getElem?_eq_getElem (by have := h.len; omega)⟩
  refine ⟨x, hx, ?_⟩
  obtain ⟨y, hy, hyi⟩ := h.all i (Nat.le_refl _) hi
  obtain ⟨j, hj⟩ := List.getElem?_of_mem hy
  have hle := h.hp.root hp j x y hx hj
  have a := h.mem x (List.mem_of_getElem? hx)
  have b := h.mem y hy
  rw [cmpItem_le, a.2.2.2.1, a.2.2.2.2, b.2.2.2.1, b.2.2.2.2] at hle
  obtain ⟨xi, xn, xd, xt⟩ := x
  simp only at a hle
  obtain ⟨a1, a2, a3, rfl, rfl⟩ := a
  have : xi = i := by omega
  subst this
  rw [a3]

theorem I3.take {L : List Item} {m i : Nat} {kn kd : Int} (h : I3 L m i kn kd) (hp : AllPos L) (hd : Dist L) (hi : i < m) : I3 (outL L 0) m (i + 1) kn kd := by
  obtain ⟨x, hx, rfl⟩ := h.root hp hi
  refine ⟨out_heap h.hp hp hx, by rw [outL_length hx, h.len]; omega, fun y hy => ?_, fun j hj hjm => ?_⟩
  · rw [outL_mem hd hx] at hy
    have := h.mem y hy.1
    have h2 := hy.2
    simp only at h2
    exact ⟨by omega, this.2⟩
  · obtain ⟨y, hy, hyi⟩ := h.all j (by omega) hjm
    refine ⟨y, (outL_mem hd hx).2 ⟨hy, ?_⟩, hyi⟩
    simp only
    omega

end Go.Ab

set_option linter.unusedSimpArgs false
set_option linter.unusedVariables false
namespace Go.Ab

def fN (a r : Nat) : Nat := a / Nat.gcd a r
def fD (a r : Nat) : Nat := r / Nat.gcd a r

theorem gcd_pos_r {a r : Nat} (hr : 0 < r) : 0 < Nat.gcd a r := Nat.gcd_pos_of_pos_right a hr
theorem fN_mul (a r : Nat) : fN a r * Nat.gcd a r = a := Nat.div_mul_cancel (Nat.gcd_dvd_left a r)
theorem fD_mul (a r : Nat) : fD a r * Nat.gcd a r = r := Nat.div_mul_cancel (Nat.gcd_dvd_right a r)
theorem fD_pos {a r : Nat} (hr : 0 < r) : 0 < fD a r := by
  have := fD_mul a r
  rcases Nat.eq_zero_or_pos (fD a r) with h | h
  · rw [h] at this; omega
  · exact h
theorem fN_le (a r : Nat) : fN a r ≤ a := Nat.div_le_self _ _
theorem fD_le (a r : Nat) : fD a r ≤ r := Nat.div_le_self _ _
theorem f_coprime {a r : Nat} (hr : 0 < r) : Nat.gcd (fN a r) (fD a r) = 1 := by
  unfold fN fD
  rw [Nat.gcd_div (Nat.gcd_dvd_left a r) (Nat.gcd_dvd_right a r)]
  exact Nat.div_self (gcd_pos_r hr)
theorem f_cross (a r : Nat) : fN a r * r = a * fD a r := by
  have h1 := fN_mul a r
  have h2 := fD_mul a r
  calc fN a r * r = fN a r * (fD a r * Nat.gcd a r) := by rw [h2]
    _ = (fN a r * Nat.gcd a r) * fD a r := by rw [Nat.mul_comm (fD a r), ← Nat.mul_assoc]
    _ = a * fD a r := by rw [h1]
theorem fD_dvd (a r : Nat) : fD a r ∣ r := ⟨_, (fD_mul a r).symm⟩

theorem f_uniq {a r t b : Nat} (hr : 0 < r) (hb : 0 < b) (hc : Nat.gcd t b = 1) (h : t * r = a * b) : t = fN a r ∧ b = fD a r := by
  have hbr : b ∣ r := by
    have : b ∣ t * r := ⟨a, by rw [h, Nat.mul_comm]⟩
    exact (Nat.Coprime.dvd_of_dvd_mul_left (by rw [Nat.Coprime, Nat.gcd_comm]; exact hc) this)
  obtain ⟨k, rfl⟩ := hbr
  have hk : 0 < k := by
    rcases Nat.eq_zero_or_pos k with e | e
    · subst e; simp at hr
    · exact e
  have ha : a = t * k := by
    have : b * a = b * (t * k) := by rw [Nat.mul_comm b a, ← h, ← Nat.mul_assoc, Nat.mul_comm t b, Nat.mul_assoc]
    exact Nat.eq_of_mul_eq_mul_left hb this
  subst ha
  have hg : Nat.gcd (t * k) (b * k) = k := by rw [Nat.gcd_mul_right, hc, Nat.one_mul]
  unfold fN fD
  rw [hg]
  exact ⟨(Nat.mul_div_cancel _ hk).symm, (Nat.mul_div_cancel _ hk).symm⟩

theorem f_whole {n r : Nat} (hr : 0 < r) : fN (n * r) r = n ∧ fD (n * r) r = 1 := by
  have := f_uniq (a := n * r) (r := r) (t := n) (b := 1) hr (by omega) (Nat.gcd_one_right n) (by omega)
  exact ⟨this.1.symm, this.2.symm⟩

/-- The parts of a sum, as they are worked out. -/
def sG (a b r : Nat) : Nat := Nat.gcd (fD a r) (fD b r)
def sX (a b r : Nat) : Nat := fN a r * (fD b r / sG a b r)
def sY (a b r : Nat) : Nat := fN b r * (fD a r / sG a b r)
def sH (a b r : Nat) : Nat := Nat.gcd (sG a b r) (sX a b r + sY a b r)

theorem sG_pos {a b r : Nat} (hr : 0 < r) : 0 < sG a b r := Nat.gcd_pos_of_pos_left _ (fD_pos hr)
theorem sH_pos {a b r : Nat} (hr : 0 < r) : 0 < sH a b r := Nat.gcd_pos_of_pos_left _ (sG_pos hr)
theorem sG_l (a b r : Nat) : sG a b r ∣ fD a r := Nat.gcd_dvd_left _ _
theorem sG_r (a b r : Nat) : sG a b r ∣ fD b r := Nat.gcd_dvd_right _ _
theorem sH_G (a b r : Nat) : sH a b r ∣ sG a b r := Nat.gcd_dvd_left _ _
theorem sH_S (a b r : Nat) : sH a b r ∣ sX a b r + sY a b r := Nat.gcd_dvd_right _ _

theorem sX_le {a b r : Nat} (hr : 0 < r) : sX a b r ≤ a := by
  obtain ⟨x, hx⟩ := sG_l a b r
  obtain ⟨y, hy⟩ := sG_r a b r
  have hG := sG_pos (a := a) (b := b) hr
  have hxy : Nat.gcd x y = 1 := by
    have h := Nat.gcd_mul_left (sG a b r) x y
    rw [← hx, ← hy] at h
    have : sG a b r * 1 = sG a b r * Nat.gcd x y := by rw [Nat.mul_one, ← h]; rfl
    exact (Nat.eq_of_mul_eq_mul_left hG this).symm
  have hd : fD b r / sG a b r = y := by rw [hy]; exact Nat.mul_div_cancel_left _ hG
  have hk : y ∣ Nat.gcd a r := by
    have h1 : fD b r ∣ fD a r * Nat.gcd a r := by rw [fD_mul]; exact fD_dvd b r
    rw [hy, hx, Nat.mul_assoc] at h1
    have h2 : y ∣ x * Nat.gcd a r := Nat.dvd_of_mul_dvd_mul_left hG h1
    exact Nat.Coprime.dvd_of_dvd_mul_left (by rw [Nat.Coprime, Nat.gcd_comm]; exact hxy) h2
  unfold sX
  rw [hd]
  calc fN a r * y ≤ fN a r * Nat.gcd a r := Nat.mul_le_mul_left _ (Nat.le_of_dvd (gcd_pos_r hr) hk)
    _ = a := fN_mul a r

theorem sG_comm (a b r : Nat) : sG a b r = sG b a r := Nat.gcd_comm _ _
theorem sY_le {a b r : Nat} (hr : 0 < r) : sY a b r ≤ b := by
  have := sX_le (a := b) (b := a) hr
  unfold sX at this
  unfold sY
  rw [sG_comm]
  exact this

theorem gcd_mul_one {a b c : Nat} (h1 : Nat.gcd a b = 1) (h2 : Nat.gcd a c = 1) : Nat.gcd a (b * c) = 1 := Nat.Coprime.mul_right h1 h2
theorem gcd_one_of_dvd {a b c : Nat} (h : Nat.gcd a b = 1) (hc : c ∣ b) : Nat.gcd a c = 1 := Nat.Coprime.coprime_dvd_right hc h
theorem gcd_one_of_dvd_left {a b c : Nat} (h : Nat.gcd a b = 1) (hc : c ∣ a) : Nat.gcd c b = 1 := Nat.Coprime.coprime_dvd_left hc h

theorem sum_is {a b r : Nat} (hr : 0 < r) : (sX a b r + sY a b r) / sH a b r = fN (a + b) r ∧ fD a r / sG a b r * (fD b r / sH a b r) = fD (a + b) r := by
  have hG := sG_pos (a := a) (b := b) hr
  have hH := sH_pos (a := a) (b := b) hr
  obtain ⟨x, hx⟩ := sG_l a b r
  obtain ⟨y, hy⟩ := sG_r a b r
  obtain ⟨m, hm⟩ := sH_G a b r
  obtain ⟨t, ht⟩ := sH_S a b r
  have ex : fD a r / sG a b r = x := by rw [hx]; exact Nat.mul_div_cancel_left _ hG
  have ey : fD b r / sG a b r = y := by rw [hy]; exact Nat.mul_div_cancel_left _ hG
  have eb : fD b r / sH a b r = m * y := by
    rw [hy, hm, Nat.mul_assoc]; exact Nat.mul_div_cancel_left _ hH
  have et : (sX a b r + sY a b r) / sH a b r = t := by rw [ht]; exact Nat.mul_div_cancel_left _ hH
  rw [et, ex, eb]
  have hxy : Nat.gcd x y = 1 := by
    have h := Nat.gcd_mul_left (sG a b r) x y
    rw [← hx, ← hy] at h
    have : sG a b r * 1 = sG a b r * Nat.gcd x y := by rw [Nat.mul_one, ← h]; rfl
    exact (Nat.eq_of_mul_eq_mul_left hG this).symm
  have hX : sX a b r = fN a r * y := by unfold sX; rw [ey]
  have hY : sY a b r = fN b r * x := by unfold sY; rw [ex]
  have hS : fN a r * y + fN b r * x = sH a b r * t := by rw [← hX, ← hY]; exact ht
  have cax : Nat.gcd (fN a r) x = 1 := gcd_one_of_dvd (f_coprime hr) ⟨_, by rw [hx, Nat.mul_comm]⟩
  have cby : Nat.gcd (fN b r) y = 1 := gcd_one_of_dvd (f_coprime hr) ⟨_, by rw [hy, Nat.mul_comm]⟩
  have ctx : Nat.gcd t x = 1 := by
    have h1 : Nat.gcd (fN a r * y + fN b r * x) x = 1 := by
      rw [Nat.gcd_add_mul_right_left, Nat.gcd_comm]
      exact gcd_mul_one (by rw [Nat.gcd_comm]; exact cax) hxy
    rw [hS] at h1
    exact gcd_one_of_dvd_left h1 ⟨_, Nat.mul_comm _ _⟩
  have cty : Nat.gcd t y = 1 := by
    have h1 : Nat.gcd (fN a r * y + fN b r * x) y = 1 := by
      rw [Nat.add_comm, Nat.gcd_add_mul_right_left, Nat.gcd_comm]
      exact gcd_mul_one (by rw [Nat.gcd_comm]; exact cby) (by rw [Nat.gcd_comm]; exact hxy)
    rw [hS] at h1
    exact gcd_one_of_dvd_left h1 ⟨_, Nat.mul_comm _ _⟩
  have ctm : Nat.gcd t m = 1 := by
    have h1 : sH a b r * Nat.gcd m t = sH a b r * 1 := by
      rw [← Nat.gcd_mul_left, ← hm, ← ht, Nat.mul_one]; rfl
    rw [Nat.gcd_comm]
    exact Nat.eq_of_mul_eq_mul_left hH h1
  have hm0 : 0 < m := by
    rcases Nat.eq_zero_or_pos m with e | e
    · subst e; rw [Nat.mul_zero] at hm; omega
    · exact e
  have hx0 : 0 < x := by
    have := fD_pos (a := a) hr
    rcases Nat.eq_zero_or_pos x with e | e
    · subst e; rw [Nat.mul_zero] at hx; omega
    · exact e
  have hy0 : 0 < y := by
    have := fD_pos (a := b) hr
    rcases Nat.eq_zero_or_pos y with e | e
    · subst e; rw [Nat.mul_zero] at hy; omega
    · exact e
  refine f_uniq hr (Nat.mul_pos hx0 (Nat.mul_pos hm0 hy0)) (gcd_mul_one ctx (gcd_mul_one ctm cty)) ?_
  have key : (fN a r * y + fN b r * x) * sG a b r * r = (a + b) * (fD a r * fD b r) / 1 := by
    rw [Nat.div_one]
    have c1 := f_cross a r
    have c2 := f_cross b r
    have e1 : y * sG a b r = fD b r := by rw [hy, Nat.mul_comm]
    have e2 : x * sG a b r = fD a r := by rw [hx, Nat.mul_comm]
    calc (fN a r * y + fN b r * x) * sG a b r * r = (fN a r * r) * (y * sG a b r) + (fN b r * r) * (x * sG a b r) := by grind
      _ = (a * fD a r) * fD b r + (b * fD b r) * fD a r := by rw [c1, c2, e1, e2]
      _ = (a + b) * (fD a r * fD b r) := by grind
  rw [Nat.div_one, hS] at key
  have e3 : fD a r * fD b r = sG a b r * x * (sH a b r * m * y) := by rw [← hm, ← hx, ← hy]
  rw [e3] at key
  have hGH : 0 < sG a b r * sH a b r := Nat.mul_pos hG hH
  have k2 : (sG a b r * sH a b r) * (t * r) = (sG a b r * sH a b r) * ((a + b) * (x * (m * y))) := by grind
  exact Nat.eq_of_mul_eq_mul_left hGH k2

end Go.Ab

set_option linter.unusedSimpArgs false
set_option linter.unusedVariables false
namespace Go.Ab
open Go.Proofs

structure Pk where
  id : Int
  flow : Int
  size : Int

def Pk.cells (x : Pk) : List Value := [.int .i64 x.id, .int .i64 x.flow, .int .i64 x.size]
def Pk.zero : Pk := ⟨0, 0, 0⟩
def cellsP : List Pk → List Value
  | [] => []
  | x :: xs => x.cells ++ cellsP xs

theorem Pk.cells_length (x : Pk) : x.cells.length = 3 := rfl
theorem cellsP_length : ∀ L : List Pk, (cellsP L).length = 3 * L.length
  | [] => rfl
  | x :: xs => by simp [cellsP, Pk.cells_length, cellsP_length xs]; omega

theorem cellsP_append : ∀ (L L' : List Pk), cellsP (L ++ L') = cellsP L ++ cellsP L'
  | [], _ => rfl
  | x :: xs, L' => by simp [cellsP, cellsP_append xs L']

theorem cellsP_at {G : List Value} : ∀ {L : List Pk} {i : Nat} {x : Pk}, L[i]? = some x → ((cellsP L ++ G).drop (i * 3)).take 3 = x.cells
  | [], _, _, h => by simp at h
  | y :: L, 0, x, h => by
    simp only [List.getElem?_cons_zero, Option.some.injEq] at h
    subst h
    simp [cellsP, Pk.cells]
  | y :: L, i + 1, x, h => by
    simp only [List.getElem?_cons_succ] at h
    have := cellsP_at (G := G) h
    have e : (i + 1) * 3 = 3 + i * 3 := by omega
    rw [e, ← List.drop_drop]
    simpa [cellsP, Pk.cells] using this

theorem overP_at {G : List Value} : ∀ {L : List Pk} {i : Nat} (x : Pk), i < L.length → over (cellsP L ++ G) (i * 3) x.cells = cellsP (L.set i x) ++ G
  | [], _, _, h => by simp at h
  | y :: L, 0, x, h => by simp [over, cellsP, Pk.cells]
  | y :: L, i + 1, x, h => by
    have := overP_at (G := G) (L := L) (i := i) x (by simpa using h)
    have e : (i + 1) * 3 = i * 3 + 3 := by omega
    rw [e, List.set_cons_succ]
    simp only [cellsP, Pk.cells, List.cons_append, List.nil_append, over] at this ⊢
    rw [this]

theorem cellsP_at' {L : List Pk} {i : Nat} {x : Pk} (h : L[i]? = some x) : ((cellsP L).drop (i * 3)).take 3 = x.cells := by
  have := cellsP_at (G := []) h
  simpa using this
theorem overP_at' {L : List Pk} {i : Nat} (x : Pk) (h : i < L.length) : over (cellsP L) (i * 3) x.cells = cellsP (L.set i x) := by
  have := overP_at (G := []) x h
  simpa using this

theorem ring_mod {f i n : Nat} (hf : f < n) (hi : i < n) : (f + i) % n = if f + i < n then f + i else f + i - n := by
  split
  · rename_i h; exact Nat.mod_eq_of_lt h
  · rw [Nat.mod_eq_sub_mod (by omega), Nat.mod_eq_of_lt (by omega)]

/-- A list in a ring, from a place on. -/
structure Ring (R : List Pk) (f : Nat) (L : List Pk) : Prop where
  le : L.length ≤ R.length
  lt : f < R.length
  at' : ∀ i x, L[i]? = some x → R[(f + i) % R.length]? = some x

theorem Ring.put {R : List Pk} {f : Nat} {L : List Pk} (h : Ring R f L) (hl : L.length < R.length) (x : Pk) : Ring (R.set ((f + L.length) % R.length) x) f (L ++ [x]) := by
  refine ⟨by simp; omega, by simpa using h.lt, fun i y hy => ?_⟩
  have hk : (f + L.length) % R.length < R.length := Nat.mod_lt _ (by omega)
  rw [List.length_set]
  by_cases hi : i < L.length
  · rw [List.getElem?_append_left hi] at hy
    rw [List.getElem?_set_ne ?_]
    · exact h.at' i y hy
    · rw [ring_mod h.lt hl, ring_mod h.lt (by omega)]
      have := h.lt
      split <;> split <;> omega
  · have hi' : i = L.length := by
      have := (List.getElem?_eq_some_iff.1 hy).1
      simp at this; omega
    subst hi'
    rw [List.getElem?_append_right (Nat.le_refl _)] at hy
    simp at hy
    subst hy
    rw [List.getElem?_set_self hk]

theorem Ring.take {R : List Pk} {f : Nat} {x : Pk} {L : List Pk} (h : Ring R f (x :: L)) : Ring R ((f + 1) % R.length) L := by
  have hl := h.le
  have hf := h.lt
  simp at hl
  refine ⟨by omega, Nat.mod_lt _ (by omega), fun i y hy => ?_⟩
  have hi := (List.getElem?_eq_some_iff.1 hy).1
  have := h.at' (i + 1) y (by simpa using hy)
  rw [← this, Nat.mod_add_mod]
  congr 2
  omega

theorem Ring.lay (L : List Pk) (n : Nat) (h : L.length ≤ n) (hn : 0 < n) : Ring (L ++ List.replicate (n - L.length) Pk.zero) 0 L := by
  have hlen : (L ++ List.replicate (n - L.length) Pk.zero).length = n := by simp; omega
  refine ⟨by omega, by omega, fun i x hx => ?_⟩
  have hi := (List.getElem?_eq_some_iff.1 hx).1
  rw [hlen, Nat.zero_add, Nat.mod_eq_of_lt (by omega), List.getElem?_append_left hi]
  exact hx

def sumP : List Pk → Int
  | [] => 0
  | x :: l => x.size + sumP l

theorem sumP_append : ∀ (l l' : List Pk), sumP (l ++ l') = sumP l + sumP l'
  | [], l' => by simp [sumP]
  | x :: l, l' => by simp [sumP, sumP_append l l']; omega

end Go.Ab

set_option linter.unusedSimpArgs false
set_option linter.unusedVariables false
namespace Go.Ab
open Go.Proofs

/-- A packet under way. -/
structure OnV where
  pk : Pk
  prom : Bool
  n : Int
  d : Int
  fin : Int
  left : Int

def lineOn (x : Pk) : OnV := ⟨x, false, 0, 0, 0, x.size⟩

/-- So many bytes are served at a tick: what is under way, what waits in the queue (in its order), in the line; what is sent, what is then under way, waits. -/
inductive Serves (now : Int) : Int → Option OnV → List OnV → List Pk → List OnV → Option OnV → List OnV → List Pk → Prop
  | zero {on : Option OnV} {qs : List OnV} {L : List Pk} : Serves now 0 on qs L [] on qs L
  | empty {b : Int} (h : 0 < b) : Serves now b none [] [] [] none [] []
  | part {b : Int} {o : OnV} {qs : List OnV} {L : List Pk} (h : 0 < b) (h1 : b < o.left) : Serves now b (some o) qs L [] (some { o with left := o.left - b }) qs L
  | full {b : Int} {o : OnV} {qs : List OnV} {L : List Pk} {out : List OnV} {on' : Option OnV} {qs' : List OnV} {L' : List Pk} (h : 0 < b) (h1 : o.left ≤ b) (k : Serves now (b - o.left) none qs L out on' qs' L') : Serves now b (some o) qs L ({ o with fin := now, left := 0 } :: out) on' qs' L'
  | nextq {b : Int} {o : OnV} {qs : List OnV} {L : List Pk} {out : List OnV} {on' : Option OnV} {qs' : List OnV} {L' : List Pk} (h : 0 < b) (k : Serves now b (some o) qs L out on' qs' L') : Serves now b none (o :: qs) L out on' qs' L'
  | nextl {b : Int} {x : Pk} {L : List Pk} {out : List OnV} {on' : Option OnV} {qs' : List OnV} {L' : List Pk} (h : 0 < b) (k : Serves now b (some (lineOn x)) [] L out on' qs' L') : Serves now b none [] (x :: L) out on' qs' L'

/-- Sizes of what is there. -/
def OnOk (o : OnV) : Prop := 1 ≤ o.left ∧ o.left ≤ 2000 ∧ o.pk.size ≤ 2000

/-! ### a packet that is promised, behind at most one other -/
def is100 (o : OnV) : Prop := o.pk.id = 100 ∧ 1 ≤ o.left ∧ o.left ≤ 50

theorem serves_C {now b : Int} {c : OnV} {L L' : List Pk} {out qs' : List OnV} {on' : Option OnV} (hb : 1 ≤ b) (hc : is100 c) (h : Serves now b (some c) [] L out on' qs' L') :
    (out = [] ∧ qs' = [] ∧ ∃ c', on' = some c' ∧ is100 c' ∧ c'.left < c.left) ∨ ∃ o rest, out = o :: rest ∧ o.pk.id = 100 := by
  cases h with
  | zero => omega
  | part h h1 => exact .inl ⟨rfl, rfl, _, rfl, ⟨hc.1, by show 1 ≤ c.left - b; omega, by have := hc.2.2; show c.left - b ≤ 50; omega⟩, by show c.left - b < c.left; omega⟩
  | full h h1 k => exact .inr ⟨_, _, rfl, hc.1⟩

theorem serves_B {now b : Int} {c : OnV} {L L' : List Pk} {out qs' : List OnV} {on' : Option OnV} (hb : 1 ≤ b) (hc : is100 c) (h : Serves now b none [c] L out on' qs' L') :
    (out = [] ∧ qs' = [] ∧ ∃ c', on' = some c' ∧ is100 c' ∧ c'.left < c.left) ∨ ∃ o rest, out = o :: rest ∧ o.pk.id = 100 := by
  cases h with
  | zero => omega
  | nextq h k => exact serves_C hb hc k

theorem serves_A {now b : Int} {x c : OnV} {L L' : List Pk} {out qs' : List OnV} {on' : Option OnV} (hb : 1 ≤ b) (hc : is100 c) (h : Serves now b (some x) [c] L out on' qs' L') :
    (out = [] ∧ qs' = [c] ∧ on' = some { x with left := x.left - b } ∧ b < x.left) ∨
    (∃ o, out = [o] ∧ o.pk.id = x.pk.id ∧ ((on' = none ∧ qs' = [c]) ∨ (qs' = [] ∧ ∃ c', on' = some c' ∧ is100 c'))) ∨
    ∃ o o' rest, out = o :: o' :: rest ∧ o.pk.id = x.pk.id ∧ o'.pk.id = 100 := by
  cases h with
  | zero => omega
  | part h h1 => exact .inl ⟨rfl, rfl, rfl, h1⟩
  | full h h1 k =>
    by_cases e : b - x.left = 0
    · rw [e] at k
      cases k with
      | zero => exact .inr (.inl ⟨_, rfl, rfl, .inl ⟨rfl, rfl⟩⟩)
      | nextq h k => omega
    · rcases serves_B (by omega) hc k with ⟨rfl, rfl, c', rfl, hc', _⟩ | ⟨o, rest, rfl, ho⟩
      · exact .inr (.inl ⟨_, rfl, rfl, .inr ⟨rfl, c', rfl, hc'⟩⟩)
      · exact .inr (.inr ⟨_, _, _, rfl, rfl, ho⟩)

/-- What holds of all packets that are there holds of those that are sent, and that are left. -/
theorem Serves.all {now b : Int} {on on' : Option OnV} {qs qs' out : List OnV} {L L' : List Pk} {p : Pk → Prop} (h : Serves now b on qs L out on' qs' L') : (∀ x, on = some x → p x.pk) → (∀ x ∈ qs, p x.pk) → (∀ y ∈ L, p y) →
    (∀ x ∈ out, p x.pk) ∧ (∀ x, on' = some x → p x.pk) ∧ (∀ x ∈ qs', p x.pk) ∧ ∀ y ∈ L', p y := by
  induction h with
  | zero => exact fun h1 h2 h3 => ⟨fun x hx => absurd hx (by simp), h1, h2, h3⟩
  | empty h => exact fun h1 h2 h3 => ⟨fun x hx => absurd hx (by simp), fun x hx => absurd hx (by simp), fun x hx => absurd hx (by simp), fun x hx => absurd hx (by simp)⟩
  | @part b o qs L h h' =>
    intro h1 h2 h3
    refine ⟨fun x hx => absurd hx (by simp), fun x hx => ?_, h2, h3⟩
    cases hx
    exact h1 o rfl
  | @full b o qs L out on' qs' L' h h' k ih =>
    intro h1 h2 h3
    obtain ⟨a, b, c, d⟩ := ih (fun x hx => absurd hx (by simp)) h2 h3
    refine ⟨fun x hx => ?_, b, c, d⟩
    rcases List.mem_cons.1 hx with e | hx
    · rw [e]; exact h1 o rfl
    · exact a x hx
  | nextq h k ih =>
    intro h1 h2 h3
    refine ih (fun x hx => ?_) (fun x hx => h2 x (List.mem_cons_of_mem _ hx)) h3
    cases hx
    exact h2 _ List.mem_cons_self
  | nextl h k ih =>
    intro h1 h2 h3
    refine ih (fun x hx => ?_) (fun x hx => absurd hx (by simp)) fun x hx => h3 x (List.mem_cons_of_mem _ hx)
    cases hx
    exact h3 _ List.mem_cons_self

end Go.Ab

set_option linter.unusedSimpArgs false
set_option linter.unusedVariables false
namespace Go.Ab
open Go.Proofs

/-- A heap whose blocks are numbered from lo on. -/
def HV (σ : St) (lo h m : Nat) (L : List Item) (t : Int) : Prop :=
  lo ≤ h ∧ lo ≤ m ∧ lo ≤ σ.next ∧ ((L = [] ∧ HE σ h m t) ∨ ∃ a cap, lo ≤ a ∧ HI σ h a m L cap t)

/-- What a call turns stands from lo on. -/
def From (lo : Nat) (lg : Log) : Prop := ∀ c ∈ lg, lo ≤ c

theorem From.nil {lo : Nat} : From lo [] := fun c hc => by simp at hc
theorem From.append {lo : Nat} {a b : Log} (ha : From lo a) (hb : From lo b) : From lo (a ++ b) := fun c hc => by
  rcases List.mem_append.1 hc with h | h
  · exact ha c h
  · exact hb c h

/-- What stands below lo is as it was. -/
theorem keep_below {f : FuncId} {args : List Value} {σ σ' : St} {e : AE} {lg : Log} {lo : Nat} (h : DCall Try.prog f args σ e σ' lg) (hl : From lo lg) (hn : lo ≤ σ.next) : ∀ c, c < lo → σ'.get c = σ.get c := fun c hc =>
  h.1.2 c (by omega) fun hm => by have := hl c hm; omega

theorem HI.pos {σ : St} {h a m : Nat} {L : List Item} {cap : Nat} {t : Int} (H : HI σ h a m L cap t) : AllPos L := fun x hx => Item.ok_pos (H.ok x hx)
theorem HI.dist {σ : St} {h a m : Nat} {L : List Item} {cap : Nat} {t : Int} (H : HI σ h a m L cap t) : Dist L := by
  obtain ⟨f, _, hi⟩ := H.hs
  exact hi.dist
theorem HV.pos {σ : St} {lo h m : Nat} {L : List Item} {t : Int} (H : HV σ lo h m L t) : AllPos L := by
  rcases H.2.2.2 with ⟨rfl, _⟩ | ⟨a, cap, _, H⟩
  · exact fun x hx => by simp at hx
  · exact H.pos

theorem put_hv {σ : St} {lo h m : Nat} {L : List Item} {t : Int} (H : HV σ lo h m L t) (id kn kd : Int) (h0 : 0 ≤ id) (h1 : id ≤ 4611686018427387904) (hk : okR kn kd = true) (ht : 0 ≤ t) (ht1 : t < 1000000) (hnew : ∀ y ∈ L, y.id ≠ id) (hsm : L.length < 1000) :
    ∃ σ' lg, DCall Try.prog 14 [.pointer (some ⟨h, 0, none⟩), .int .i64 id, .agg ⟨[.int .i64 kn, .int .i64 kd]⟩] σ (.ret (.int .i64 0)) σ' lg ∧ From lo lg ∧ HV σ' lo h m (riseL (L.length + 1) (L ++ [⟨id, kn, kd, t + 1⟩]) L.length) (t + 1) := by
  obtain ⟨a1, a2, a3, H⟩ := H
  rcases H with ⟨rfl, H⟩ | ⟨a, cap, a4, H⟩
  · obtain ⟨σ', a, d, H', ha⟩ := put_first H id kn kd h0 h1 hk ht ht1
    refine ⟨σ', _, d, fun c hc => ?_, a1, a2, by have := d.1.1; omega, .inr ⟨a, 1, by omega, ?_⟩⟩
    · simp at hc; omega
    · simpa [riseL] using H'
  · have hcap : L.length ≤ cap := by
      obtain ⟨f, H1, _⟩ := H.hs
      obtain ⟨G, _, hG⟩ := H1.ga
      omega
    by_cases hc : L.length + 1 ≤ cap
    · obtain ⟨σ', d, H', nx, _⟩ := put_in H id kn kd h0 h1 hk ht ht1 hnew hsm hc
      refine ⟨σ', _, d, fun c hc => ?_, a1, a2, by omega, .inr ⟨a, cap, a4, H'⟩⟩
      simp at hc; omega
    · obtain ⟨σ', d, H', nx, _⟩ := put_move H id kn kd h0 h1 hk ht ht1 hnew hsm (by omega)
      refine ⟨σ', _, d, fun c hc => ?_, a1, a2, by omega, .inr ⟨_, _, by omega, H'⟩⟩
      simp at hc; omega

theorem put_hv_bad {σ : St} {lo h m : Nat} {L : List Item} {t : Int} (H : HV σ lo h m L t) (id kn kd : Int) (h0 : 0 ≤ id) (h1 : id ≤ 4611686018427387904) (hkn : okI kn = true) (hkd : okI kd = true) (hc : ¬ chk kn kd) :
    DCall Try.prog 14 [.pointer (some ⟨h, 0, none⟩), .int .i64 id, .agg ⟨[.int .i64 kn, .int .i64 kd]⟩] σ (.ret (.int .i64 2)) σ [] := by
  obtain ⟨a1, a2, a3, H⟩ := H
  rcases H with ⟨rfl, H⟩ | ⟨a, cap, a4, H⟩
  · obtain ⟨ck, gm⟩ := H.gm
    exact put_bad (f := fun _ => none) H.gh gm KV.nil (fun _ => rfl) H.lt id kn kd h0 h1 hkn hkd hc
  · obtain ⟨f, H1, _⟩ := H.hs
    obtain ⟨es, ck, gm, hkv, hlk⟩ := H1.gm
    exact put_bad H1.gh gm hkv hlk ⟨H1.lt.1, H1.lt.2.2⟩ id kn kd h0 h1 hkn hkd hc

theorem len_hv {σ : St} {lo h m : Nat} {L : List Item} {t : Int} (H : HV σ lo h m L t) : DCall Try.prog 17 [.pointer (some ⟨h, 0, none⟩)] σ (.ret (.int .i64 L.length)) σ [] := by
  obtain ⟨a1, a2, a3, H⟩ := H
  rcases H with ⟨rfl, H⟩ | ⟨a, cap, a4, H⟩
  · exact len_call0 H.gh
  · obtain ⟨f, H1, _⟩ := H.hs
    exact len_call H1.gh

theorem HV.dist {σ : St} {lo h m : Nat} {L : List Item} {t : Int} (H : HV σ lo h m L t) : Dist L := by
  rcases H.2.2.2 with ⟨rfl, _⟩ | ⟨a, cap, _, H⟩
  · exact fun i j x y hx => by simp at hx
  · exact H.dist

theorem HV.grow {σ σ' : St} {lo h m : Nat} {L : List Item} {t : Int} (H : HV σ lo h m L t) (hn : σ.next ≤ σ'.next) (hg : ∀ c, c < σ.next → σ'.get c = σ.get c) : HV σ' lo h m L t := by
  obtain ⟨a1, a2, a3, H⟩ := H
  refine ⟨a1, a2, by omega, ?_⟩
  rcases H with ⟨rfl, H⟩ | ⟨a, cap, a4, H⟩
  · obtain ⟨ck, gm⟩ := H.gm
    exact .inl ⟨rfl, ⟨(hg _ H.lt.1).trans H.gh, ⟨ck, (hg _ H.lt.2).trans gm⟩, H.ne, by have := H.lt; omega⟩⟩
  · exact .inr ⟨a, cap, a4, H.grow hn hg⟩

theorem set_hv {σ : St} {lo h m : Nat} {L : List Item} {t : Int} (H : HV σ lo h m L t) {n : Nat} {x : Item} (hx : L[n]? = some x) (kn kd : Int) (h0 : 0 ≤ x.id) (h1 : x.id ≤ 4611686018427387904) (hk : okR kn kd = true) :
    ∃ σ' lg n2 z, DCall Try.prog 15 [.pointer (some ⟨h, 0, none⟩), .int .i64 x.id, .agg ⟨[.int .i64 kn, .int .i64 kd]⟩] σ (.ret (.int .i64 0)) σ' lg ∧ From lo lg ∧
      (riseL (n + 1) (L.set n (x.key kn kd)) n)[n2]? = some z ∧ z.id = x.id ∧ HV σ' lo h m (setL L n n2 (x.key kn kd)) t := by
  obtain ⟨a1, a2, a3, H⟩ := H
  rcases H with ⟨rfl, H⟩ | ⟨a, cap, a4, H⟩
  · simp at hx
  · obtain ⟨σ', n2, z, d, b1, b2, b3, b4, _⟩ := set_ok H hx kn kd h0 h1 hk
    refine ⟨σ', _, n2, z, d, fun c hc => ?_, b1, b2, a1, a2, by omega, .inr ⟨a, cap, a4, b3⟩⟩
    simp at hc; omega

theorem set_hv_bad {σ : St} {lo h m : Nat} {L : List Item} {t : Int} (H : HV σ lo h m L t) (hl : 0 < L.length) (id kn kd : Int) (h0 : 0 ≤ id) (h1 : id ≤ 4611686018427387904) (hkn : okI kn = true) (hkd : okI kd = true) (hc : ¬ chk kn kd) :
    DCall Try.prog 15 [.pointer (some ⟨h, 0, none⟩), .int .i64 id, .agg ⟨[.int .i64 kn, .int .i64 kd]⟩] σ (.ret (.int .i64 2)) σ [] := by
  obtain ⟨a1, a2, a3, H⟩ := H
  rcases H with ⟨rfl, H⟩ | ⟨a, cap, a4, H⟩
  · simp at hl
  · exact set_bad H id kn kd h0 h1 hkn hkd hc

theorem take_hv {σ : St} {lo h m : Nat} {L : List Item} {t : Int} (H : HV σ lo h m L t) {x : Item} (hx : L[0]? = some x) :
    ∃ σ' lg, DCall Try.prog 16 [.pointer (some ⟨h, 0, none⟩)] σ (.ret (.tuple ⟨[.agg ⟨x.cells⟩, .bool true]⟩)) σ' lg ∧ From lo lg ∧ HV σ' lo h m (outL L 0) t := by
  obtain ⟨a1, a2, a3, H⟩ := H
  rcases H with ⟨rfl, H⟩ | ⟨a, cap, a4, H⟩
  · simp at hx
  · obtain ⟨σ', d, b3, b4, _⟩ := take_call H hx
    refine ⟨σ', _, d, fun c hc => ?_, a1, a2, by omega, .inr ⟨a, cap, a4, b3⟩⟩
    simp at hc; omega

theorem flat24 : flats Try.prog 24 = some [.int, .int] := by kernel_rfl
theorem flat31 : flats Try.prog 31 = some [.int, .int, .int, .int] := by kernel_rfl

/-! ### frames -/
theorem lget_put (ts : List Value) (i : Nat) (v : Value) (j : Nat) : lget (ts.set i v) j = if i = j then (if i < ts.length then v else undef) else lget ts j := by
  induction ts generalizing i j with
  | nil => simp [lget]
  | cons x ts ih =>
    cases i with
    | zero => cases j <;> simp [lget]
    | succ i =>
      cases j with
      | zero => simp [lget]
      | succ j => simp [lget, ih]

theorem lgetq_put (ts : List Value) (i : Nat) (v : Value) (j : Nat) : lget? (ts.set i v) j = if i = j then (if i < ts.length then some v else none) else lget? ts j := by
  rw [lget?_eq, lget?_eq, List.getElem?_set]

theorem lget_start2 (a b : Value) (n : Nat) : lget (start [a, b] n).ts 0 = a ∧ lget (start [a, b] n).ts 1 = b := ⟨rfl, rfl⟩

/-- The n-th statement of a row of statements. -/
def nthC : Nat → Code → Code
  | 0, .seq a _ => a
  | n + 1, .seq _ b => nthC n b
  | _, c => c

end Go.Ab

set_option linter.unusedSimpArgs false
set_option linter.unusedVariables false
namespace Go.Ab

variable {P : Program}

/-- There is a way in which the call goes, and it leads to what is wanted. -/
def callX (P : Program) (f : FuncId) (args : List Value) (σ : St) (K : AE → St → Log → Prop) : Prop := ∃ e σ' l, DCall P f args σ e σ' l ∧ K e σ' l
def roundX (P : Program) (r : Nat) (args : List Value) (σ : St) (K : AE → St → Log → Prop) : Prop := ∃ e σ' l, DRound P r args σ e σ' l ∧ K e σ' l

/-- Functions that answer plain values and leave nothing behind. -/
structure PureTab (P : Program) where
  get : FuncId → List Value → Option Value
  ok : ∀ f args v, get f args = some v → ∀ σ, DCall P f args σ (.ret v) σ []

def callO (P : Program) (f : FuncId) (args : List Value) (σ : St) (K : AE → St → Log → Prop) : Option Value → Prop
  | some v => K (.ret v) σ []
  | none => callX P f args σ K
def callW (p : PureTab P) (f : FuncId) (args : List Value) (σ : St) (K : AE → St → Log → Prop) : Prop := callO P f args σ K (p.get f args)

theorem callW.sound {p : PureTab P} {f : FuncId} {args : List Value} {σ : St} {K : AE → St → Log → Prop} (h : callW p f args σ K) : callX P f args σ K := by
  unfold callW at h
  cases hp : p.get f args with
  | some v => rw [hp] at h; exact ⟨_, _, _, p.ok f args v hp σ, h⟩
  | none => rw [hp] at h; exact h

theorem callX.of {f : FuncId} {args : List Value} {σ σ' : St} {e : AE} {l : Log} {K : AE → St → Log → Prop} (d : DCall P f args σ e σ' l) (k : K e σ' l) : callX P f args σ K := ⟨_, _, _, d, k⟩
theorem callX.use {f : FuncId} {args : List Value} {σ : St} {K K' : AE → St → Log → Prop} (d : callX P f args σ K') (k : ∀ e σ' l, Logged σ σ' l → K' e σ' l → K e σ' l) : callX P f args σ K :=
  let ⟨e, σ', l, h, h'⟩ := d
  ⟨e, σ', l, h, k e σ' l h.1 h'⟩
theorem callX.call {f : FuncId} {args : List Value} {σ : St} {K : AE → St → Log → Prop} (d : callX P f args σ K) : ∃ e σ' l, DCall P f args σ e σ' l ∧ K e σ' l := d

/-! ### operations in the text's order -/
def retW (fr : Fr) (dst : Option Tmp) (lg : Log) (k : Fr → St → Log → Prop) (Q : RR → Prop) : AE → St → Log → Prop
  | .ret v, σ', l => k (fr.put dst v) σ' (lg ++ l)
  | .panic c, σ', l => Q ⟨.panic c, fr, σ', lg ++ l⟩

def opsW (p : PureTab P) (rnd : Bool) (dst : Option Tmp) (fr : Fr) (σ : St) (lg : Log) (k : Fr → St → Log → Prop) (Q : RR → Prop) : Option ORes → Prop
  | some (.val v _) => k (fr.put dst v) σ lg
  | some (.new ob v _) => k (fr.put dst v) (σ.new ob) lg
  | some (.eff v σ' l) => k (fr.put dst v) σ' (lg ++ l)
  | some (.panic v) => Q ⟨.panic [{ v, recovered := false }], fr, σ, lg⟩
  | some (.enter f args) => callW p f args σ (retW fr dst lg k Q)
  | some (.round r args) => roundX P r args σ (retW fr dst lg k Q)
  | some (.defer d) => rnd = false ∧ k ({ fr with ds := d :: fr.ds }.put dst undef) σ lg
  | _ => False

def wOps (C : Cx) (p : PureTab P) (rnd : Bool) (ops : List Oper) (Q : RR → Prop) : List Oper → Fr → St → Log → Prop
  | [], fr, σ, lg => Q ⟨.norm, fr, σ, lg⟩
  | o :: rest, fr, σ, lg => opsW p rnd o.dst fr σ lg (wOps C p rnd ops Q rest) Q (wantK C.T C.bodies o fr.ts σ (wantedA ops o fr.ts))

theorem wOps_sound {C : Cx} {p : PureTab P} {rnd : Bool} {ops : List Oper} {Q : RR → Prop} : ∀ (rest : List Oper) (fr : Fr) (σ : St) (lg : Log), wOps C p rnd ops Q rest fr σ lg →
    ∃ x fr' σ' l, OpsR P C rnd ops rest fr σ x fr' σ' l ∧ Q ⟨x, fr', σ', lg ++ l⟩ := by
  intro rest
  induction rest with
  | nil => intro fr σ lg h; exact ⟨_, _, _, _, .nil, by simpa [wOps] using h⟩
  | cons o rest ih =>
    intro fr σ lg h
    simp only [wOps] at h
    cases hw : wantedA ops o fr.ts with
    | false =>
      rw [hw] at h
      obtain ⟨x, fr', σ', l, h1, h2⟩ := ih _ _ _ h
      exact ⟨_, _, _, _, .skip hw h1, h2⟩
    | true =>
      rw [hw] at h
      simp only [wantK] at h
      unfold opsW at h
      split at h
      · rename_i hs
        obtain ⟨x, fr', σ', l, h1, h2⟩ := ih _ _ _ h
        exact ⟨_, _, _, _, .val hw hs h1, h2⟩
      · rename_i hs
        obtain ⟨x, fr', σ', l, h1, h2⟩ := ih _ _ _ h
        exact ⟨_, _, _, _, .new hw hs h1, h2⟩
      · rename_i hs
        obtain ⟨x, fr', σ', l, h1, h2⟩ := ih _ _ _ h
        exact ⟨_, _, _, _, .eff hw hs h1, by rw [← List.append_assoc]; exact h2⟩
      · rename_i hs
        exact ⟨_, _, _, _, .panic hw hs, by simpa using h⟩
      · rename_i hs
        obtain ⟨e, σ₁, l₁, hc, hk⟩ := h.sound
        cases e with
        | ret v =>
          obtain ⟨x, fr', σ', l, h1, h2⟩ := ih _ _ _ hk
          exact ⟨_, _, _, _, .call hw hs hc h1, by rw [← List.append_assoc]; exact h2⟩
        | panic c => exact ⟨_, _, _, _, .callP hw hs hc, hk⟩
      · rename_i hs
        obtain ⟨e, σ₁, l₁, hc, hk⟩ := h
        cases e with
        | ret v =>
          obtain ⟨x, fr', σ', l, h1, h2⟩ := ih _ _ _ hk
          exact ⟨_, _, _, _, .round hw hs hc h1, by rw [← List.append_assoc]; exact h2⟩
        | panic c => exact ⟨_, _, _, _, .roundP hw hs hc, hk⟩
      · rename_i hs
        obtain ⟨x, fr', σ', l, h1, h2⟩ := ih _ _ _ h.2
        exact ⟨_, _, _, _, .defer hw h.1 hs h1, h2⟩
      · exact h.elim

/-! ### drawn regions -/
abbrev Loud := List (Nat × SK × Nat × Nat)
abbrev DK := List Value → St → Log → Loud → Prop

def loudOne (k : Nat) (kd : SK) (lo hi : Nat) : Loud := if quietK kd then [] else [(k, kd, lo, hi)]

def retD (kn : Nat) (σ : St) (dst : Option Tmp) (ts : List Value) (acc : Loud) (lg : Log) (k : DK) : AE → St → Log → Prop
  | .ret v, σ', l => k (putL ts dst v) σ' (lg ++ l) (acc ++ [(kn, .full l, σ.next, σ'.next)])
  | .panic _, _, _ => False

def drawnW (p : PureTab P) (kn : Nat) (dst : Option Tmp) (ts : List Value) (σ : St) (acc : Loud) (lg : Log) (k : DK) : Option ORes → Prop
  | some (.val v rd) => k (putL ts dst v) σ lg (acc ++ loudOne kn (.pure rd) σ.next σ.next)
  | some (.new ob v rd) => k (putL ts dst v) (σ.new ob) lg (acc ++ [(kn, .alloc ob rd, σ.next, σ.next + 1)])
  | some (.eff v σ' l) => k (putL ts dst v) σ' (lg ++ l) (acc ++ [(kn, .full l, σ.next, σ'.next)])
  | some (.enter f args) => callW p f args σ (retD kn σ dst ts acc lg k)
  | _ => False

def wDrawn (C : Cx) (p : PureTab P) (ops : List Oper) (K : DK) : List Oper → Nat → List Value → St → Log → Loud → Prop
  | [], _, ts, σ, lg, acc => K ts σ lg acc
  | o :: rest, kn, ts, σ, lg, acc => drawnW p kn o.dst ts σ acc lg (wDrawn C p ops K rest (kn + 1)) (wantK C.T C.bodies o ts σ (wantedA ops o ts))

theorem loud_cons {s : Stp} {r : Dr} {σ' : St} {k : Nat} (h : r.σAt 0 = σ') : loud (s :: r.st) r.σ k = loudOne k s.kd s.σ.next σ'.next ++ loud r.st r.σ (k + 1) := by
  have hi : (match r.st with | [] => r.σ.next | s' :: _ => s'.σ.next) = σ'.next := by
    rw [← h]
    unfold Dr.σAt
    cases r.st with
    | nil => rfl
    | cons s' l => rfl
  have hu : loud (s :: r.st) r.σ k = if quietK s.kd then loud r.st r.σ (k + 1) else (k, s.kd, s.σ.next, (match r.st with | [] => r.σ.next | s' :: _ => s'.σ.next)) :: loud r.st r.σ (k + 1) := rfl
  rw [hu, hi]
  unfold loudOne
  split <;> simp

theorem wDrawn_sound {C : Cx} {p : PureTab P} (hC : C.Ok P) {ops : List Oper} {K : DK} : ∀ (rest : List Oper) (kn : Nat) (ts : List Value) (σ : St) (lg : Log) (acc : Loud), wDrawn C p ops K rest kn ts σ lg acc →
    ∃ r : Dr, Chain P C ops rest ts σ r ∧ K r.ts r.σ (lg ++ r.lg) (acc ++ loud r.st r.σ kn) := by
  intro rest
  induction rest with
  | nil =>
    intro kn ts σ lg acc h
    exact ⟨⟨[], ts, σ, []⟩, ⟨rfl, rfl, rfl, fun k o h => by simp at h, logged_self _ _⟩, by simpa [loud, wDrawn] using h⟩
  | cons o rest ih =>
    intro kn ts σ lg acc h
    simp only [wDrawn] at h
    cases hw : wantedA ops o ts with
    | false =>
      rw [hw] at h
      obtain ⟨r, h1, h2⟩ := ih _ _ _ _ _ h
      refine ⟨_, Chain.cons (s := ⟨ts, σ, undef, .pure []⟩) (l := []) h1 rfl rfl (.skip hw rfl rfl rfl) (logged_self _ _), ?_⟩
      show K r.ts r.σ (lg ++ ([] ++ r.lg)) (acc ++ loud (_ :: r.st) r.σ kn)
      rw [loud_cons h1.σ0, List.nil_append, ← List.append_assoc]
      exact h2
    | true =>
      rw [hw] at h
      simp only [wantK] at h
      unfold drawnW at h
      split at h
      · rename_i v rd hs
        obtain ⟨r, h1, h2⟩ := ih _ _ _ _ _ h
        refine ⟨_, Chain.cons (s := ⟨ts, σ, v, .pure rd⟩) (l := []) h1 rfl rfl (.val hw hs rfl rfl) (logged_self _ _), ?_⟩
        show K r.ts r.σ (lg ++ ([] ++ r.lg)) (acc ++ loud (_ :: r.st) r.σ kn)
        rw [loud_cons h1.σ0, List.nil_append, ← List.append_assoc]
        exact h2
      · rename_i ob v rd hs
        obtain ⟨r, h1, h2⟩ := ih _ _ _ _ _ h
        refine ⟨_, Chain.cons (s := ⟨ts, σ, v, .alloc ob rd⟩) (l := []) h1 rfl rfl (.new hw hs rfl rfl) (logged_new _ _), ?_⟩
        show K r.ts r.σ (lg ++ ([] ++ r.lg)) (acc ++ loud (_ :: r.st) r.σ kn)
        rw [loud_cons h1.σ0, List.nil_append, ← List.append_assoc]
        exact h2
      · rename_i v σ' l hs
        obtain ⟨r, h1, h2⟩ := ih _ _ _ _ _ h
        refine ⟨_, Chain.cons (s := ⟨ts, σ, v, .full l⟩) h1 rfl rfl (.eff hw hs rfl) (stepOp_log hC hs), ?_⟩
        show K r.ts r.σ (lg ++ (l ++ r.lg)) (acc ++ loud (_ :: r.st) r.σ kn)
        rw [loud_cons h1.σ0, ← List.append_assoc, ← List.append_assoc]
        exact h2
      · rename_i f args hs
        obtain ⟨e, σ', l, hc, hk⟩ := h.sound
        cases e with
        | ret v =>
          obtain ⟨r, h1, h2⟩ := ih _ _ _ _ _ hk
          refine ⟨_, Chain.cons (s := ⟨ts, σ, v, .full l⟩) h1 rfl rfl (.call hw hs hc rfl) hc.1, ?_⟩
          show K r.ts r.σ (lg ++ (l ++ r.lg)) (acc ++ loud (_ :: r.st) r.σ kn)
          rw [loud_cons h1.σ0, ← List.append_assoc, ← List.append_assoc]
          exact h2
        | panic c => exact hk.elim
      · exact h.elim

def pairOk (bj i j : Nat) (ki kj : SK) (lo hi : Nat) : Bool := decide (j ≤ i) || bj.testBit i || !clash ki kj lo hi

def dynL (B : List Nat) (l : Loud) : Bool :=
  match l with
  | [] => true
  | [_] => true
  | _ => l.all fun (j, kj, _, _) => l.all fun (i, ki, lo, hi) => pairOk (B.getD j 0) i j ki kj lo hi

def regW (C : Cx) (p : PureTab P) (rnd draw : Bool) (B : List Nat) (ops : Array Oper) (fr : Fr) (σ : St) (Q : RR → Prop) : Prop :=
  match draw with
  | false => wOps C p rnd ops.toList Q ops.toList fr σ []
  | true => wDrawn C p ops.toList (fun ts σ' lg acc => dynL B acc = true ∧ Q ⟨.norm, { fr with ts := ts }, σ', lg⟩) ops.toList 0 fr.ts σ [] []

theorem regW_sound {C : Cx} {p : PureTab P} (hC : C.Ok P) (hm : P.follows .mixedOrders = true) {bt : Nat → List Nat} {rnd draw : Bool} {id : Nat} {ops : Array Oper} {fr : Fr} {σ : St} {Q : RR → Prop} (hs : statAll bt (.region id ops draw) = true)
    (h : regW C p rnd draw (bt id) ops fr σ Q) : ∃ r, DC P rnd (.region id ops draw) fr σ r ∧ Q r := by
  cases draw with
  | false =>
    obtain ⟨x, fr', σ', l, h1, h2⟩ := wOps_sound _ _ _ _ h
    exact ⟨_, DC.ops hC h1, h2⟩
  | true =>
    obtain ⟨r, h1, h2, h3⟩ := wDrawn_sound hC _ _ _ _ _ _ h
    exact ⟨_, DC.chain hC hm (by simpa [statAll] using hs) h1 h2, h3⟩

/-! ### code -/
def preW (lg : Log) (Q : RR → Prop) (r : RR) : Prop := Q (r.pre lg)
def blockW (id : Nat) (Q : RR → Prop) (r : RR) : Prop := Q { r with x := r.x.inBlock id }
def preK (lg : Log) (K : AE → St → Log → Prop) (e : AE) (σ : St) (l : Log) : Prop := K e σ (lg ++ l)

def thenW (k : Fr → St → (RR → Prop) → Prop) (Q : RR → Prop) (r : RR) : Prop :=
  match r.x with
  | .norm => k r.fr r.σ (preW r.lg Q)
  | _ => Q r

def condW (a b : Prop) : Option Value → Prop
  | some (.bool t) => if t then a else b
  | _ => False

/-- A loop: whatever leads to its end. -/
def loopX (P : Program) (rnd : Bool) (b : Code) (fr : Fr) (σ : St) (Q : RR → Prop) : Prop := ∃ r, DL P rnd b fr σ r ∧ Q r
def scopeX (P : Program) (rnd : Bool) (body c : Code) (fr : Fr) (σ : St) (Q : RR → Prop) : Prop := ∃ r, DS P rnd body c fr σ r ∧ Q r
def rangeX (P : Program) (rnd : Bool) (g : Operand) (ps : Array Tmp) (a b : Code) (fr : Fr) (σ : St) (Q : RR → Prop) : Prop := ∃ r, DC P rnd (.rangeFunc g ps a b) fr σ r ∧ Q r

def wp (C : Cx) (p : PureTab P) (bt : Nat → List Nat) (rnd : Bool) : Code → Fr → St → (RR → Prop) → Prop
  | .skip, fr, σ, Q => Q ⟨.norm, fr, σ, []⟩
  | .label _, fr, σ, Q => Q ⟨.norm, fr, σ, []⟩
  | .exit i, fr, σ, Q => Q ⟨.exit i, fr, σ, []⟩
  | .goto i, fr, σ, Q => Q ⟨.goto i, fr, σ, []⟩
  | .ret, fr, σ, Q => Q ⟨.ret, fr, σ, []⟩
  | .seq a b, fr, σ, Q => wp C p bt rnd a fr σ (thenW (wp C p bt rnd b) Q)
  | .cond c a b, fr, σ, Q => condW (wp C p bt rnd a fr σ Q) (wp C p bt rnd b fr σ Q) (ev fr.ts c)
  | .block id b, fr, σ, Q => wp C p bt rnd b fr σ (blockW id Q)
  | .region id ops draw, fr, σ, Q => regW C p rnd draw (bt id) ops fr σ Q
  | .loop b, fr, σ, Q => loopX P rnd b fr σ Q
  | .scope b, fr, σ, Q => scopeX P rnd b b fr σ Q
  | .rangeFunc g ps a b, fr, σ, Q => rangeX P rnd g ps a b fr σ Q
  | _, _, _, _ => False

theorem wp_sound {C : Cx} {p : PureTab P} (hC : C.Ok P) (hm : P.follows .mixedOrders = true) {bt : Nat → List Nat} {rnd : Bool} : ∀ (c : Code) (fr : Fr) (σ : St) (Q : RR → Prop), statAll bt c = true → wp C p bt rnd c fr σ Q → ∃ r, DC P rnd c fr σ r ∧ Q r := by
  intro c
  induction c with
  | skip => intro fr σ Q _ h; exact ⟨_, DC.skip _ _ _, h⟩
  | label l => intro fr σ Q _ h; exact ⟨_, DC.label _ _ _ _, h⟩
  | exit i => intro fr σ Q _ h; exact ⟨_, DC.exit _ _ _ _, h⟩
  | goto i => intro fr σ Q _ h; exact ⟨_, DC.goto _ _ _ _, h⟩
  | ret => intro fr σ Q _ h; exact ⟨_, DC.ret _ _ _, h⟩
  | seq a b iha ihb =>
    intro fr σ Q hs h
    simp only [statAll, Bool.and_eq_true] at hs
    obtain ⟨r, h1, h2⟩ := iha _ _ _ hs.1 h
    unfold thenW at h2
    cases hx : r.x with
    | norm =>
      rw [hx] at h2
      obtain ⟨r', h3, h4⟩ := ihb _ _ _ hs.2 h2
      exact ⟨_, DC.seq h1 hx h3, h4⟩
    | exit i => rw [hx] at h2; exact ⟨_, DC.seq_out h1 (by rw [hx]; rfl), h2⟩
    | goto i => rw [hx] at h2; exact ⟨_, DC.seq_out h1 (by rw [hx]; rfl), h2⟩
    | ret => rw [hx] at h2; exact ⟨_, DC.seq_out h1 (by rw [hx]; rfl), h2⟩
    | panic ch => rw [hx] at h2; exact ⟨_, DC.seq_out h1 (by rw [hx]; rfl), h2⟩
  | cond c a b iha ihb =>
    intro fr σ Q hs h
    simp only [statAll, Bool.and_eq_true] at hs
    simp only [wp] at h
    unfold condW at h
    split at h
    · rename_i t hc
      cases t with
      | true =>
        obtain ⟨r, h1, h2⟩ := iha _ _ _ hs.1 (by simpa using h)
        exact ⟨r, DC.cond (t := true) hc h1, h2⟩
      | false =>
        obtain ⟨r, h1, h2⟩ := ihb _ _ _ hs.2 (by simpa using h)
        exact ⟨r, DC.cond (t := false) hc h1, h2⟩
    · exact h.elim
  | block id b ih =>
    intro fr σ Q hs h
    obtain ⟨r, h1, h2⟩ := ih _ _ _ hs h
    exact ⟨_, DC.block h1, h2⟩
  | region id ops draw => intro fr σ Q hs h; exact regW_sound hC hm hs h
  | loop b => intro fr σ Q _ h; obtain ⟨r, h1, h2⟩ := h; exact ⟨r, DC.loop h1, h2⟩
  | scope b => intro fr σ Q _ h; obtain ⟨r, h1, h2⟩ := h; exact ⟨r, DC.scope h1, h2⟩
  | rangeFunc g ps a b => intro fr σ Q _ h; exact h
  | _ => intro fr σ Q _ h; exact h.elim

theorem loopX.step {C : Cx} {p : PureTab P} (hC : C.Ok P) (hm : P.follows .mixedOrders = true) {bt : Nat → List Nat} {rnd : Bool} {b : Code} {fr : Fr} {σ : St} {Q : RR → Prop} (hs : statAll bt b = true)
    (h : wp C p bt rnd b fr σ (thenW (loopX P rnd b) Q)) : loopX P rnd b fr σ Q := by
  obtain ⟨r, h1, h2⟩ := wp_sound hC hm b fr σ _ hs h
  unfold thenW at h2
  cases hx : r.x with
  | norm =>
    rw [hx] at h2
    obtain ⟨r', h3, h4⟩ := h2
    exact ⟨_, DL.next h1 hx h3, h4⟩
  | exit i => rw [hx] at h2; exact ⟨_, DL.out h1 (by rw [hx]; rfl), h2⟩
  | goto i => rw [hx] at h2; exact ⟨_, DL.out h1 (by rw [hx]; rfl), h2⟩
  | ret => rw [hx] at h2; exact ⟨_, DL.out h1 (by rw [hx]; rfl), h2⟩
  | panic ch => rw [hx] at h2; exact ⟨_, DL.out h1 (by rw [hx]; rfl), h2⟩

theorem loopX.mono {rnd : Bool} {b : Code} {fr : Fr} {σ : St} {Q Q' : RR → Prop} (h : loopX P rnd b fr σ Q) (k : ∀ r, Logged σ r.σ r.lg → Q r → Q' r) : loopX P rnd b fr σ Q' :=
  let ⟨r, h1, h2⟩ := h
  ⟨r, h1, k r h1.1 h2⟩

def scopeW (P : Program) (rnd : Bool) (body : Code) (Q : RR → Prop) (r : RR) : Prop :=
  match r.x with
  | .goto l => match findLabel body l with
    | some rest => scopeX P rnd body rest r.fr r.σ (preW r.lg Q)
    | none => Q r
  | _ => Q r

theorem scopeX.step {C : Cx} {p : PureTab P} (hC : C.Ok P) (hm : P.follows .mixedOrders = true) {bt : Nat → List Nat} {rnd : Bool} {body c : Code} {fr : Fr} {σ : St} {Q : RR → Prop} (hs : statAll bt c = true)
    (h : wp C p bt rnd c fr σ (scopeW P rnd body Q)) : scopeX P rnd body c fr σ Q := by
  obtain ⟨r, h1, h2⟩ := wp_sound hC hm c fr σ _ hs h
  unfold scopeW at h2
  split at h2
  · rename_i l hx
    split at h2
    · rename_i rest hf
      obtain ⟨r', h3, h4⟩ := h2
      exact ⟨_, DS.jump h1 hx hf h3, h4⟩
    · rename_i hf
      exact ⟨_, DS.out h1 fun l' hl => by rw [hx] at hl; cases hl; exact hf, h2⟩
  · rename_i hne
    exact ⟨_, DS.out h1 fun l hl => (hne l hl).elim, h2⟩

def endW (C : Cx) (rs : List ResultVar) (K : AE → St → Log → Prop) (r : RR) : Prop :=
  match endsA C.T rs r with
  | some e => K e r.σ r.lg
  | none => False

theorem callX.enter {C : Cx} {p : PureTab P} (hC : C.Ok P) (hm : P.follows .mixedOrders = true) {bt : Nat → List Nat} {f : FuncId} {fn : Func} {c : Code} {args : List Value} {σ : St} {K : AE → St → Log → Prop}
    (hf : P.funcs[f]? = some fn) (hb : fn.body = some c) (hs : statAll bt c = true) (h : wp C p bt false c (start args fn.ntmps) σ (endW C fn.results.toList K)) : callX P f args σ K := by
  obtain ⟨r, h1, h2⟩ := wp_sound hC hm c _ _ _ hs h
  unfold endW at h2
  split at h2
  · rename_i e he
    exact ⟨_, _, _, DCall.of_code hC.T ⟨hf, hb⟩ h1 he, h2⟩
  · exact h2.elim

/-! ### deferred calls -/
def deferX (P : Program) (f : FuncId) (args : List Value) (u : AM) (σ : St) (K : AE → AM → St → Log → Prop) : Prop := ∃ e u' σ' l, DDefer P f args u σ e u' σ' l ∧ K e u' σ' l
def leaveX (P : Program) (fn : Func) (ts : List Value) (ds : List Deferred) (u : AM) (σ : St) (K : AE → St → Log → Prop) : Prop := ∃ e σ' l, DLeave P fn ts ds u σ e σ' l ∧ K e σ' l

theorem deferX.recover {C : Cx} {p : PureTab P} (hC : C.Ok P) (hm : P.follows .mixedOrders = true) {bt : Nat → List Nat} {f : FuncId} {fn : Func} {c : Code} {id : Nat} {o : Oper} {tys : Array TypeId} {args : List Value} {u : AM} {σ : St} {K : AE → AM → St → Log → Prop}
    (hf : P.funcs[f]? = some fn) (hb : fn.body = some (.seq (.region id #[o] false) c)) (hop : o.op = .call { callee := .builtin .recover, args := #[], argTypes := tys }) (hg : o.guard = none) (hs : statAll bt c = true)
    (h : wp C p bt false c ((start args fn.ntmps).put o.dst (recoverA u).1) σ (endW C fn.results.toList fun e σ' l => K e (recoverA u).2 σ' l)) : deferX P f args u σ K := by
  obtain ⟨r, h1, h2⟩ := wp_sound hC hm c _ _ _ hs h
  unfold endW at h2
  split at h2
  · rename_i e he
    exact ⟨_, _, _, _, DDefer.of_recover hC.T ⟨hf, hb⟩ hop hg h1 he, h2⟩
  · exact h2.elim

theorem leaveX.ret {C : Cx} (hC : C.Ok P) {fn : Func} {ts : List Value} {σ : St} {v : Value} {K : AE → St → Log → Prop} (h : resA C.T σ ts fn.results.toList = some v) (k : K (.ret v) σ []) : leaveX P fn ts [] .returning σ K := ⟨_, _, _, DLeave.returned hC.T h, k⟩
theorem leaveX.panic {fn : Func} {ts : List Value} {σ : St} {c : List PanicEntry} {K : AE → St → Log → Prop} (k : K (.panic c) σ []) : leaveX P fn ts [] (.panicking c) σ K := ⟨_, _, _, DLeave.panicked, k⟩
def leaveK (P : Program) (fn : Func) (ts : List Value) (ds : List Deferred) (K : AE → St → Log → Prop) (e : AE) (u : AM) (σ : St) (l : Log) : Prop :=
  match nextMode e u with
  | some u₂ => leaveX P fn ts ds u₂ σ (preK l K)
  | none => False
theorem leaveX.cons {fn : Func} {ts : List Value} {ds : List Deferred} {f : FuncId} {cap args : Array Value} {u : AM} {σ : St} {K : AE → St → Log → Prop} (hb : HasBody P f)
    (h : deferX P f (args.toList ++ cap.toList) u σ (leaveK P fn ts ds K)) : leaveX P fn ts ({ target := .fn (.func f) cap, args := args } :: ds) u σ K := by
  obtain ⟨e, u', σ', l, h1, h2⟩ := h
  unfold leaveK at h2
  split at h2
  · rename_i u₂ hn
    obtain ⟨e₂, σ₂, l₂, h3, h4⟩ := h2
    exact ⟨_, _, _, DLeave.cons rfl hb h1 hn h3, h4⟩
  · exact h2.elim

def endD (P : Program) (C : Cx) (fn : Func) (K : AE → St → Log → Prop) (r : RR) : Prop :=
  match modeOf r.x with
  | some u => leaveX P fn r.fr.ts r.fr.ds u r.σ (preK r.lg K)
  | none => False

theorem callX.enterD {C : Cx} {p : PureTab P} (hC : C.Ok P) (hm : P.follows .mixedOrders = true) {bt : Nat → List Nat} {f : FuncId} {fn : Func} {c : Code} {args : List Value} {σ : St} {K : AE → St → Log → Prop}
    (hf : P.funcs[f]? = some fn) (hb : fn.body = some c) (hs : statAll bt c = true) (h : wp C p bt false c (start args fn.ntmps) σ (endD P C fn K)) : callX P f args σ K := by
  obtain ⟨r, h1, h2⟩ := wp_sound hC hm c _ _ _ hs h
  unfold endD at h2
  split at h2
  · rename_i u hu
    obtain ⟨e, σ', l, h3, h4⟩ := h2
    refine ⟨_, _, _, DCall.of_code_defers ⟨hf, hb⟩ h1 ?_ h3, h4⟩
    unfold modeOf at hu
    split at hu <;> cases hu <;> simp_all
  · exact h2.elim

/-! ### equations, and where 'simp' does not look -/
section eqs
variable {C : Cx} {p : PureTab P} {bt : Nat → List Nat} {rnd : Bool} {fr : Fr} {σ : St} {Q : RR → Prop}
theorem wp_skip : wp C p bt rnd .skip fr σ Q = Q ⟨.norm, fr, σ, []⟩ := (rfl)
theorem wp_label {l : Nat} : wp C p bt rnd (.label l) fr σ Q = Q ⟨.norm, fr, σ, []⟩ := (rfl)
theorem wp_exit {i : Nat} : wp C p bt rnd (.exit i) fr σ Q = Q ⟨.exit i, fr, σ, []⟩ := (rfl)
theorem wp_goto {i : Nat} : wp C p bt rnd (.goto i) fr σ Q = Q ⟨.goto i, fr, σ, []⟩ := (rfl)
theorem wp_ret : wp C p bt rnd .ret fr σ Q = Q ⟨.ret, fr, σ, []⟩ := (rfl)
theorem wp_seq {a b : Code} : wp C p bt rnd (.seq a b) fr σ Q = wp C p bt rnd a fr σ (thenW (wp C p bt rnd b) Q) := (rfl)
theorem wp_cond {c : Operand} {a b : Code} : wp C p bt rnd (.cond c a b) fr σ Q = condW (wp C p bt rnd a fr σ Q) (wp C p bt rnd b fr σ Q) (ev fr.ts c) := (rfl)
theorem wp_block {id : Nat} {b : Code} : wp C p bt rnd (.block id b) fr σ Q = wp C p bt rnd b fr σ (blockW id Q) := (rfl)
theorem wp_ops {id : Nat} {ops : List Oper} : wp C p bt rnd (.region id ⟨ops⟩ false) fr σ Q = wOps C p rnd ops Q ops fr σ [] := (rfl)
theorem wp_drawn {id : Nat} {ops : List Oper} : wp C p bt rnd (.region id ⟨ops⟩ true) fr σ Q = wDrawn C p ops (fun ts σ' lg acc => dynL (bt id) acc = true ∧ Q ⟨.norm, { fr with ts := ts }, σ', lg⟩) ops 0 fr.ts σ [] [] := (rfl)
theorem wp_loop {b : Code} : wp C p bt rnd (.loop b) fr σ Q = loopX P rnd b fr σ Q := (rfl)
theorem wp_scope {b : Code} : wp C p bt rnd (.scope b) fr σ Q = scopeX P rnd b b fr σ Q := (rfl)
theorem wp_range {g : Operand} {ps : Array Tmp} {a b : Code} : wp C p bt rnd (.rangeFunc g ps a b) fr σ Q = rangeX P rnd g ps a b fr σ Q := (rfl)
theorem wOps_nil {ops : List Oper} {lg : Log} : wOps C p rnd ops Q [] fr σ lg = Q ⟨.norm, fr, σ, lg⟩ := (rfl)
theorem wOps_cons {ops rest : List Oper} {o : Oper} {lg : Log} : wOps C p rnd ops Q (o :: rest) fr σ lg = opsW p rnd o.dst fr σ lg (wOps C p rnd ops Q rest) Q (wantK C.T C.bodies o fr.ts σ (wantedA ops o fr.ts)) := (rfl)
theorem wDrawn_nil {ops : List Oper} {K : DK} {kn : Nat} {ts : List Value} {lg : Log} {acc : Loud} : wDrawn C p ops K [] kn ts σ lg acc = K ts σ lg acc := (rfl)
theorem wDrawn_cons {ops rest : List Oper} {o : Oper} {K : DK} {kn : Nat} {ts : List Value} {lg : Log} {acc : Loud} : wDrawn C p ops K (o :: rest) kn ts σ lg acc = drawnW p kn o.dst ts σ acc lg (wDrawn C p ops K rest (kn + 1)) (wantK C.T C.bodies o ts σ (wantedA ops o ts)) := (rfl)

theorem wp_congr {c : Code} {fr' : Fr} {σ' : St} (h : fr = fr') (h' : σ = σ') : wp C p bt rnd c fr σ Q = wp C p bt rnd c fr' σ' Q := by rw [h, h']
theorem wOps_congr {ops rest : List Oper} {fr' : Fr} {σ' : St} {lg lg' : Log} (h : fr = fr') (h' : σ = σ') (h2 : lg = lg') : wOps C p rnd ops Q rest fr σ lg = wOps C p rnd ops Q rest fr' σ' lg' := by rw [h, h', h2]
theorem opsW_congr {dst : Option Tmp} {lg : Log} {k : Fr → St → Log → Prop} {o o' : Option ORes} (h : o = o') : opsW p rnd dst fr σ lg k Q o = opsW p rnd dst fr σ lg k Q o' := by rw [h]
theorem wDrawn_congr {ops rest : List Oper} {K : DK} {kn kn' : Nat} {ts ts' : List Value} {σ' : St} {lg lg' : Log} {acc acc' : Loud} (h0 : kn = kn') (h : ts = ts') (h' : σ = σ') (h2 : lg = lg') (h3 : acc = acc') : wDrawn C p ops K rest kn ts σ lg acc = wDrawn C p ops K rest kn' ts' σ' lg' acc' := by rw [h0, h, h', h2, h3]
theorem drawnW_congr {kn : Nat} {dst : Option Tmp} {ts : List Value} {acc : Loud} {lg : Log} {k : DK} {o o' : Option ORes} (h : o = o') : drawnW p kn dst ts σ acc lg k o = drawnW p kn dst ts σ acc lg k o' := by rw [h]
theorem condW_congr {a b : Prop} {o o' : Option Value} (h : o = o') : condW a b o = condW a b o' := by rw [h]
theorem condW_true {a b : Prop} : condW a b (some (.bool true)) = a := (rfl)
theorem condW_false {a b : Prop} : condW a b (some (.bool false)) = b := (rfl)
theorem condW_dec {a b c : Prop} [Decidable c] : condW a b (some (.bool (decide c))) = if c then a else b := by
  by_cases h : c <;> simp [condW, h]
theorem thenW_norm {k : Fr → St → (RR → Prop) → Prop} {lg : Log} : thenW k Q ⟨.norm, fr, σ, lg⟩ = k fr σ (preW lg Q) := (rfl)
theorem thenW_exit {k : Fr → St → (RR → Prop) → Prop} {lg : Log} {i : Nat} : thenW k Q ⟨.exit i, fr, σ, lg⟩ = Q ⟨.exit i, fr, σ, lg⟩ := (rfl)
theorem thenW_goto {k : Fr → St → (RR → Prop) → Prop} {lg : Log} {i : Nat} : thenW k Q ⟨.goto i, fr, σ, lg⟩ = Q ⟨.goto i, fr, σ, lg⟩ := (rfl)
theorem thenW_ret {k : Fr → St → (RR → Prop) → Prop} {lg : Log} : thenW k Q ⟨.ret, fr, σ, lg⟩ = Q ⟨.ret, fr, σ, lg⟩ := (rfl)
theorem thenW_panic {k : Fr → St → (RR → Prop) → Prop} {lg : Log} {c : List PanicEntry} : thenW k Q ⟨.panic c, fr, σ, lg⟩ = Q ⟨.panic c, fr, σ, lg⟩ := (rfl)
theorem retW_ret {dst : Option Tmp} {lg l : Log} {k : Fr → St → Log → Prop} {v : Value} : retW fr dst lg k Q (.ret v) σ l = k (fr.put dst v) σ (lg ++ l) := (rfl)
theorem retW_panic {dst : Option Tmp} {lg l : Log} {k : Fr → St → Log → Prop} {c : List PanicEntry} : retW fr dst lg k Q (.panic c) σ l = Q ⟨.panic c, fr, σ, lg ++ l⟩ := (rfl)
theorem opsW_val {dst : Option Tmp} {lg : Log} {k : Fr → St → Log → Prop} {v : Value} {rd : List Nat} : opsW p rnd dst fr σ lg k Q (some (.val v rd)) = k (fr.put dst v) σ lg := (rfl)
theorem opsW_new {dst : Option Tmp} {lg : Log} {k : Fr → St → Log → Prop} {v : Value} {ob : AObj} {rd : List Nat} : opsW p rnd dst fr σ lg k Q (some (.new ob v rd)) = k (fr.put dst v) (σ.new ob) lg := (rfl)
theorem opsW_eff {dst : Option Tmp} {lg l : Log} {k : Fr → St → Log → Prop} {v : Value} {σ' : St} : opsW p rnd dst fr σ lg k Q (some (.eff v σ' l)) = k (fr.put dst v) σ' (lg ++ l) := (rfl)
theorem opsW_panic {dst : Option Tmp} {lg : Log} {k : Fr → St → Log → Prop} {v : Value} : opsW p rnd dst fr σ lg k Q (some (.panic v)) = Q ⟨.panic [{ v, recovered := false }], fr, σ, lg⟩ := (rfl)
theorem opsW_enter {dst : Option Tmp} {lg : Log} {k : Fr → St → Log → Prop} {f : FuncId} {args : List Value} : opsW p rnd dst fr σ lg k Q (some (.enter f args)) = callW p f args σ (retW fr dst lg k Q) := (rfl)
theorem opsW_round {dst : Option Tmp} {lg : Log} {k : Fr → St → Log → Prop} {r : Nat} {args : List Value} : opsW p rnd dst fr σ lg k Q (some (.round r args)) = roundX P r args σ (retW fr dst lg k Q) := (rfl)
theorem opsW_defer {dst : Option Tmp} {lg : Log} {k : Fr → St → Log → Prop} {d : Deferred} : opsW p false dst fr σ lg k Q (some (.defer d)) = k ({ fr with ds := d :: fr.ds }.put dst undef) σ lg := by simp [opsW]
theorem retD_ret {kn : Nat} {dst : Option Tmp} {ts : List Value} {acc : Loud} {lg l : Log} {k : DK} {v : Value} {σ' : St} : retD kn σ dst ts acc lg k (.ret v) σ' l = k (putL ts dst v) σ' (lg ++ l) (acc ++ [(kn, .full l, σ.next, σ'.next)]) := (rfl)
theorem drawnW_val {kn : Nat} {dst : Option Tmp} {ts : List Value} {acc : Loud} {lg : Log} {k : DK} {v : Value} {rd : List Nat} : drawnW p kn dst ts σ acc lg k (some (.val v rd)) = k (putL ts dst v) σ lg (acc ++ loudOne kn (.pure rd) σ.next σ.next) := (rfl)
theorem drawnW_new {kn : Nat} {dst : Option Tmp} {ts : List Value} {acc : Loud} {lg : Log} {k : DK} {v : Value} {ob : AObj} {rd : List Nat} : drawnW p kn dst ts σ acc lg k (some (.new ob v rd)) = k (putL ts dst v) (σ.new ob) lg (acc ++ [(kn, .alloc ob rd, σ.next, σ.next + 1)]) := (rfl)
theorem drawnW_eff {kn : Nat} {dst : Option Tmp} {ts : List Value} {acc : Loud} {lg l : Log} {k : DK} {v : Value} {σ' : St} : drawnW p kn dst ts σ acc lg k (some (.eff v σ' l)) = k (putL ts dst v) σ' (lg ++ l) (acc ++ [(kn, .full l, σ.next, σ'.next)]) := (rfl)
theorem drawnW_enter {kn : Nat} {dst : Option Tmp} {ts : List Value} {acc : Loud} {lg : Log} {k : DK} {f : FuncId} {args : List Value} : drawnW p kn dst ts σ acc lg k (some (.enter f args)) = callW p f args σ (retD kn σ dst ts acc lg k) := (rfl)
theorem loudOne_quiet {kn lo hi : Nat} : loudOne kn (.pure []) lo hi = [] := (rfl)
theorem loudOne_pure {kn lo hi r : Nat} {rd : List Nat} : loudOne kn (.pure (r :: rd)) lo hi = [(kn, .pure (r :: rd), lo, hi)] := (rfl)
theorem callW_congr {f : FuncId} {args args' : List Value} {K : AE → St → Log → Prop} {σ' : St} (h : args = args') (h' : σ = σ') : callW p f args σ K = callW p f args' σ' K := by rw [h, h']
theorem callX_congr {f : FuncId} {args args' : List Value} {K : AE → St → Log → Prop} {σ' : St} (h : args = args') (h' : σ = σ') : callX P f args σ K = callX P f args' σ' K := by rw [h, h']
theorem callO_congr {f : FuncId} {args args' : List Value} {K : AE → St → Log → Prop} {σ' : St} {o o' : Option Value} (h : args = args') (h' : σ = σ') (h2 : o = o') : callO P f args σ K o = callO P f args' σ' K o' := by rw [h, h', h2]
theorem callO_some {f : FuncId} {args : List Value} {K : AE → St → Log → Prop} {v : Value} : callO P f args σ K (some v) = K (.ret v) σ [] := (rfl)
theorem callO_none {f : FuncId} {args : List Value} {K : AE → St → Log → Prop} : callO P f args σ K none = callX P f args σ K := (rfl)
theorem loopX_congr {b : Code} {fr' : Fr} {σ' : St} (h : fr = fr') (h' : σ = σ') : loopX P rnd b fr σ Q = loopX P rnd b fr' σ' Q := by rw [h, h']
theorem scopeX_congr {b c : Code} {fr' : Fr} {σ' : St} (h : fr = fr') (h' : σ = σ') : scopeX P rnd b c fr σ Q = scopeX P rnd b c fr' σ' Q := by rw [h, h']
theorem rangeX_congr {g : Operand} {ps : Array Tmp} {a b : Code} {fr' : Fr} {σ' : St} (h : fr = fr') (h' : σ = σ') : rangeX P rnd g ps a b fr σ Q = rangeX P rnd g ps a b fr' σ' Q := by rw [h, h']
theorem thenW_congr {k : Fr → St → (RR → Prop) → Prop} {r r' : RR} (h : r = r') : thenW k Q r = thenW k Q r' := by rw [h]
theorem retW_congr {dst : Option Tmp} {lg l l' : Log} {k : Fr → St → Log → Prop} {e e' : AE} {σ' : St} (h : e = e') (h' : σ = σ') (h2 : l = l') : retW fr dst lg k Q e σ l = retW fr dst lg k Q e' σ' l' := by rw [h, h', h2]
theorem retD_congr {kn : Nat} {dst : Option Tmp} {ts : List Value} {acc : Loud} {lg l l' : Log} {k : DK} {e e' : AE} {σ₁ σ₂ : St} (h : e = e') (h' : σ₁ = σ₂) (h2 : l = l') : retD kn σ dst ts acc lg k e σ₁ l = retD kn σ dst ts acc lg k e' σ₂ l' := by rw [h, h', h2]
theorem callW_some {f : FuncId} {args : List Value} {K : AE → St → Log → Prop} {v : Value} (h : p.get f args = some v) : callW p f args σ K = K (.ret v) σ [] := by unfold callW; rw [h]; rfl
def endK (K : AE → St → Log → Prop) (σ : St) (lg : Log) : Option AE → Prop
  | some e => K e σ lg
  | none => False
theorem endK_some {K : AE → St → Log → Prop} {lg : Log} {e : AE} : endK K σ lg (some e) = K e σ lg := (rfl)
theorem endK_congr {K : AE → St → Log → Prop} {lg lg' : Log} {e e' : Option AE} {σ' : St} (h : e = e') (h' : σ = σ') (h2 : lg = lg') : endK K σ lg e = endK K σ' lg' e' := by rw [h, h', h2]
theorem endW_mk {rs : List ResultVar} {K : AE → St → Log → Prop} {x : AX} {lg : Log} : endW C rs K ⟨x, fr, σ, lg⟩ = endK K σ lg (endsA C.T rs ⟨x, fr, σ, lg⟩) := by
  unfold endW endK
  cases endsA C.T rs ⟨x, fr, σ, lg⟩ <;> rfl
theorem endD_ret {fn : Func} {K : AE → St → Log → Prop} {lg : Log} {ts : List Value} {ds : List Deferred} : endD P C fn K ⟨.ret, ⟨ts, ds⟩, σ, lg⟩ = leaveX P fn ts ds .returning σ (preK lg K) := (rfl)
theorem endD_norm {fn : Func} {K : AE → St → Log → Prop} {lg : Log} {ts : List Value} {ds : List Deferred} : endD P C fn K ⟨.norm, ⟨ts, ds⟩, σ, lg⟩ = leaveX P fn ts ds .returning σ (preK lg K) := (rfl)
theorem endD_panic {fn : Func} {K : AE → St → Log → Prop} {lg : Log} {ts : List Value} {ds : List Deferred} {c : List PanicEntry} : endD P C fn K ⟨.panic c, ⟨ts, ds⟩, σ, lg⟩ = leaveX P fn ts ds (.panicking c) σ (preK lg K) := (rfl)
theorem leaveX_congr {fn : Func} {K : AE → St → Log → Prop} {ts ts' : List Value} {ds ds' : List Deferred} {u : AM} {σ' : St} (h : ts = ts') (h1 : ds = ds') (h2 : σ = σ') : leaveX P fn ts ds u σ K = leaveX P fn ts' ds' u σ' K := by rw [h, h1, h2]
theorem leaveK_ret {fn : Func} {ts : List Value} {ds : List Deferred} {K : AE → St → Log → Prop} {v : Value} {l : Log} : leaveK P fn ts ds K (.ret v) .returning σ l = leaveX P fn ts ds .returning σ (preK l K) := (rfl)
theorem leaveK_done {fn : Func} {ts : List Value} {ds : List Deferred} {K : AE → St → Log → Prop} {v w : Value} {l : Log} : leaveK P fn ts ds K (.ret v) (.panicking [{ v := w, recovered := true }]) σ l = leaveX P fn ts ds .returning σ (preK l K) := (rfl)
theorem preW_mk {x : AX} {l lg : Log} : preW l Q ⟨x, fr, σ, lg⟩ = Q ⟨x, fr, σ, l ++ lg⟩ := (rfl)
theorem blockW_mk {id : Nat} {x : AX} {lg : Log} : blockW id Q ⟨x, fr, σ, lg⟩ = Q ⟨x.inBlock id, fr, σ, lg⟩ := (rfl)
theorem preK_eq {K : AE → St → Log → Prop} {e : AE} {l lg : Log} : preK l K e σ lg = K e σ (l ++ lg) := (rfl)
theorem scopeW_goto {body : Code} {lg : Log} {l : Nat} : scopeW P rnd body Q ⟨.goto l, fr, σ, lg⟩ = match findLabel body l with | some rest => scopeX P rnd body rest fr σ (preW lg Q) | none => Q ⟨.goto l, fr, σ, lg⟩ := (rfl)
theorem scopeW_norm {body : Code} {lg : Log} : scopeW P rnd body Q ⟨.norm, fr, σ, lg⟩ = Q ⟨.norm, fr, σ, lg⟩ := (rfl)
theorem scopeW_ret {body : Code} {lg : Log} : scopeW P rnd body Q ⟨.ret, fr, σ, lg⟩ = Q ⟨.ret, fr, σ, lg⟩ := (rfl)
theorem scopeW_exit {body : Code} {lg : Log} {i : Nat} : scopeW P rnd body Q ⟨.exit i, fr, σ, lg⟩ = Q ⟨.exit i, fr, σ, lg⟩ := (rfl)
theorem scopeW_panic {body : Code} {lg : Log} {c : List PanicEntry} : scopeW P rnd body Q ⟨.panic c, fr, σ, lg⟩ = Q ⟨.panic c, fr, σ, lg⟩ := (rfl)
theorem endW_eq {rs : List ResultVar} {K : AE → St → Log → Prop} {r : RR} {e : AE} (h : endsA C.T rs r = some e) : endW C rs K r = K e r.σ r.lg := by unfold endW; rw [h]
end eqs

/-- The same, with more of the library's functions. -/
def withExt (C : Cx) (e : FuncId → Option Ext) : Cx := { T := { info := C.T.info, flat := C.T.flat, ext := e }, bodies := C.bodies }
theorem withExt_ok {C : Cx} (hC : C.Ok P) {e : FuncId → Option Ext} (he : ∀ g x, e g = some x → ExtIs P g x) : (withExt C e).Ok P := ⟨⟨hC.T.info, hC.T.flat, he⟩, hC.bodies⟩
theorem withExt_und (C : Cx) (e : FuncId → Option Ext) (t : TypeId) : (withExt C e).T.und t = C.T.und t := rfl
theorem withExt_info (C : Cx) (e : FuncId → Option Ext) (t : TypeId) : (withExt C e).T.info t = C.T.info t := rfl
theorem withExt_flat (C : Cx) (e : FuncId → Option Ext) (t : TypeId) : (withExt C e).T.flat t = C.T.flat t := rfl
theorem withExt_ext (C : Cx) (e : FuncId → Option Ext) (t : TypeId) : (withExt C e).T.ext t = e t := rfl
theorem withExt_bodies (C : Cx) (e : FuncId → Option Ext) (g : FuncId) : (withExt C e).bodies g = C.bodies g := rfl

end Go.Ab

set_option linter.unusedSimpArgs false
set_option linter.unusedVariables false
namespace Go.Ab
open Go.Proofs

def btTab : List (Nat × List (Nat × List Nat)) := [
  (5, [(17, [0, 0, 0, 0, 12, 28, 60, 127, 255, 511, 511, 0, 3071, 8191]), (19, [0, 0, 0, 0, 12, 28, 60, 127, 255, 511, 511, 0, 3071, 8191])]),
  (6, [(9, [0, 0, 3, 7, 15, 31, 63, 127, 127, 511, 1023, 2047, 4095, 8191, 16383, 32767, 32767, 131071, 262143, 524287, 1048575, 2097151, 4194303, 8388607, 8388607, 33554431, 67108863, 134217727, 268435455, 536870911, 1073741823, 2147483647, 4294967295, 8589934591, 17179869183, 17179869183, 51539607551, 137438953471, 274877906943, 549755813887, 17179869183, 17179869183, 3315714752511, 7713761263615, 16509854285823, 35184372088831, 70368744177663, 140737488355327]), (16, [0, 0, 0, 0, 0, 24, 56, 120, 0, 0, 768, 1792, 3840, 8184, 16380, 32766, 65535]), (18, [0, 0, 0, 0, 12, 28, 60, 126, 0, 0, 768, 1792, 3840, 8191, 16383, 32767, 32767, 0, 196607, 524287])]),
  (8, [(8, [0, 0, 0, 0, 12, 28, 63, 127, 255, 255, 0, 1535, 4095]), (14, [0, 0, 2, 7, 15, 31, 63, 127, 127, 383, 127, 1919, 3967, 8191, 16383, 32767, 65535, 131071, 262143, 524287, 1048575, 1048575, 4194303, 8388607, 16777215])]),
  (9, [(31, [0, 1, 3, 7, 15, 31, 63, 15, 143, 511, 1023, 2047, 4095, 8191, 16383, 32767, 65535, 131071, 262143, 524287, 1048575])]),
  (10, [(8, [0, 0, 0, 0, 12, 28, 63, 127, 255, 255, 511]), (16, [0, 0, 2, 6, 15, 31, 63, 63, 191, 63, 959, 1983, 4095, 8191]), (24, [0, 0, 0, 0, 12, 28, 63, 127, 255, 255, 511]), (25, [0, 0, 0, 4, 12, 30, 63, 127, 255, 255, 1023, 2047, 4095, 8191, 8191, 32767, 65535, 131071, 262143, 262143, 1048575, 262143, 2359295, 262143, 8650751, 33554431, 67108863, 134217727, 268435455, 536870911, 536870911, 2147483647, 4294967295, 8589934591, 17179869183, 34359738367, 68719476735])]),
  (14, [(11, [0, 0, 2, 6, 14, 0, 0, 0, 128, 384, 896, 2016, 4064, 8190, 16383, 32767, 65535])]),
  (15, [(8, [0, 1, 3, 7, 0, 0, 63, 127, 255])]),
  (18, [(15, [0, 0, 0, 6, 14, 30, 30, 126, 254, 31, 1023])]),
  (20, [(1, [0, 1, 3, 7, 0, 16, 48, 127, 255, 0, 512, 2047, 4095, 0, 8192, 24576, 65535, 131071, 262143, 524287])]),
  (24, [(9, [0, 1, 3, 7, 0, 0, 0, 0, 0, 256, 992, 2016, 4095])]),
  (25, [(3, [0, 1, 3, 7, 0, 16, 63, 127]), (4, [0, 1, 3, 7, 0, 16, 63, 127, 255, 255, 0, 1535, 4095]), (11, [0, 1, 0, 4, 12, 28, 0, 64, 192, 448, 1020, 2047, 4095]), (15, [0, 1, 0, 4, 12, 28, 63, 127, 255, 511, 511, 0, 3071, 8191]), (16, [0, 1, 0, 4, 12, 28, 63, 127, 255, 255, 0, 1535, 4095]), (20, [0, 0, 0, 0, 8, 24, 56, 0, 128, 504, 125, 1149, 3197, 8191, 16383, 32767]), (21, [0, 1, 3, 7, 0, 16, 0, 127]), (22, [0, 1, 3, 7, 0, 16, 0, 127])]),
  (26, [(4, [0, 1, 3, 7, 0, 16, 63, 0, 255]), (5, [0, 1, 3, 7, 0, 16, 63]), (6, [0, 1, 3, 7, 0, 16, 63, 127, 255, 511, 0, 1024, 4095, 8191, 16383, 32767]), (7, [0, 0, 2, 1, 15, 31])]),
  (29, [(7, [0, 0, 2, 6, 15, 31, 63, 63, 191, 63, 959, 1983, 4095, 8191]), (11, [0, 0, 2, 6, 15, 31, 63, 127, 63, 511, 1023, 2047, 4095, 4095, 12287, 32767, 65535, 131071, 262143, 524287, 1048575, 2097151, 2097151, 6291455, 14680063, 31457279, 67108863, 134217727, 268435455, 536870911])]),
  (34, [(3, [0, 1, 3, 7, 0, 0, 0, 0, 128, 384, 896, 2047, 4095])]),
  (35, [(3, [0, 1, 0, 4, 12, 28, 63, 127]), (5, [0, 1, 3, 7, 0, 31, 63])]),
  (36, [(14, [0, 1, 3, 7, 0, 0, 48, 0, 128, 384, 896, 1920, 3968, 8064, 0, 32640, 112, 131071, 262143, 524287]), (16, [0, 1, 3, 7, 0, 16, 48, 112, 255, 511, 1023, 2047])]),
  (37, [(3, [0, 1, 3, 7, 15, 31, 63, 127, 0, 256, 768, 1792, 3840, 7936, 16128, 255, 65535, 131071])]),
  (38, [(3, [0, 1, 0, 4, 12, 28, 63, 127]), (5, [0, 1, 3, 7, 0, 0, 32, 96, 224, 511, 1023, 1023, 4095, 8191])]),
  (39, [(3, [0, 1, 3, 7, 15, 31, 63, 0, 128, 384, 896, 1983, 0, 4096, 12288, 28672, 65535, 131071, 262143])]),
  (42, [(6, [0, 0, 3, 7, 0, 0, 48, 112, 255])]),
  (45, [(1, [0, 1, 3, 7, 15, 31, 63, 127, 255, 511, 1023, 2047, 511, 4607, 12799, 32767, 65535, 131071])]),
  (46, [(0, [0, 1, 3, 7, 15, 0, 32, 96, 224, 0, 992, 2016, 4064, 0, 16383])]),
  (47, [(2, [0, 1, 3, 7, 0, 31, 63, 0, 128, 384, 896, 0, 3968, 8064, 16383, 32767])]),
  (49, [(1, [0, 1, 3, 7, 0, 31, 63, 0, 128, 384, 896, 1920, 3968, 0, 8319, 32767]), (4, [0, 1, 3, 7, 15, 0, 32, 127])]),
  (51, [(8, [0, 0, 3, 0, 15, 31, 63])]),
  (53, [(3, [0, 1, 0, 4, 12, 28, 3, 127, 255])]),
  (54, [(11, [0, 0, 0, 6, 14, 30, 0, 0, 192, 448, 960, 2046, 4095, 8191])]),
  (57, [(6, [0, 0, 3, 7, 0, 0, 48, 112, 255]), (7, [0, 0, 3, 7, 0, 0, 48, 112, 255, 511])]),
  (70, [(5, [0, 1, 0, 4, 12, 28, 0, 64, 252, 511, 1023]), (7, [0, 1, 3, 7, 15, 0, 32, 127, 255, 511, 1023, 2047]), (9, [0, 1, 3, 7, 0, 16, 48, 112, 240, 511]), (10, [0, 0, 2, 6, 0, 16, 48, 112, 240, 511]), (11, [0, 1, 3, 7, 0, 0, 32, 96, 224, 496, 0, 2047, 4095])]),
  (76, [(6, [0, 0, 3, 7, 0, 0, 48, 112, 255])]),
  (77, [(2, [0, 0, 0, 6, 3, 31])]),
  (81, [(4, [0, 0, 2, 6, 14, 30, 63, 127, 255, 511, 1023, 2047, 255, 8191, 16383, 255, 33023, 98559, 229631, 255, 1016063, 2064639, 4194303, 8388607, 16777215])]),
  (83, [(3, [0, 1, 0, 7, 15, 31, 0, 64, 255, 511]), (4, [0, 1, 3, 7, 15, 31, 63, 127, 63, 511, 1023, 2047, 63, 4159, 16383, 32767, 65535]), (6, [0, 1, 0, 7, 15, 0, 32, 127, 0, 256, 0, 1792, 4095, 8191, 16383])]),
  (84, [(1, [0, 1, 0, 7, 15, 0, 32, 0, 128, 480, 1023, 2047, 4095])]),
  (88, [(5, [0, 1, 3, 0, 8, 24, 63, 0, 128, 511, 0, 1024, 3072, 8191, 0, 0, 65535, 131071]), (8, [0, 0, 3, 0, 8, 24, 63, 127])]),
  (90, [(2, [0, 1, 0, 4, 0, 16, 60, 127, 255, 511, 1023, 0, 2303, 8191, 16383])]),
  (92, [(2, [0, 0, 3, 0, 0, 0, 48, 127, 255])]),
  (94, [(2, [0, 1, 3, 0, 8, 24, 0, 120, 255, 0, 512, 2047, 0, 4096, 12288, 0, 61440, 131071, 0, 0, 1048575, 2097151]), (3, [0, 0, 3, 0, 8, 24, 0, 71, 255]), (7, [0, 0, 3, 0, 8, 24, 7, 127]), (10, [0, 1, 3, 0, 15, 0, 32, 96, 0, 480, 1023, 0, 4095])]),
  (96, [(10, [0, 0, 2, 0, 0, 16, 56, 120, 0, 256, 768, 2040, 4095, 8191])]),
  (103, [(5, [0, 0, 2, 6, 14, 0, 0, 96, 254, 510, 1022, 2047, 4095])]),
  (104, [(1, [0, 1, 3, 7, 0, 31, 0, 64, 192, 448, 960, 2047, 4095])]),
  (108, [(3, [0, 0, 0, 4, 0, 16, 48, 112, 240, 253, 765, 1789, 4095, 8191, 16383])]),
  (115, [(0, [0, 0, 0, 0, 0, 0, 48, 112, 0, 0, 768, 1792, 4083, 8179, 16383, 32767])]),
  (116, [(3, [0, 1, 3, 7, 0, 16, 48, 127, 255, 511])]),
  (121, [(8, [0, 0, 2, 1, 15])]),
  (130, [(4, [0, 0, 0, 6, 15, 31])]),
  (134, [(3, [0, 1, 3, 7, 0, 16, 48, 112, 255, 511, 1023, 2047])]),
  (145, [(6, [0, 0, 3, 0, 0, 24, 7, 127])]),
  (147, [(17, [0, 1, 3, 7, 7, 7, 39, 119, 247, 7, 7, 1543, 3591, 8191, 16383, 32767, 65535])]),
  (149, [(8, [0, 0, 2, 1, 15])]),
  (151, [(4, [0, 0, 3, 7, 15, 15, 15, 111, 239, 15, 15, 1039, 3599, 7695, 16383, 32767, 65535]), (6, [0, 0, 0, 0, 8, 0, 0, 64, 224, 480, 0, 0, 3072, 7168, 16355, 32739, 65535, 131071])]),
  (152, [(10, [0, 0, 0, 0, 0, 24, 0, 0, 0, 384, 960, 1984, 0, 0, 12288, 28672, 65475, 131011, 262143, 524287])]),
  (153, [(10, [0, 0, 0, 0, 0, 24, 0, 0, 0, 384, 960, 1984, 0, 0, 12288, 28672, 65475, 131011, 262143, 524287])]),
  (155, [(3, [0, 0, 0, 0, 0, 0, 48, 112, 0, 0, 768, 1792, 4083, 8179, 16383, 32767])]),
  (156, [(5, [0, 0, 3, 7, 15, 15, 15, 111, 239, 15, 15, 1039, 3599, 7695, 16383, 32767, 65535, 131071]), (11, [0, 0, 0, 0, 8, 0, 0, 64, 224, 480, 0, 0, 3072, 7168, 16355, 32739, 65535, 131071]), (16, [0, 0, 0, 6, 14, 0, 0, 64, 224, 480, 1023, 2047, 4095]), (17, [0, 0, 0, 0, 8, 0, 0, 64, 224, 480, 0, 0, 3072, 7168, 16355, 32739, 65535, 131071]), (22, [0, 0, 0, 6, 14, 0, 0, 64, 224, 480, 1023, 2047, 4095]), (23, [0, 0, 0, 0, 8, 0, 0, 64, 224, 480, 0, 0, 3072, 7168, 16355, 32739, 65535, 131071])]),
  (157, [(1, [0, 0, 0, 0, 0, 0, 48, 112, 0, 0, 768, 1792, 4083, 8179, 16383, 32767]), (3, [0, 0, 3, 7, 15, 15, 15, 111, 239, 15, 15, 1551, 3599, 8191, 16383, 32767, 65535]), (5, [0, 0, 3, 7, 15, 15, 15, 111, 239, 15, 15, 1551, 3599, 8191, 16383, 32767]), (8, [0, 0, 0, 0, 0, 0, 48, 112, 0, 0, 768, 1792, 4083, 8179, 16383, 32767])]),
  (158, [(1, [0, 0, 0, 0, 0, 0, 48, 112, 0, 0, 768, 1792, 4083, 8179, 16383, 32767]), (3, [0, 0, 3, 7, 15, 15, 15, 111, 239, 15, 15, 1551, 3599, 8191, 16383, 32767]), (5, [0, 0, 3, 7, 15, 15, 15, 111, 239, 15, 15, 1551, 3599, 8191, 16383, 32767, 65535]), (8, [0, 0, 0, 0, 0, 0, 48, 112, 0, 0, 768, 1792, 4083, 8179, 16383, 32767]), (10, [0, 0, 0, 0, 0, 0, 48, 112, 0, 0, 768, 1792, 4083, 8179, 16383, 32767]), (13, [0, 0, 3, 7, 15, 15, 15, 111, 239, 15, 15, 1551, 3599, 8191, 16383, 32767]), (15, [0, 0, 3, 7, 15, 15, 15, 111, 239, 15, 15, 1551, 3599, 8191, 16383, 32767, 65535]), (18, [0, 0, 0, 0, 0, 0, 48, 112, 0, 0, 768, 1792, 4083, 8179, 16383, 32767]), (21, [0, 0, 0, 0, 0, 0, 48, 112, 0, 0, 768, 1792, 4083, 8179, 16383, 32767])]),
  (161, [(3, [0, 1, 0, 7, 15, 31, 31, 31, 31, 415, 991, 2015, 31, 31, 31, 24607, 57375, 127007, 258079, 524287, 1048575, 2097151]), (5, [0, 0, 0, 0, 12, 30, 62, 0, 0, 0, 768, 1920, 3968, 8191, 16383, 32767]), (6, [0, 0, 0, 6, 0, 0, 0, 96, 0, 0, 0, 1536, 3840, 7936, 0, 0, 0, 98304, 245760, 507904, 1048335, 2096911, 4194303, 8388607])]),
  (163, [(1, [0, 1, 3, 0, 8, 24, 56, 127, 255, 511]), (2, [0, 1, 3, 0, 8, 24, 56, 127, 255, 511]), (3, [0, 1, 3, 0, 8, 24, 56, 127, 255, 511])]),
  (166, [(1, [0, 0, 0, 6, 14, 0, 0, 96, 224, 511, 1023])])]

def lookN {α : Type} (d : α) : List (Nat × α) → Nat → α
  | [], _ => d
  | (k, v) :: r, n => match Nat.beq k n with
    | true => v
    | false => lookN d r n

def btAll (f : FuncId) (r : Nat) : List Nat :=
  match Nat.beq r 1000000 with
  | true => [f]
  | false => lookN [] (lookN [] btTab f) r

inductive BT (α : Type) where
  | leaf
  | node (l : BT α) (o : Option α) (r : BT α)
def BT.get {α : Type} : BT α → List Bool → Option α
  | .leaf, _ => none
  | .node _ o _, [] => o
  | .node l _ r, b :: bs => match b with | true => r.get bs | false => l.get bs

structure TyRow where
  num : TypeId
  info : TypeInfo
  at' : Try.prog.info? num = some info

noncomputable def ty0 : TyRow := ⟨0, Try.t0, by kernel_rfl⟩
noncomputable def ty1 : TyRow := ⟨1, Try.t1, by kernel_rfl⟩
noncomputable def ty2 : TyRow := ⟨2, Try.t2, by kernel_rfl⟩
noncomputable def ty3 : TyRow := ⟨3, Try.t3, by kernel_rfl⟩
noncomputable def ty4 : TyRow := ⟨4, Try.t4, by kernel_rfl⟩
noncomputable def ty5 : TyRow := ⟨5, Try.t5, by kernel_rfl⟩
noncomputable def ty6 : TyRow := ⟨6, Try.t6, by kernel_rfl⟩
noncomputable def ty7 : TyRow := ⟨7, Try.t7, by kernel_rfl⟩
noncomputable def ty8 : TyRow := ⟨8, Try.t8, by kernel_rfl⟩
noncomputable def ty9 : TyRow := ⟨9, Try.t9, by kernel_rfl⟩
noncomputable def ty10 : TyRow := ⟨10, Try.t10, by kernel_rfl⟩
noncomputable def ty11 : TyRow := ⟨11, Try.t11, by kernel_rfl⟩
noncomputable def ty12 : TyRow := ⟨12, Try.t12, by kernel_rfl⟩
noncomputable def ty13 : TyRow := ⟨13, Try.t13, by kernel_rfl⟩
noncomputable def ty14 : TyRow := ⟨14, Try.t14, by kernel_rfl⟩
noncomputable def ty15 : TyRow := ⟨15, Try.t15, by kernel_rfl⟩
noncomputable def ty16 : TyRow := ⟨16, Try.t16, by kernel_rfl⟩
noncomputable def ty17 : TyRow := ⟨17, Try.t17, by kernel_rfl⟩
noncomputable def ty18 : TyRow := ⟨18, Try.t18, by kernel_rfl⟩
noncomputable def ty19 : TyRow := ⟨19, Try.t19, by kernel_rfl⟩
noncomputable def ty20 : TyRow := ⟨20, Try.t20, by kernel_rfl⟩
noncomputable def ty21 : TyRow := ⟨21, Try.t21, by kernel_rfl⟩
noncomputable def ty22 : TyRow := ⟨22, Try.t22, by kernel_rfl⟩
noncomputable def ty23 : TyRow := ⟨23, Try.t23, by kernel_rfl⟩
noncomputable def ty24 : TyRow := ⟨24, Try.t24, by kernel_rfl⟩
noncomputable def ty25 : TyRow := ⟨25, Try.t25, by kernel_rfl⟩
noncomputable def ty26 : TyRow := ⟨26, Try.t26, by kernel_rfl⟩
noncomputable def ty27 : TyRow := ⟨27, Try.t27, by kernel_rfl⟩
noncomputable def ty28 : TyRow := ⟨28, Try.t28, by kernel_rfl⟩
noncomputable def ty29 : TyRow := ⟨29, Try.t29, by kernel_rfl⟩
noncomputable def ty30 : TyRow := ⟨30, Try.t30, by kernel_rfl⟩
noncomputable def ty31 : TyRow := ⟨31, Try.t31, by kernel_rfl⟩
noncomputable def ty32 : TyRow := ⟨32, Try.t32, by kernel_rfl⟩
noncomputable def ty33 : TyRow := ⟨33, Try.t33, by kernel_rfl⟩
noncomputable def ty34 : TyRow := ⟨34, Try.t34, by kernel_rfl⟩
noncomputable def ty35 : TyRow := ⟨35, Try.t35, by kernel_rfl⟩
noncomputable def ty36 : TyRow := ⟨36, Try.t36, by kernel_rfl⟩
noncomputable def ty37 : TyRow := ⟨37, Try.t37, by kernel_rfl⟩
noncomputable def ty38 : TyRow := ⟨38, Try.t38, by kernel_rfl⟩
noncomputable def ty39 : TyRow := ⟨39, Try.t39, by kernel_rfl⟩
noncomputable def ty40 : TyRow := ⟨40, Try.t40, by kernel_rfl⟩
noncomputable def ty41 : TyRow := ⟨41, Try.t41, by kernel_rfl⟩
noncomputable def ty42 : TyRow := ⟨42, Try.t42, by kernel_rfl⟩
noncomputable def ty43 : TyRow := ⟨43, Try.t43, by kernel_rfl⟩
noncomputable def ty44 : TyRow := ⟨44, Try.t44, by kernel_rfl⟩
noncomputable def ty45 : TyRow := ⟨45, Try.t45, by kernel_rfl⟩
noncomputable def ty46 : TyRow := ⟨46, Try.t46, by kernel_rfl⟩
noncomputable def ty47 : TyRow := ⟨47, Try.t47, by kernel_rfl⟩
noncomputable def ty48 : TyRow := ⟨48, Try.t48, by kernel_rfl⟩
noncomputable def ty49 : TyRow := ⟨49, Try.t49, by kernel_rfl⟩
noncomputable def ty50 : TyRow := ⟨50, Try.t50, by kernel_rfl⟩
noncomputable def ty51 : TyRow := ⟨51, Try.t51, by kernel_rfl⟩
noncomputable def ty52 : TyRow := ⟨52, Try.t52, by kernel_rfl⟩
noncomputable def ty53 : TyRow := ⟨53, Try.t53, by kernel_rfl⟩
noncomputable def ty54 : TyRow := ⟨54, Try.t54, by kernel_rfl⟩
noncomputable def ty55 : TyRow := ⟨55, Try.t55, by kernel_rfl⟩
noncomputable def ty56 : TyRow := ⟨56, Try.t56, by kernel_rfl⟩
noncomputable def ty57 : TyRow := ⟨57, Try.t57, by kernel_rfl⟩
noncomputable def ty58 : TyRow := ⟨58, Try.t58, by kernel_rfl⟩
noncomputable def ty59 : TyRow := ⟨59, Try.t59, by kernel_rfl⟩
noncomputable def ty60 : TyRow := ⟨60, Try.t60, by kernel_rfl⟩
noncomputable def ty61 : TyRow := ⟨61, Try.t61, by kernel_rfl⟩
noncomputable def ty62 : TyRow := ⟨62, Try.t62, by kernel_rfl⟩
noncomputable def ty63 : TyRow := ⟨63, Try.t63, by kernel_rfl⟩
noncomputable def ty64 : TyRow := ⟨64, Try.t64, by kernel_rfl⟩
noncomputable def ty65 : TyRow := ⟨65, Try.t65, by kernel_rfl⟩
noncomputable def ty66 : TyRow := ⟨66, Try.t66, by kernel_rfl⟩
noncomputable def ty67 : TyRow := ⟨67, Try.t67, by kernel_rfl⟩
noncomputable def ty68 : TyRow := ⟨68, Try.t68, by kernel_rfl⟩
noncomputable def ty69 : TyRow := ⟨69, Try.t69, by kernel_rfl⟩
noncomputable def ty70 : TyRow := ⟨70, Try.t70, by kernel_rfl⟩
noncomputable def ty71 : TyRow := ⟨71, Try.t71, by kernel_rfl⟩
noncomputable def ty72 : TyRow := ⟨72, Try.t72, by kernel_rfl⟩
noncomputable def ty73 : TyRow := ⟨73, Try.t73, by kernel_rfl⟩
noncomputable def ty74 : TyRow := ⟨74, Try.t74, by kernel_rfl⟩
noncomputable def ty75 : TyRow := ⟨75, Try.t75, by kernel_rfl⟩
noncomputable def ty76 : TyRow := ⟨76, Try.t76, by kernel_rfl⟩
noncomputable def ty77 : TyRow := ⟨77, Try.t77, by kernel_rfl⟩
noncomputable def ty78 : TyRow := ⟨78, Try.t78, by kernel_rfl⟩
noncomputable def ty79 : TyRow := ⟨79, Try.t79, by kernel_rfl⟩
noncomputable def ty80 : TyRow := ⟨80, Try.t80, by kernel_rfl⟩
noncomputable def ty81 : TyRow := ⟨81, Try.t81, by kernel_rfl⟩
noncomputable def ty82 : TyRow := ⟨82, Try.t82, by kernel_rfl⟩
noncomputable def ty83 : TyRow := ⟨83, Try.t83, by kernel_rfl⟩
noncomputable def ty84 : TyRow := ⟨84, Try.t84, by kernel_rfl⟩
noncomputable def ty85 : TyRow := ⟨85, Try.t85, by kernel_rfl⟩
noncomputable def ty86 : TyRow := ⟨86, Try.t86, by kernel_rfl⟩
noncomputable def ty87 : TyRow := ⟨87, Try.t87, by kernel_rfl⟩
noncomputable def ty88 : TyRow := ⟨88, Try.t88, by kernel_rfl⟩
noncomputable def ty89 : TyRow := ⟨89, Try.t89, by kernel_rfl⟩
noncomputable def ty90 : TyRow := ⟨90, Try.t90, by kernel_rfl⟩
noncomputable def ty91 : TyRow := ⟨91, Try.t91, by kernel_rfl⟩
noncomputable def ty92 : TyRow := ⟨92, Try.t92, by kernel_rfl⟩
noncomputable def ty93 : TyRow := ⟨93, Try.t93, by kernel_rfl⟩
noncomputable def ty94 : TyRow := ⟨94, Try.t94, by kernel_rfl⟩
noncomputable def ty95 : TyRow := ⟨95, Try.t95, by kernel_rfl⟩
noncomputable def ty96 : TyRow := ⟨96, Try.t96, by kernel_rfl⟩
noncomputable def ty97 : TyRow := ⟨97, Try.t97, by kernel_rfl⟩
noncomputable def ty98 : TyRow := ⟨98, Try.t98, by kernel_rfl⟩
noncomputable def ty99 : TyRow := ⟨99, Try.t99, by kernel_rfl⟩
noncomputable def ty100 : TyRow := ⟨100, Try.t100, by kernel_rfl⟩
noncomputable def ty101 : TyRow := ⟨101, Try.t101, by kernel_rfl⟩
noncomputable def ty102 : TyRow := ⟨102, Try.t102, by kernel_rfl⟩
noncomputable def ty103 : TyRow := ⟨103, Try.t103, by kernel_rfl⟩
noncomputable def ty104 : TyRow := ⟨104, Try.t104, by kernel_rfl⟩
noncomputable def ty105 : TyRow := ⟨105, Try.t105, by kernel_rfl⟩
noncomputable def ty106 : TyRow := ⟨106, Try.t106, by kernel_rfl⟩
noncomputable def ty107 : TyRow := ⟨107, Try.t107, by kernel_rfl⟩
noncomputable def ty108 : TyRow := ⟨108, Try.t108, by kernel_rfl⟩
noncomputable def ty109 : TyRow := ⟨109, Try.t109, by kernel_rfl⟩
noncomputable def ty110 : TyRow := ⟨110, Try.t110, by kernel_rfl⟩
noncomputable def ty111 : TyRow := ⟨111, Try.t111, by kernel_rfl⟩
noncomputable def ty112 : TyRow := ⟨112, Try.t112, by kernel_rfl⟩
noncomputable def ty113 : TyRow := ⟨113, Try.t113, by kernel_rfl⟩
noncomputable def ty114 : TyRow := ⟨114, Try.t114, by kernel_rfl⟩
noncomputable def ty115 : TyRow := ⟨115, Try.t115, by kernel_rfl⟩
noncomputable def ty116 : TyRow := ⟨116, Try.t116, by kernel_rfl⟩
noncomputable def ty117 : TyRow := ⟨117, Try.t117, by kernel_rfl⟩
noncomputable def ty118 : TyRow := ⟨118, Try.t118, by kernel_rfl⟩
noncomputable def ty119 : TyRow := ⟨119, Try.t119, by kernel_rfl⟩
noncomputable def ty120 : TyRow := ⟨120, Try.t120, by kernel_rfl⟩
noncomputable def ty121 : TyRow := ⟨121, Try.t121, by kernel_rfl⟩
noncomputable def ty122 : TyRow := ⟨122, Try.t122, by kernel_rfl⟩
noncomputable def ty123 : TyRow := ⟨123, Try.t123, by kernel_rfl⟩
noncomputable def ty124 : TyRow := ⟨124, Try.t124, by kernel_rfl⟩
noncomputable def ty125 : TyRow := ⟨125, Try.t125, by kernel_rfl⟩
noncomputable def ty126 : TyRow := ⟨126, Try.t126, by kernel_rfl⟩
noncomputable def ty127 : TyRow := ⟨127, Try.t127, by kernel_rfl⟩
noncomputable def ty128 : TyRow := ⟨128, Try.t128, by kernel_rfl⟩
noncomputable def ty129 : TyRow := ⟨129, Try.t129, by kernel_rfl⟩
noncomputable def ty130 : TyRow := ⟨130, Try.t130, by kernel_rfl⟩
noncomputable def ty131 : TyRow := ⟨131, Try.t131, by kernel_rfl⟩
noncomputable def ty132 : TyRow := ⟨132, Try.t132, by kernel_rfl⟩
noncomputable def ty133 : TyRow := ⟨133, Try.t133, by kernel_rfl⟩
noncomputable def ty134 : TyRow := ⟨134, Try.t134, by kernel_rfl⟩
noncomputable def ty135 : TyRow := ⟨135, Try.t135, by kernel_rfl⟩
noncomputable def ty136 : TyRow := ⟨136, Try.t136, by kernel_rfl⟩
noncomputable def ty137 : TyRow := ⟨137, Try.t137, by kernel_rfl⟩
noncomputable def ty138 : TyRow := ⟨138, Try.t138, by kernel_rfl⟩
noncomputable def ty139 : TyRow := ⟨139, Try.t139, by kernel_rfl⟩
noncomputable def ty140 : TyRow := ⟨140, Try.t140, by kernel_rfl⟩
noncomputable def ty141 : TyRow := ⟨141, Try.t141, by kernel_rfl⟩
noncomputable def ty142 : TyRow := ⟨142, Try.t142, by kernel_rfl⟩
noncomputable def ty143 : TyRow := ⟨143, Try.t143, by kernel_rfl⟩
noncomputable def ty144 : TyRow := ⟨144, Try.t144, by kernel_rfl⟩
noncomputable def ty145 : TyRow := ⟨145, Try.t145, by kernel_rfl⟩
noncomputable def ty146 : TyRow := ⟨146, Try.t146, by kernel_rfl⟩
noncomputable def ty147 : TyRow := ⟨147, Try.t147, by kernel_rfl⟩
noncomputable def ty148 : TyRow := ⟨148, Try.t148, by kernel_rfl⟩
noncomputable def ty149 : TyRow := ⟨149, Try.t149, by kernel_rfl⟩
noncomputable def ty150 : TyRow := ⟨150, Try.t150, by kernel_rfl⟩
noncomputable def ty151 : TyRow := ⟨151, Try.t151, by kernel_rfl⟩
noncomputable def ty152 : TyRow := ⟨152, Try.t152, by kernel_rfl⟩
noncomputable def ty153 : TyRow := ⟨153, Try.t153, by kernel_rfl⟩
noncomputable def ty154 : TyRow := ⟨154, Try.t154, by kernel_rfl⟩
noncomputable def ty155 : TyRow := ⟨155, Try.t155, by kernel_rfl⟩
noncomputable def ty156 : TyRow := ⟨156, Try.t156, by kernel_rfl⟩
noncomputable def ty157 : TyRow := ⟨157, Try.t157, by kernel_rfl⟩
noncomputable def ty158 : TyRow := ⟨158, Try.t158, by kernel_rfl⟩
noncomputable def ty159 : TyRow := ⟨159, Try.t159, by kernel_rfl⟩
noncomputable def ty160 : TyRow := ⟨160, Try.t160, by kernel_rfl⟩
noncomputable def ty161 : TyRow := ⟨161, Try.t161, by kernel_rfl⟩
noncomputable def ty162 : TyRow := ⟨162, Try.t162, by kernel_rfl⟩
noncomputable def ty163 : TyRow := ⟨163, Try.t163, by kernel_rfl⟩
noncomputable def ty164 : TyRow := ⟨164, Try.t164, by kernel_rfl⟩
noncomputable def ty165 : TyRow := ⟨165, Try.t165, by kernel_rfl⟩
noncomputable def ty166 : TyRow := ⟨166, Try.t166, by kernel_rfl⟩
noncomputable def ty167 : TyRow := ⟨167, Try.t167, by kernel_rfl⟩
noncomputable def ty168 : TyRow := ⟨168, Try.t168, by kernel_rfl⟩
noncomputable def ty169 : TyRow := ⟨169, Try.t169, by kernel_rfl⟩
noncomputable def ty170 : TyRow := ⟨170, Try.t170, by kernel_rfl⟩
noncomputable def ty171 : TyRow := ⟨171, Try.t171, by kernel_rfl⟩
noncomputable def ty172 : TyRow := ⟨172, Try.t172, by kernel_rfl⟩
noncomputable def ty173 : TyRow := ⟨173, Try.t173, by kernel_rfl⟩
noncomputable def ty174 : TyRow := ⟨174, Try.t174, by kernel_rfl⟩
noncomputable def ty175 : TyRow := ⟨175, Try.t175, by kernel_rfl⟩
noncomputable def ty176 : TyRow := ⟨176, Try.t176, by kernel_rfl⟩
noncomputable def ty177 : TyRow := ⟨177, Try.t177, by kernel_rfl⟩
noncomputable def ty178 : TyRow := ⟨178, Try.t178, by kernel_rfl⟩
noncomputable def ty179 : TyRow := ⟨179, Try.t179, by kernel_rfl⟩
noncomputable def ty180 : TyRow := ⟨180, Try.t180, by kernel_rfl⟩
noncomputable def ty181 : TyRow := ⟨181, Try.t181, by kernel_rfl⟩
noncomputable def ty182 : TyRow := ⟨182, Try.t182, by kernel_rfl⟩
noncomputable def ty183 : TyRow := ⟨183, Try.t183, by kernel_rfl⟩
noncomputable def ty184 : TyRow := ⟨184, Try.t184, by kernel_rfl⟩
noncomputable def ty185 : TyRow := ⟨185, Try.t185, by kernel_rfl⟩
noncomputable def ty186 : TyRow := ⟨186, Try.t186, by kernel_rfl⟩
noncomputable def ty187 : TyRow := ⟨187, Try.t187, by kernel_rfl⟩
noncomputable def ty188 : TyRow := ⟨188, Try.t188, by kernel_rfl⟩
noncomputable def ty189 : TyRow := ⟨189, Try.t189, by kernel_rfl⟩
noncomputable def ty190 : TyRow := ⟨190, Try.t190, by kernel_rfl⟩
noncomputable def ty191 : TyRow := ⟨191, Try.t191, by kernel_rfl⟩
noncomputable def ty192 : TyRow := ⟨192, Try.t192, by kernel_rfl⟩
noncomputable def ty193 : TyRow := ⟨193, Try.t193, by kernel_rfl⟩
noncomputable def ty194 : TyRow := ⟨194, Try.t194, by kernel_rfl⟩
noncomputable def ty195 : TyRow := ⟨195, Try.t195, by kernel_rfl⟩
noncomputable def ty196 : TyRow := ⟨196, Try.t196, by kernel_rfl⟩
noncomputable def ty197 : TyRow := ⟨197, Try.t197, by kernel_rfl⟩
noncomputable def ty198 : TyRow := ⟨198, Try.t198, by kernel_rfl⟩
noncomputable def ty199 : TyRow := ⟨199, Try.t199, by kernel_rfl⟩
noncomputable def ty200 : TyRow := ⟨200, Try.t200, by kernel_rfl⟩
noncomputable def ty201 : TyRow := ⟨201, Try.t201, by kernel_rfl⟩
noncomputable def ty202 : TyRow := ⟨202, Try.t202, by kernel_rfl⟩
noncomputable def ty203 : TyRow := ⟨203, Try.t203, by kernel_rfl⟩
noncomputable def ty204 : TyRow := ⟨204, Try.t204, by kernel_rfl⟩
noncomputable def ty205 : TyRow := ⟨205, Try.t205, by kernel_rfl⟩
noncomputable def ty206 : TyRow := ⟨206, Try.t206, by kernel_rfl⟩
noncomputable def ty207 : TyRow := ⟨207, Try.t207, by kernel_rfl⟩
noncomputable def ty208 : TyRow := ⟨208, Try.t208, by kernel_rfl⟩
noncomputable def ty209 : TyRow := ⟨209, Try.t209, by kernel_rfl⟩
noncomputable def ty210 : TyRow := ⟨210, Try.t210, by kernel_rfl⟩
noncomputable def ty211 : TyRow := ⟨211, Try.t211, by kernel_rfl⟩
noncomputable def ty212 : TyRow := ⟨212, Try.t212, by kernel_rfl⟩
noncomputable def ty213 : TyRow := ⟨213, Try.t213, by kernel_rfl⟩
noncomputable def ty214 : TyRow := ⟨214, Try.t214, by kernel_rfl⟩
noncomputable def ty215 : TyRow := ⟨215, Try.t215, by kernel_rfl⟩
noncomputable def ty216 : TyRow := ⟨216, Try.t216, by kernel_rfl⟩
noncomputable def ty217 : TyRow := ⟨217, Try.t217, by kernel_rfl⟩
noncomputable def ty218 : TyRow := ⟨218, Try.t218, by kernel_rfl⟩
noncomputable def ty219 : TyRow := ⟨219, Try.t219, by kernel_rfl⟩
noncomputable def ty220 : TyRow := ⟨220, Try.t220, by kernel_rfl⟩
noncomputable def ty221 : TyRow := ⟨221, Try.t221, by kernel_rfl⟩
noncomputable def ty222 : TyRow := ⟨222, Try.t222, by kernel_rfl⟩
noncomputable def ty223 : TyRow := ⟨223, Try.t223, by kernel_rfl⟩
noncomputable def ty224 : TyRow := ⟨224, Try.t224, by kernel_rfl⟩
noncomputable def ty225 : TyRow := ⟨225, Try.t225, by kernel_rfl⟩
noncomputable def ty226 : TyRow := ⟨226, Try.t226, by kernel_rfl⟩
noncomputable def ty227 : TyRow := ⟨227, Try.t227, by kernel_rfl⟩
noncomputable def ty228 : TyRow := ⟨228, Try.t228, by kernel_rfl⟩
noncomputable def ty229 : TyRow := ⟨229, Try.t229, by kernel_rfl⟩
noncomputable def ty230 : TyRow := ⟨230, Try.t230, by kernel_rfl⟩
noncomputable def ty231 : TyRow := ⟨231, Try.t231, by kernel_rfl⟩
noncomputable def ty232 : TyRow := ⟨232, Try.t232, by kernel_rfl⟩
noncomputable def ty233 : TyRow := ⟨233, Try.t233, by kernel_rfl⟩
noncomputable def ty234 : TyRow := ⟨234, Try.t234, by kernel_rfl⟩
noncomputable def ty235 : TyRow := ⟨235, Try.t235, by kernel_rfl⟩
noncomputable def ty236 : TyRow := ⟨236, Try.t236, by kernel_rfl⟩
noncomputable def ty237 : TyRow := ⟨237, Try.t237, by kernel_rfl⟩
noncomputable def ty238 : TyRow := ⟨238, Try.t238, by kernel_rfl⟩
noncomputable def ty239 : TyRow := ⟨239, Try.t239, by kernel_rfl⟩
noncomputable def ty240 : TyRow := ⟨240, Try.t240, by kernel_rfl⟩
noncomputable def ty241 : TyRow := ⟨241, Try.t241, by kernel_rfl⟩
noncomputable def ty242 : TyRow := ⟨242, Try.t242, by kernel_rfl⟩
noncomputable def ty243 : TyRow := ⟨243, Try.t243, by kernel_rfl⟩
noncomputable def ty244 : TyRow := ⟨244, Try.t244, by kernel_rfl⟩
noncomputable def ty245 : TyRow := ⟨245, Try.t245, by kernel_rfl⟩
noncomputable def ty246 : TyRow := ⟨246, Try.t246, by kernel_rfl⟩
noncomputable def ty247 : TyRow := ⟨247, Try.t247, by kernel_rfl⟩
noncomputable def ty248 : TyRow := ⟨248, Try.t248, by kernel_rfl⟩
noncomputable def ty249 : TyRow := ⟨249, Try.t249, by kernel_rfl⟩
noncomputable def ty250 : TyRow := ⟨250, Try.t250, by kernel_rfl⟩
noncomputable def ty251 : TyRow := ⟨251, Try.t251, by kernel_rfl⟩
noncomputable def ty252 : TyRow := ⟨252, Try.t252, by kernel_rfl⟩
noncomputable def ty253 : TyRow := ⟨253, Try.t253, by kernel_rfl⟩
noncomputable def ty254 : TyRow := ⟨254, Try.t254, by kernel_rfl⟩

noncomputable def tyTree : BT TyRow := (.node (.node (.node (.node (.node (.node (.node (.node .leaf none (.node .leaf (some ty128) .leaf)) none (.node .leaf (some ty64) (.node .leaf (some ty192) .leaf))) none (.node (.node .leaf none (.node .leaf (some ty160) .leaf)) (some ty32) (.node .leaf (some ty96) (.node .leaf (some ty224) .leaf)))) none (.node (.node (.node .leaf none (.node .leaf (some ty144) .leaf)) none (.node .leaf (some ty80) (.node .leaf (some ty208) .leaf))) (some ty16) (.node (.node .leaf none (.node .leaf (some ty176) .leaf)) (some ty48) (.node .leaf (some ty112) (.node .leaf (some ty240) .leaf))))) none (.node (.node (.node (.node .leaf none (.node .leaf (some ty136) .leaf)) none (.node .leaf (some ty72) (.node .leaf (some ty200) .leaf))) none (.node (.node .leaf none (.node .leaf (some ty168) .leaf)) (some ty40) (.node .leaf (some ty104) (.node .leaf (some ty232) .leaf)))) (some ty8) (.node (.node (.node .leaf none (.node .leaf (some ty152) .leaf)) none (.node .leaf (some ty88) (.node .leaf (some ty216) .leaf))) (some ty24) (.node (.node .leaf none (.node .leaf (some ty184) .leaf)) (some ty56) (.node .leaf (some ty120) (.node .leaf (some ty248) .leaf)))))) none (.node (.node (.node (.node (.node .leaf none (.node .leaf (some ty132) .leaf)) none (.node .leaf (some ty68) (.node .leaf (some ty196) .leaf))) none (.node (.node .leaf none (.node .leaf (some ty164) .leaf)) (some ty36) (.node .leaf (some ty100) (.node .leaf (some ty228) .leaf)))) none (.node (.node (.node .leaf none (.node .leaf (some ty148) .leaf)) none (.node .leaf (some ty84) (.node .leaf (some ty212) .leaf))) (some ty20) (.node (.node .leaf none (.node .leaf (some ty180) .leaf)) (some ty52) (.node .leaf (some ty116) (.node .leaf (some ty244) .leaf))))) (some ty4) (.node (.node (.node (.node .leaf none (.node .leaf (some ty140) .leaf)) none (.node .leaf (some ty76) (.node .leaf (some ty204) .leaf))) none (.node (.node .leaf none (.node .leaf (some ty172) .leaf)) (some ty44) (.node .leaf (some ty108) (.node .leaf (some ty236) .leaf)))) (some ty12) (.node (.node (.node .leaf none (.node .leaf (some ty156) .leaf)) none (.node .leaf (some ty92) (.node .leaf (some ty220) .leaf))) (some ty28) (.node (.node .leaf none (.node .leaf (some ty188) .leaf)) (some ty60) (.node .leaf (some ty124) (.node .leaf (some ty252) .leaf))))))) none (.node (.node (.node (.node (.node (.node .leaf none (.node .leaf (some ty130) .leaf)) none (.node .leaf (some ty66) (.node .leaf (some ty194) .leaf))) none (.node (.node .leaf none (.node .leaf (some ty162) .leaf)) (some ty34) (.node .leaf (some ty98) (.node .leaf (some ty226) .leaf)))) none (.node (.node (.node .leaf none (.node .leaf (some ty146) .leaf)) none (.node .leaf (some ty82) (.node .leaf (some ty210) .leaf))) (some ty18) (.node (.node .leaf none (.node .leaf (some ty178) .leaf)) (some ty50) (.node .leaf (some ty114) (.node .leaf (some ty242) .leaf))))) none (.node (.node (.node (.node .leaf none (.node .leaf (some ty138) .leaf)) none (.node .leaf (some ty74) (.node .leaf (some ty202) .leaf))) none (.node (.node .leaf none (.node .leaf (some ty170) .leaf)) (some ty42) (.node .leaf (some ty106) (.node .leaf (some ty234) .leaf)))) (some ty10) (.node (.node (.node .leaf none (.node .leaf (some ty154) .leaf)) none (.node .leaf (some ty90) (.node .leaf (some ty218) .leaf))) (some ty26) (.node (.node .leaf none (.node .leaf (some ty186) .leaf)) (some ty58) (.node .leaf (some ty122) (.node .leaf (some ty250) .leaf)))))) (some ty2) (.node (.node (.node (.node (.node .leaf none (.node .leaf (some ty134) .leaf)) none (.node .leaf (some ty70) (.node .leaf (some ty198) .leaf))) none (.node (.node .leaf none (.node .leaf (some ty166) .leaf)) (some ty38) (.node .leaf (some ty102) (.node .leaf (some ty230) .leaf)))) none (.node (.node (.node .leaf none (.node .leaf (some ty150) .leaf)) none (.node .leaf (some ty86) (.node .leaf (some ty214) .leaf))) (some ty22) (.node (.node .leaf none (.node .leaf (some ty182) .leaf)) (some ty54) (.node .leaf (some ty118) (.node .leaf (some ty246) .leaf))))) (some ty6) (.node (.node (.node (.node .leaf none (.node .leaf (some ty142) .leaf)) none (.node .leaf (some ty78) (.node .leaf (some ty206) .leaf))) none (.node (.node .leaf none (.node .leaf (some ty174) .leaf)) (some ty46) (.node .leaf (some ty110) (.node .leaf (some ty238) .leaf)))) (some ty14) (.node (.node (.node .leaf none (.node .leaf (some ty158) .leaf)) none (.node .leaf (some ty94) (.node .leaf (some ty222) .leaf))) (some ty30) (.node (.node .leaf none (.node .leaf (some ty190) .leaf)) (some ty62) (.node .leaf (some ty126) (.node .leaf (some ty254) .leaf)))))))) (some ty0) (.node (.node (.node (.node (.node (.node (.node .leaf none (.node .leaf (some ty129) .leaf)) none (.node .leaf (some ty65) (.node .leaf (some ty193) .leaf))) none (.node (.node .leaf none (.node .leaf (some ty161) .leaf)) (some ty33) (.node .leaf (some ty97) (.node .leaf (some ty225) .leaf)))) none (.node (.node (.node .leaf none (.node .leaf (some ty145) .leaf)) none (.node .leaf (some ty81) (.node .leaf (some ty209) .leaf))) (some ty17) (.node (.node .leaf none (.node .leaf (some ty177) .leaf)) (some ty49) (.node .leaf (some ty113) (.node .leaf (some ty241) .leaf))))) none (.node (.node (.node (.node .leaf none (.node .leaf (some ty137) .leaf)) none (.node .leaf (some ty73) (.node .leaf (some ty201) .leaf))) none (.node (.node .leaf none (.node .leaf (some ty169) .leaf)) (some ty41) (.node .leaf (some ty105) (.node .leaf (some ty233) .leaf)))) (some ty9) (.node (.node (.node .leaf none (.node .leaf (some ty153) .leaf)) none (.node .leaf (some ty89) (.node .leaf (some ty217) .leaf))) (some ty25) (.node (.node .leaf none (.node .leaf (some ty185) .leaf)) (some ty57) (.node .leaf (some ty121) (.node .leaf (some ty249) .leaf)))))) none (.node (.node (.node (.node (.node .leaf none (.node .leaf (some ty133) .leaf)) none (.node .leaf (some ty69) (.node .leaf (some ty197) .leaf))) none (.node (.node .leaf none (.node .leaf (some ty165) .leaf)) (some ty37) (.node .leaf (some ty101) (.node .leaf (some ty229) .leaf)))) none (.node (.node (.node .leaf none (.node .leaf (some ty149) .leaf)) none (.node .leaf (some ty85) (.node .leaf (some ty213) .leaf))) (some ty21) (.node (.node .leaf none (.node .leaf (some ty181) .leaf)) (some ty53) (.node .leaf (some ty117) (.node .leaf (some ty245) .leaf))))) (some ty5) (.node (.node (.node (.node .leaf none (.node .leaf (some ty141) .leaf)) none (.node .leaf (some ty77) (.node .leaf (some ty205) .leaf))) none (.node (.node .leaf none (.node .leaf (some ty173) .leaf)) (some ty45) (.node .leaf (some ty109) (.node .leaf (some ty237) .leaf)))) (some ty13) (.node (.node (.node .leaf none (.node .leaf (some ty157) .leaf)) none (.node .leaf (some ty93) (.node .leaf (some ty221) .leaf))) (some ty29) (.node (.node .leaf none (.node .leaf (some ty189) .leaf)) (some ty61) (.node .leaf (some ty125) (.node .leaf (some ty253) .leaf))))))) (some ty1) (.node (.node (.node (.node (.node (.node .leaf none (.node .leaf (some ty131) .leaf)) none (.node .leaf (some ty67) (.node .leaf (some ty195) .leaf))) none (.node (.node .leaf none (.node .leaf (some ty163) .leaf)) (some ty35) (.node .leaf (some ty99) (.node .leaf (some ty227) .leaf)))) none (.node (.node (.node .leaf none (.node .leaf (some ty147) .leaf)) none (.node .leaf (some ty83) (.node .leaf (some ty211) .leaf))) (some ty19) (.node (.node .leaf none (.node .leaf (some ty179) .leaf)) (some ty51) (.node .leaf (some ty115) (.node .leaf (some ty243) .leaf))))) none (.node (.node (.node (.node .leaf none (.node .leaf (some ty139) .leaf)) none (.node .leaf (some ty75) (.node .leaf (some ty203) .leaf))) none (.node (.node .leaf none (.node .leaf (some ty171) .leaf)) (some ty43) (.node .leaf (some ty107) (.node .leaf (some ty235) .leaf)))) (some ty11) (.node (.node (.node .leaf none (.node .leaf (some ty155) .leaf)) none (.node .leaf (some ty91) (.node .leaf (some ty219) .leaf))) (some ty27) (.node (.node .leaf none (.node .leaf (some ty187) .leaf)) (some ty59) (.node .leaf (some ty123) (.node .leaf (some ty251) .leaf)))))) (some ty3) (.node (.node (.node (.node (.node .leaf none (.node .leaf (some ty135) .leaf)) none (.node .leaf (some ty71) (.node .leaf (some ty199) .leaf))) none (.node (.node .leaf none (.node .leaf (some ty167) .leaf)) (some ty39) (.node .leaf (some ty103) (.node .leaf (some ty231) .leaf)))) none (.node (.node (.node .leaf none (.node .leaf (some ty151) .leaf)) none (.node .leaf (some ty87) (.node .leaf (some ty215) .leaf))) (some ty23) (.node (.node .leaf none (.node .leaf (some ty183) .leaf)) (some ty55) (.node .leaf (some ty119) (.node .leaf (some ty247) .leaf))))) (some ty7) (.node (.node (.node (.node .leaf none (.node .leaf (some ty143) .leaf)) none (.node .leaf (some ty79) (.node .leaf (some ty207) .leaf))) none (.node (.node .leaf none (.node .leaf (some ty175) .leaf)) (some ty47) (.node .leaf (some ty111) (.node .leaf (some ty239) .leaf)))) (some ty15) (.node (.node (.node .leaf none (.node .leaf (some ty159) .leaf)) none (.node .leaf (some ty95) (.node .leaf (some ty223) .leaf))) (some ty31) (.node (.node .leaf none (.node .leaf (some ty191) .leaf)) (some ty63) (.node .leaf (some ty127) .leaf))))))))

noncomputable def tyAt (t : TypeId) : Option TypeInfo :=
  match tyTree.get (bits t t) with
  | some r => match Nat.beq r.num t with
    | true => some r.info
    | false => none
  | none => none
theorem tyAt_ok (t : TypeId) (i : TypeInfo) (h : tyAt t = some i) : Try.prog.info? t = some i := by
  unfold tyAt at h
  split at h
  · rename_i r _
    split at h
    · rename_i hb
      cases h
      rw [← Nat.eq_of_beq_eq_true hb]
      exact r.at'
    · cases h
  · cases h

structure ExtRow where
  num : FuncId
  ext : Ext
  is : ExtIs Try.prog num ext

noncomputable def ext109 : ExtRow := ⟨109, .clone, ⟨Try.f109, Try.func109, by kernel_rfl, by kernel_rfl, by kernel_rfl, by kernel_rfl⟩⟩
noncomputable def ext142 : ExtRow := ⟨142, .add64, ⟨Try.f142, Try.func142, by kernel_rfl, by kernel_rfl, by kernel_rfl, by kernel_rfl⟩⟩
noncomputable def ext143 : ExtRow := ⟨143, .sub64, ⟨Try.f143, Try.func143, by kernel_rfl, by kernel_rfl, by kernel_rfl, by kernel_rfl⟩⟩

noncomputable def extTree : BT ExtRow := (.node (.node .leaf none (.node .leaf none (.node .leaf none (.node (.node (.node (.node .leaf none (.node .leaf (some ext142) .leaf)) none .leaf) none .leaf) none .leaf)))) none (.node (.node .leaf none (.node .leaf none (.node (.node .leaf none (.node .leaf none (.node .leaf (some ext109) .leaf))) none .leaf))) none (.node .leaf none (.node .leaf none (.node (.node (.node (.node .leaf none (.node .leaf (some ext143) .leaf)) none .leaf) none .leaf) none .leaf)))))

noncomputable def extAt (f : FuncId) : Option Ext :=
  match extTree.get (bits f f) with
  | some r => match Nat.beq r.num f with
    | true => some r.ext
    | false => none
  | none => none
theorem extAt_ok (f : FuncId) (x : Ext) (h : extAt f = some x) : ExtIs Try.prog f x := by
  unfold extAt at h
  split at h
  · rename_i r _
    split at h
    · rename_i hb
      cases h
      rw [← Nat.eq_of_beq_eq_true hb]
      exact r.is
    · cases h
  · cases h

theorem stat2 : statAll (btAll 2) (Try.f2.body.getD .skip) = true := by kernel_rfl
theorem stat3 : statAll (btAll 3) (Try.f3.body.getD .skip) = true := by kernel_rfl
theorem stat4 : statAll (btAll 4) (Try.f4.body.getD .skip) = true := by kernel_rfl
theorem stat5 : statAll (btAll 5) (Try.f5.body.getD .skip) = true := by kernel_rfl
theorem stat6 : statAll (btAll 6) (Try.f6.body.getD .skip) = true := by kernel_rfl
theorem stat7 : statAll (btAll 7) (Try.f7.body.getD .skip) = true := by kernel_rfl
theorem stat8 : statAll (btAll 8) (Try.f8.body.getD .skip) = true := by kernel_rfl
theorem stat9 : statAll (btAll 9) (Try.f9.body.getD .skip) = true := by kernel_rfl
theorem stat10 : statAll (btAll 10) (Try.f10.body.getD .skip) = true := by kernel_rfl
theorem stat11 : statAll (btAll 11) (Try.f11.body.getD .skip) = true := by kernel_rfl
theorem stat12 : statAll (btAll 12) (Try.f12.body.getD .skip) = true := by kernel_rfl
theorem stat13 : statAll (btAll 13) (Try.f13.body.getD .skip) = true := by kernel_rfl
theorem stat14 : statAll (btAll 14) (Try.f14.body.getD .skip) = true := by kernel_rfl
theorem stat15 : statAll (btAll 15) (Try.f15.body.getD .skip) = true := by kernel_rfl
theorem stat16 : statAll (btAll 16) (Try.f16.body.getD .skip) = true := by kernel_rfl
theorem stat17 : statAll (btAll 17) (Try.f17.body.getD .skip) = true := by kernel_rfl
theorem stat18 : statAll (btAll 18) (Try.f18.body.getD .skip) = true := by kernel_rfl
theorem stat19 : statAll (btAll 19) (Try.f19.body.getD .skip) = true := by kernel_rfl
theorem stat20 : statAll (btAll 20) (Try.f20.body.getD .skip) = true := by kernel_rfl
theorem stat21 : statAll (btAll 21) (Try.f21.body.getD .skip) = true := by kernel_rfl
theorem stat22 : statAll (btAll 22) (Try.f22.body.getD .skip) = true := by kernel_rfl
theorem stat23 : statAll (btAll 23) (Try.f23.body.getD .skip) = true := by kernel_rfl
theorem stat24 : statAll (btAll 24) (Try.f24.body.getD .skip) = true := by kernel_rfl
theorem stat25 : statAll (btAll 25) (Try.f25.body.getD .skip) = true := by kernel_rfl
theorem stat26 : statAll (btAll 26) (Try.f26.body.getD .skip) = true := by kernel_rfl
theorem stat27 : statAll (btAll 27) (Try.f27.body.getD .skip) = true := by kernel_rfl
theorem stat28 : statAll (btAll 28) (Try.f28.body.getD .skip) = true := by kernel_rfl
theorem stat29 : statAll (btAll 29) (Try.f29.body.getD .skip) = true := by kernel_rfl
theorem stat30 : statAll (btAll 30) (Try.f30.body.getD .skip) = true := by kernel_rfl
theorem stat31 : statAll (btAll 31) (Try.f31.body.getD .skip) = true := by kernel_rfl
theorem stat32 : statAll (btAll 32) (Try.f32.body.getD .skip) = true := by kernel_rfl
theorem stat33 : statAll (btAll 33) (Try.f33.body.getD .skip) = true := by kernel_rfl
theorem stat34 : statAll (btAll 34) (Try.f34.body.getD .skip) = true := by kernel_rfl
theorem stat35 : statAll (btAll 35) (Try.f35.body.getD .skip) = true := by kernel_rfl
theorem stat36 : statAll (btAll 36) (Try.f36.body.getD .skip) = true := by kernel_rfl
theorem stat37 : statAll (btAll 37) (Try.f37.body.getD .skip) = true := by kernel_rfl
theorem stat38 : statAll (btAll 38) (Try.f38.body.getD .skip) = true := by kernel_rfl
theorem stat39 : statAll (btAll 39) (Try.f39.body.getD .skip) = true := by kernel_rfl
theorem stat40 : statAll (btAll 40) (Try.f40.body.getD .skip) = true := by kernel_rfl
theorem stat41 : statAll (btAll 41) (Try.f41.body.getD .skip) = true := by kernel_rfl
theorem stat42 : statAll (btAll 42) (Try.f42.body.getD .skip) = true := by kernel_rfl
theorem stat43 : statAll (btAll 43) (Try.f43.body.getD .skip) = true := by kernel_rfl
theorem stat44 : statAll (btAll 44) (Try.f44.body.getD .skip) = true := by kernel_rfl
theorem stat45 : statAll (btAll 45) (Try.f45.body.getD .skip) = true := by kernel_rfl
theorem stat46 : statAll (btAll 46) (Try.f46.body.getD .skip) = true := by kernel_rfl
theorem stat47 : statAll (btAll 47) (Try.f47.body.getD .skip) = true := by kernel_rfl
theorem stat48 : statAll (btAll 48) (Try.f48.body.getD .skip) = true := by kernel_rfl
theorem stat49 : statAll (btAll 49) (Try.f49.body.getD .skip) = true := by kernel_rfl
theorem stat50 : statAll (btAll 50) (Try.f50.body.getD .skip) = true := by kernel_rfl
theorem stat51 : statAll (btAll 51) (Try.f51.body.getD .skip) = true := by kernel_rfl
theorem stat52 : statAll (btAll 52) (Try.f52.body.getD .skip) = true := by kernel_rfl
theorem stat53 : statAll (btAll 53) (Try.f53.body.getD .skip) = true := by kernel_rfl
theorem stat54 : statAll (btAll 54) (Try.f54.body.getD .skip) = true := by kernel_rfl
theorem stat55 : statAll (btAll 55) (Try.f55.body.getD .skip) = true := by kernel_rfl
theorem stat56 : statAll (btAll 56) (Try.f56.body.getD .skip) = true := by kernel_rfl
theorem stat57 : statAll (btAll 57) (Try.f57.body.getD .skip) = true := by kernel_rfl
theorem stat58 : statAll (btAll 58) (Try.f58.body.getD .skip) = true := by kernel_rfl
theorem stat59 : statAll (btAll 59) (Try.f59.body.getD .skip) = true := by kernel_rfl
theorem stat60 : statAll (btAll 60) (Try.f60.body.getD .skip) = true := by kernel_rfl
theorem stat61 : statAll (btAll 61) (Try.f61.body.getD .skip) = true := by kernel_rfl
theorem stat62 : statAll (btAll 62) (Try.f62.body.getD .skip) = true := by kernel_rfl
theorem stat63 : statAll (btAll 63) (Try.f63.body.getD .skip) = true := by kernel_rfl
theorem stat64 : statAll (btAll 64) (Try.f64.body.getD .skip) = true := by kernel_rfl
theorem stat65 : statAll (btAll 65) (Try.f65.body.getD .skip) = true := by kernel_rfl
theorem stat66 : statAll (btAll 66) (Try.f66.body.getD .skip) = true := by kernel_rfl
theorem stat67 : statAll (btAll 67) (Try.f67.body.getD .skip) = true := by kernel_rfl
theorem stat68 : statAll (btAll 68) (Try.f68.body.getD .skip) = true := by kernel_rfl
theorem stat69 : statAll (btAll 69) (Try.f69.body.getD .skip) = true := by kernel_rfl
theorem stat70 : statAll (btAll 70) (Try.f70.body.getD .skip) = true := by kernel_rfl
theorem stat71 : statAll (btAll 71) (Try.f71.body.getD .skip) = true := by kernel_rfl
theorem stat72 : statAll (btAll 72) (Try.f72.body.getD .skip) = true := by kernel_rfl
theorem stat73 : statAll (btAll 73) (Try.f73.body.getD .skip) = true := by kernel_rfl
theorem stat74 : statAll (btAll 74) (Try.f74.body.getD .skip) = true := by kernel_rfl
theorem stat75 : statAll (btAll 75) (Try.f75.body.getD .skip) = true := by kernel_rfl
theorem stat76 : statAll (btAll 76) (Try.f76.body.getD .skip) = true := by kernel_rfl
theorem stat77 : statAll (btAll 77) (Try.f77.body.getD .skip) = true := by kernel_rfl
theorem stat78 : statAll (btAll 78) (Try.f78.body.getD .skip) = true := by kernel_rfl
theorem stat79 : statAll (btAll 79) (Try.f79.body.getD .skip) = true := by kernel_rfl
theorem stat80 : statAll (btAll 80) (Try.f80.body.getD .skip) = true := by kernel_rfl
theorem stat81 : statAll (btAll 81) (Try.f81.body.getD .skip) = true := by kernel_rfl
theorem stat82 : statAll (btAll 82) (Try.f82.body.getD .skip) = true := by kernel_rfl
theorem stat83 : statAll (btAll 83) (Try.f83.body.getD .skip) = true := by kernel_rfl
theorem stat84 : statAll (btAll 84) (Try.f84.body.getD .skip) = true := by kernel_rfl
theorem stat85 : statAll (btAll 85) (Try.f85.body.getD .skip) = true := by kernel_rfl
theorem stat86 : statAll (btAll 86) (Try.f86.body.getD .skip) = true := by kernel_rfl
theorem stat87 : statAll (btAll 87) (Try.f87.body.getD .skip) = true := by kernel_rfl
theorem stat88 : statAll (btAll 88) (Try.f88.body.getD .skip) = true := by kernel_rfl
theorem stat89 : statAll (btAll 89) (Try.f89.body.getD .skip) = true := by kernel_rfl
theorem stat90 : statAll (btAll 90) (Try.f90.body.getD .skip) = true := by kernel_rfl
theorem stat91 : statAll (btAll 91) (Try.f91.body.getD .skip) = true := by kernel_rfl
theorem stat92 : statAll (btAll 92) (Try.f92.body.getD .skip) = true := by kernel_rfl
theorem stat93 : statAll (btAll 93) (Try.f93.body.getD .skip) = true := by kernel_rfl
theorem stat94 : statAll (btAll 94) (Try.f94.body.getD .skip) = true := by kernel_rfl
theorem stat95 : statAll (btAll 95) (Try.f95.body.getD .skip) = true := by kernel_rfl
theorem stat96 : statAll (btAll 96) (Try.f96.body.getD .skip) = true := by kernel_rfl
theorem stat97 : statAll (btAll 97) (Try.f97.body.getD .skip) = true := by kernel_rfl
theorem stat98 : statAll (btAll 98) (Try.f98.body.getD .skip) = true := by kernel_rfl
theorem stat99 : statAll (btAll 99) (Try.f99.body.getD .skip) = true := by kernel_rfl
theorem stat100 : statAll (btAll 100) (Try.f100.body.getD .skip) = true := by kernel_rfl
theorem stat101 : statAll (btAll 101) (Try.f101.body.getD .skip) = true := by kernel_rfl
theorem stat102 : statAll (btAll 102) (Try.f102.body.getD .skip) = true := by kernel_rfl
theorem stat103 : statAll (btAll 103) (Try.f103.body.getD .skip) = true := by kernel_rfl
theorem stat104 : statAll (btAll 104) (Try.f104.body.getD .skip) = true := by kernel_rfl
theorem stat105 : statAll (btAll 105) (Try.f105.body.getD .skip) = true := by kernel_rfl
theorem stat106 : statAll (btAll 106) (Try.f106.body.getD .skip) = true := by kernel_rfl
theorem stat107 : statAll (btAll 107) (Try.f107.body.getD .skip) = true := by kernel_rfl
theorem stat108 : statAll (btAll 108) (Try.f108.body.getD .skip) = true := by kernel_rfl
theorem stat110 : statAll (btAll 110) (Try.f110.body.getD .skip) = true := by kernel_rfl
theorem stat111 : statAll (btAll 111) (Try.f111.body.getD .skip) = true := by kernel_rfl
theorem stat112 : statAll (btAll 112) (Try.f112.body.getD .skip) = true := by kernel_rfl
theorem stat113 : statAll (btAll 113) (Try.f113.body.getD .skip) = true := by kernel_rfl
theorem stat114 : statAll (btAll 114) (Try.f114.body.getD .skip) = true := by kernel_rfl
theorem stat115 : statAll (btAll 115) (Try.f115.body.getD .skip) = true := by kernel_rfl
theorem stat116 : statAll (btAll 116) (Try.f116.body.getD .skip) = true := by kernel_rfl
theorem stat117 : statAll (btAll 117) (Try.f117.body.getD .skip) = true := by kernel_rfl
theorem stat118 : statAll (btAll 118) (Try.f118.body.getD .skip) = true := by kernel_rfl
theorem stat119 : statAll (btAll 119) (Try.f119.body.getD .skip) = true := by kernel_rfl
theorem stat120 : statAll (btAll 120) (Try.f120.body.getD .skip) = true := by kernel_rfl
theorem stat121 : statAll (btAll 121) (Try.f121.body.getD .skip) = true := by kernel_rfl
theorem stat122 : statAll (btAll 122) (Try.f122.body.getD .skip) = true := by kernel_rfl
theorem stat123 : statAll (btAll 123) (Try.f123.body.getD .skip) = true := by kernel_rfl
theorem stat124 : statAll (btAll 124) (Try.f124.body.getD .skip) = true := by kernel_rfl
theorem stat125 : statAll (btAll 125) (Try.f125.body.getD .skip) = true := by kernel_rfl
theorem stat126 : statAll (btAll 126) (Try.f126.body.getD .skip) = true := by kernel_rfl
theorem stat127 : statAll (btAll 127) (Try.f127.body.getD .skip) = true := by kernel_rfl
theorem stat128 : statAll (btAll 128) (Try.f128.body.getD .skip) = true := by kernel_rfl
theorem stat129 : statAll (btAll 129) (Try.f129.body.getD .skip) = true := by kernel_rfl
theorem stat130 : statAll (btAll 130) (Try.f130.body.getD .skip) = true := by kernel_rfl
theorem stat131 : statAll (btAll 131) (Try.f131.body.getD .skip) = true := by kernel_rfl
theorem stat132 : statAll (btAll 132) (Try.f132.body.getD .skip) = true := by kernel_rfl
theorem stat133 : statAll (btAll 133) (Try.f133.body.getD .skip) = true := by kernel_rfl
theorem stat134 : statAll (btAll 134) (Try.f134.body.getD .skip) = true := by kernel_rfl
theorem stat135 : statAll (btAll 135) (Try.f135.body.getD .skip) = true := by kernel_rfl
theorem stat136 : statAll (btAll 136) (Try.f136.body.getD .skip) = true := by kernel_rfl
theorem stat137 : statAll (btAll 137) (Try.f137.body.getD .skip) = true := by kernel_rfl
theorem stat138 : statAll (btAll 138) (Try.f138.body.getD .skip) = true := by kernel_rfl
theorem stat139 : statAll (btAll 139) (Try.f139.body.getD .skip) = true := by kernel_rfl
theorem stat140 : statAll (btAll 140) (Try.f140.body.getD .skip) = true := by kernel_rfl
theorem stat141 : statAll (btAll 141) (Try.f141.body.getD .skip) = true := by kernel_rfl
theorem stat144 : statAll (btAll 144) (Try.f144.body.getD .skip) = true := by kernel_rfl
theorem stat145 : statAll (btAll 145) (Try.f145.body.getD .skip) = true := by kernel_rfl
theorem stat146 : statAll (btAll 146) (Try.f146.body.getD .skip) = true := by kernel_rfl
theorem stat147 : statAll (btAll 147) (Try.f147.body.getD .skip) = true := by kernel_rfl
theorem stat148 : statAll (btAll 148) (Try.f148.body.getD .skip) = true := by kernel_rfl
theorem stat149 : statAll (btAll 149) (Try.f149.body.getD .skip) = true := by kernel_rfl
theorem stat150 : statAll (btAll 150) (Try.f150.body.getD .skip) = true := by kernel_rfl
theorem stat151 : statAll (btAll 151) (Try.f151.body.getD .skip) = true := by kernel_rfl
theorem stat152 : statAll (btAll 152) (Try.f152.body.getD .skip) = true := by kernel_rfl
theorem stat153 : statAll (btAll 153) (Try.f153.body.getD .skip) = true := by kernel_rfl
theorem stat154 : statAll (btAll 154) (Try.f154.body.getD .skip) = true := by kernel_rfl
theorem stat155 : statAll (btAll 155) (Try.f155.body.getD .skip) = true := by kernel_rfl
theorem stat156 : statAll (btAll 156) (Try.f156.body.getD .skip) = true := by kernel_rfl
theorem stat157 : statAll (btAll 157) (Try.f157.body.getD .skip) = true := by kernel_rfl
theorem stat158 : statAll (btAll 158) (Try.f158.body.getD .skip) = true := by kernel_rfl
theorem stat159 : statAll (btAll 159) (Try.f159.body.getD .skip) = true := by kernel_rfl
theorem stat160 : statAll (btAll 160) (Try.f160.body.getD .skip) = true := by kernel_rfl
theorem stat161 : statAll (btAll 161) (Try.f161.body.getD .skip) = true := by kernel_rfl
theorem stat162 : statAll (btAll 162) (Try.f162.body.getD .skip) = true := by kernel_rfl
theorem stat163 : statAll (btAll 163) (Try.f163.body.getD .skip) = true := by kernel_rfl
theorem stat164 : statAll (btAll 164) (Try.f164.body.getD .skip) = true := by kernel_rfl
theorem stat165 : statAll (btAll 165) (Try.f165.body.getD .skip) = true := by kernel_rfl
theorem stat166 : statAll (btAll 166) (Try.f166.body.getD .skip) = true := by kernel_rfl
theorem has2 : HasBody Try.prog 2 := cP_ok.bodies 2 (cx_bodies Try.func2 (by kernel_rfl))
theorem has3 : HasBody Try.prog 3 := cP_ok.bodies 3 (cx_bodies Try.func3 (by kernel_rfl))
theorem has4 : HasBody Try.prog 4 := cP_ok.bodies 4 (cx_bodies Try.func4 (by kernel_rfl))
theorem has5 : HasBody Try.prog 5 := cP_ok.bodies 5 (cx_bodies Try.func5 (by kernel_rfl))
theorem has6 : HasBody Try.prog 6 := cP_ok.bodies 6 (cx_bodies Try.func6 (by kernel_rfl))
theorem has7 : HasBody Try.prog 7 := cP_ok.bodies 7 (cx_bodies Try.func7 (by kernel_rfl))
theorem has8 : HasBody Try.prog 8 := cP_ok.bodies 8 (cx_bodies Try.func8 (by kernel_rfl))
theorem has9 : HasBody Try.prog 9 := cP_ok.bodies 9 (cx_bodies Try.func9 (by kernel_rfl))
theorem has10 : HasBody Try.prog 10 := cP_ok.bodies 10 (cx_bodies Try.func10 (by kernel_rfl))
theorem has11 : HasBody Try.prog 11 := cP_ok.bodies 11 (cx_bodies Try.func11 (by kernel_rfl))
theorem has12 : HasBody Try.prog 12 := cP_ok.bodies 12 (cx_bodies Try.func12 (by kernel_rfl))
theorem has13 : HasBody Try.prog 13 := cP_ok.bodies 13 (cx_bodies Try.func13 (by kernel_rfl))
theorem has14 : HasBody Try.prog 14 := cP_ok.bodies 14 (cx_bodies Try.func14 (by kernel_rfl))
theorem has15 : HasBody Try.prog 15 := cP_ok.bodies 15 (cx_bodies Try.func15 (by kernel_rfl))
theorem has16 : HasBody Try.prog 16 := cP_ok.bodies 16 (cx_bodies Try.func16 (by kernel_rfl))
theorem has17 : HasBody Try.prog 17 := cP_ok.bodies 17 (cx_bodies Try.func17 (by kernel_rfl))
theorem has18 : HasBody Try.prog 18 := cP_ok.bodies 18 (cx_bodies Try.func18 (by kernel_rfl))
theorem has19 : HasBody Try.prog 19 := cP_ok.bodies 19 (cx_bodies Try.func19 (by kernel_rfl))
theorem has20 : HasBody Try.prog 20 := cP_ok.bodies 20 (cx_bodies Try.func20 (by kernel_rfl))
theorem has21 : HasBody Try.prog 21 := cP_ok.bodies 21 (cx_bodies Try.func21 (by kernel_rfl))
theorem has22 : HasBody Try.prog 22 := cP_ok.bodies 22 (cx_bodies Try.func22 (by kernel_rfl))
theorem has23 : HasBody Try.prog 23 := cP_ok.bodies 23 (cx_bodies Try.func23 (by kernel_rfl))
theorem has24 : HasBody Try.prog 24 := cP_ok.bodies 24 (cx_bodies Try.func24 (by kernel_rfl))
theorem has25 : HasBody Try.prog 25 := cP_ok.bodies 25 (cx_bodies Try.func25 (by kernel_rfl))
theorem has26 : HasBody Try.prog 26 := cP_ok.bodies 26 (cx_bodies Try.func26 (by kernel_rfl))
theorem has27 : HasBody Try.prog 27 := cP_ok.bodies 27 (cx_bodies Try.func27 (by kernel_rfl))
theorem has28 : HasBody Try.prog 28 := cP_ok.bodies 28 (cx_bodies Try.func28 (by kernel_rfl))
theorem has29 : HasBody Try.prog 29 := cP_ok.bodies 29 (cx_bodies Try.func29 (by kernel_rfl))
theorem has30 : HasBody Try.prog 30 := cP_ok.bodies 30 (cx_bodies Try.func30 (by kernel_rfl))
theorem has31 : HasBody Try.prog 31 := cP_ok.bodies 31 (cx_bodies Try.func31 (by kernel_rfl))
theorem has32 : HasBody Try.prog 32 := cP_ok.bodies 32 (cx_bodies Try.func32 (by kernel_rfl))
theorem has33 : HasBody Try.prog 33 := cP_ok.bodies 33 (cx_bodies Try.func33 (by kernel_rfl))
theorem has34 : HasBody Try.prog 34 := cP_ok.bodies 34 (cx_bodies Try.func34 (by kernel_rfl))
theorem has35 : HasBody Try.prog 35 := cP_ok.bodies 35 (cx_bodies Try.func35 (by kernel_rfl))
theorem has36 : HasBody Try.prog 36 := cP_ok.bodies 36 (cx_bodies Try.func36 (by kernel_rfl))
theorem has37 : HasBody Try.prog 37 := cP_ok.bodies 37 (cx_bodies Try.func37 (by kernel_rfl))
theorem has38 : HasBody Try.prog 38 := cP_ok.bodies 38 (cx_bodies Try.func38 (by kernel_rfl))
theorem has39 : HasBody Try.prog 39 := cP_ok.bodies 39 (cx_bodies Try.func39 (by kernel_rfl))
theorem has40 : HasBody Try.prog 40 := cP_ok.bodies 40 (cx_bodies Try.func40 (by kernel_rfl))
theorem has41 : HasBody Try.prog 41 := cP_ok.bodies 41 (cx_bodies Try.func41 (by kernel_rfl))
theorem has42 : HasBody Try.prog 42 := cP_ok.bodies 42 (cx_bodies Try.func42 (by kernel_rfl))
theorem has43 : HasBody Try.prog 43 := cP_ok.bodies 43 (cx_bodies Try.func43 (by kernel_rfl))
theorem has44 : HasBody Try.prog 44 := cP_ok.bodies 44 (cx_bodies Try.func44 (by kernel_rfl))
theorem has45 : HasBody Try.prog 45 := cP_ok.bodies 45 (cx_bodies Try.func45 (by kernel_rfl))
theorem has46 : HasBody Try.prog 46 := cP_ok.bodies 46 (cx_bodies Try.func46 (by kernel_rfl))
theorem has47 : HasBody Try.prog 47 := cP_ok.bodies 47 (cx_bodies Try.func47 (by kernel_rfl))
theorem has48 : HasBody Try.prog 48 := cP_ok.bodies 48 (cx_bodies Try.func48 (by kernel_rfl))
theorem has49 : HasBody Try.prog 49 := cP_ok.bodies 49 (cx_bodies Try.func49 (by kernel_rfl))
theorem has50 : HasBody Try.prog 50 := cP_ok.bodies 50 (cx_bodies Try.func50 (by kernel_rfl))
theorem has51 : HasBody Try.prog 51 := cP_ok.bodies 51 (cx_bodies Try.func51 (by kernel_rfl))
theorem has52 : HasBody Try.prog 52 := cP_ok.bodies 52 (cx_bodies Try.func52 (by kernel_rfl))
theorem has53 : HasBody Try.prog 53 := cP_ok.bodies 53 (cx_bodies Try.func53 (by kernel_rfl))
theorem has54 : HasBody Try.prog 54 := cP_ok.bodies 54 (cx_bodies Try.func54 (by kernel_rfl))
theorem has55 : HasBody Try.prog 55 := cP_ok.bodies 55 (cx_bodies Try.func55 (by kernel_rfl))
theorem has56 : HasBody Try.prog 56 := cP_ok.bodies 56 (cx_bodies Try.func56 (by kernel_rfl))
theorem has57 : HasBody Try.prog 57 := cP_ok.bodies 57 (cx_bodies Try.func57 (by kernel_rfl))
theorem has58 : HasBody Try.prog 58 := cP_ok.bodies 58 (cx_bodies Try.func58 (by kernel_rfl))
theorem has59 : HasBody Try.prog 59 := cP_ok.bodies 59 (cx_bodies Try.func59 (by kernel_rfl))
theorem has60 : HasBody Try.prog 60 := cP_ok.bodies 60 (cx_bodies Try.func60 (by kernel_rfl))
theorem has61 : HasBody Try.prog 61 := cP_ok.bodies 61 (cx_bodies Try.func61 (by kernel_rfl))
theorem has62 : HasBody Try.prog 62 := cP_ok.bodies 62 (cx_bodies Try.func62 (by kernel_rfl))
theorem has63 : HasBody Try.prog 63 := cP_ok.bodies 63 (cx_bodies Try.func63 (by kernel_rfl))
theorem has64 : HasBody Try.prog 64 := cP_ok.bodies 64 (cx_bodies Try.func64 (by kernel_rfl))
theorem has65 : HasBody Try.prog 65 := cP_ok.bodies 65 (cx_bodies Try.func65 (by kernel_rfl))
theorem has66 : HasBody Try.prog 66 := cP_ok.bodies 66 (cx_bodies Try.func66 (by kernel_rfl))
theorem has67 : HasBody Try.prog 67 := cP_ok.bodies 67 (cx_bodies Try.func67 (by kernel_rfl))
theorem has68 : HasBody Try.prog 68 := cP_ok.bodies 68 (cx_bodies Try.func68 (by kernel_rfl))
theorem has69 : HasBody Try.prog 69 := cP_ok.bodies 69 (cx_bodies Try.func69 (by kernel_rfl))
theorem has70 : HasBody Try.prog 70 := cP_ok.bodies 70 (cx_bodies Try.func70 (by kernel_rfl))
theorem has71 : HasBody Try.prog 71 := cP_ok.bodies 71 (cx_bodies Try.func71 (by kernel_rfl))
theorem has72 : HasBody Try.prog 72 := cP_ok.bodies 72 (cx_bodies Try.func72 (by kernel_rfl))
theorem has73 : HasBody Try.prog 73 := cP_ok.bodies 73 (cx_bodies Try.func73 (by kernel_rfl))
theorem has74 : HasBody Try.prog 74 := cP_ok.bodies 74 (cx_bodies Try.func74 (by kernel_rfl))
theorem has75 : HasBody Try.prog 75 := cP_ok.bodies 75 (cx_bodies Try.func75 (by kernel_rfl))
theorem has76 : HasBody Try.prog 76 := cP_ok.bodies 76 (cx_bodies Try.func76 (by kernel_rfl))
theorem has77 : HasBody Try.prog 77 := cP_ok.bodies 77 (cx_bodies Try.func77 (by kernel_rfl))
theorem has78 : HasBody Try.prog 78 := cP_ok.bodies 78 (cx_bodies Try.func78 (by kernel_rfl))
theorem has79 : HasBody Try.prog 79 := cP_ok.bodies 79 (cx_bodies Try.func79 (by kernel_rfl))
theorem has80 : HasBody Try.prog 80 := cP_ok.bodies 80 (cx_bodies Try.func80 (by kernel_rfl))
theorem has81 : HasBody Try.prog 81 := cP_ok.bodies 81 (cx_bodies Try.func81 (by kernel_rfl))
theorem has82 : HasBody Try.prog 82 := cP_ok.bodies 82 (cx_bodies Try.func82 (by kernel_rfl))
theorem has83 : HasBody Try.prog 83 := cP_ok.bodies 83 (cx_bodies Try.func83 (by kernel_rfl))
theorem has84 : HasBody Try.prog 84 := cP_ok.bodies 84 (cx_bodies Try.func84 (by kernel_rfl))
theorem has85 : HasBody Try.prog 85 := cP_ok.bodies 85 (cx_bodies Try.func85 (by kernel_rfl))
theorem has86 : HasBody Try.prog 86 := cP_ok.bodies 86 (cx_bodies Try.func86 (by kernel_rfl))
theorem has87 : HasBody Try.prog 87 := cP_ok.bodies 87 (cx_bodies Try.func87 (by kernel_rfl))
theorem has88 : HasBody Try.prog 88 := cP_ok.bodies 88 (cx_bodies Try.func88 (by kernel_rfl))
theorem has89 : HasBody Try.prog 89 := cP_ok.bodies 89 (cx_bodies Try.func89 (by kernel_rfl))
theorem has90 : HasBody Try.prog 90 := cP_ok.bodies 90 (cx_bodies Try.func90 (by kernel_rfl))
theorem has91 : HasBody Try.prog 91 := cP_ok.bodies 91 (cx_bodies Try.func91 (by kernel_rfl))
theorem has92 : HasBody Try.prog 92 := cP_ok.bodies 92 (cx_bodies Try.func92 (by kernel_rfl))
theorem has93 : HasBody Try.prog 93 := cP_ok.bodies 93 (cx_bodies Try.func93 (by kernel_rfl))
theorem has94 : HasBody Try.prog 94 := cP_ok.bodies 94 (cx_bodies Try.func94 (by kernel_rfl))
theorem has95 : HasBody Try.prog 95 := cP_ok.bodies 95 (cx_bodies Try.func95 (by kernel_rfl))
theorem has96 : HasBody Try.prog 96 := cP_ok.bodies 96 (cx_bodies Try.func96 (by kernel_rfl))
theorem has97 : HasBody Try.prog 97 := cP_ok.bodies 97 (cx_bodies Try.func97 (by kernel_rfl))
theorem has98 : HasBody Try.prog 98 := cP_ok.bodies 98 (cx_bodies Try.func98 (by kernel_rfl))
theorem has99 : HasBody Try.prog 99 := cP_ok.bodies 99 (cx_bodies Try.func99 (by kernel_rfl))
theorem has100 : HasBody Try.prog 100 := cP_ok.bodies 100 (cx_bodies Try.func100 (by kernel_rfl))
theorem has101 : HasBody Try.prog 101 := cP_ok.bodies 101 (cx_bodies Try.func101 (by kernel_rfl))
theorem has102 : HasBody Try.prog 102 := cP_ok.bodies 102 (cx_bodies Try.func102 (by kernel_rfl))
theorem has103 : HasBody Try.prog 103 := cP_ok.bodies 103 (cx_bodies Try.func103 (by kernel_rfl))
theorem has104 : HasBody Try.prog 104 := cP_ok.bodies 104 (cx_bodies Try.func104 (by kernel_rfl))
theorem has105 : HasBody Try.prog 105 := cP_ok.bodies 105 (cx_bodies Try.func105 (by kernel_rfl))
theorem has106 : HasBody Try.prog 106 := cP_ok.bodies 106 (cx_bodies Try.func106 (by kernel_rfl))
theorem has107 : HasBody Try.prog 107 := cP_ok.bodies 107 (cx_bodies Try.func107 (by kernel_rfl))
theorem has108 : HasBody Try.prog 108 := cP_ok.bodies 108 (cx_bodies Try.func108 (by kernel_rfl))
theorem has110 : HasBody Try.prog 110 := cP_ok.bodies 110 (cx_bodies Try.func110 (by kernel_rfl))
theorem has111 : HasBody Try.prog 111 := cP_ok.bodies 111 (cx_bodies Try.func111 (by kernel_rfl))
theorem has112 : HasBody Try.prog 112 := cP_ok.bodies 112 (cx_bodies Try.func112 (by kernel_rfl))
theorem has113 : HasBody Try.prog 113 := cP_ok.bodies 113 (cx_bodies Try.func113 (by kernel_rfl))
theorem has114 : HasBody Try.prog 114 := cP_ok.bodies 114 (cx_bodies Try.func114 (by kernel_rfl))
theorem has115 : HasBody Try.prog 115 := cP_ok.bodies 115 (cx_bodies Try.func115 (by kernel_rfl))
theorem has116 : HasBody Try.prog 116 := cP_ok.bodies 116 (cx_bodies Try.func116 (by kernel_rfl))
theorem has117 : HasBody Try.prog 117 := cP_ok.bodies 117 (cx_bodies Try.func117 (by kernel_rfl))
theorem has118 : HasBody Try.prog 118 := cP_ok.bodies 118 (cx_bodies Try.func118 (by kernel_rfl))
theorem has119 : HasBody Try.prog 119 := cP_ok.bodies 119 (cx_bodies Try.func119 (by kernel_rfl))
theorem has120 : HasBody Try.prog 120 := cP_ok.bodies 120 (cx_bodies Try.func120 (by kernel_rfl))
theorem has121 : HasBody Try.prog 121 := cP_ok.bodies 121 (cx_bodies Try.func121 (by kernel_rfl))
theorem has122 : HasBody Try.prog 122 := cP_ok.bodies 122 (cx_bodies Try.func122 (by kernel_rfl))
theorem has123 : HasBody Try.prog 123 := cP_ok.bodies 123 (cx_bodies Try.func123 (by kernel_rfl))
theorem has124 : HasBody Try.prog 124 := cP_ok.bodies 124 (cx_bodies Try.func124 (by kernel_rfl))
theorem has125 : HasBody Try.prog 125 := cP_ok.bodies 125 (cx_bodies Try.func125 (by kernel_rfl))
theorem has126 : HasBody Try.prog 126 := cP_ok.bodies 126 (cx_bodies Try.func126 (by kernel_rfl))
theorem has127 : HasBody Try.prog 127 := cP_ok.bodies 127 (cx_bodies Try.func127 (by kernel_rfl))
theorem has128 : HasBody Try.prog 128 := cP_ok.bodies 128 (cx_bodies Try.func128 (by kernel_rfl))
theorem has129 : HasBody Try.prog 129 := cP_ok.bodies 129 (cx_bodies Try.func129 (by kernel_rfl))
theorem has130 : HasBody Try.prog 130 := cP_ok.bodies 130 (cx_bodies Try.func130 (by kernel_rfl))
theorem has131 : HasBody Try.prog 131 := cP_ok.bodies 131 (cx_bodies Try.func131 (by kernel_rfl))
theorem has132 : HasBody Try.prog 132 := cP_ok.bodies 132 (cx_bodies Try.func132 (by kernel_rfl))
theorem has133 : HasBody Try.prog 133 := cP_ok.bodies 133 (cx_bodies Try.func133 (by kernel_rfl))
theorem has134 : HasBody Try.prog 134 := cP_ok.bodies 134 (cx_bodies Try.func134 (by kernel_rfl))
theorem has135 : HasBody Try.prog 135 := cP_ok.bodies 135 (cx_bodies Try.func135 (by kernel_rfl))
theorem has136 : HasBody Try.prog 136 := cP_ok.bodies 136 (cx_bodies Try.func136 (by kernel_rfl))
theorem has137 : HasBody Try.prog 137 := cP_ok.bodies 137 (cx_bodies Try.func137 (by kernel_rfl))
theorem has138 : HasBody Try.prog 138 := cP_ok.bodies 138 (cx_bodies Try.func138 (by kernel_rfl))
theorem has139 : HasBody Try.prog 139 := cP_ok.bodies 139 (cx_bodies Try.func139 (by kernel_rfl))
theorem has140 : HasBody Try.prog 140 := cP_ok.bodies 140 (cx_bodies Try.func140 (by kernel_rfl))
theorem has141 : HasBody Try.prog 141 := cP_ok.bodies 141 (cx_bodies Try.func141 (by kernel_rfl))
theorem has144 : HasBody Try.prog 144 := cP_ok.bodies 144 (cx_bodies Try.func144 (by kernel_rfl))
theorem has145 : HasBody Try.prog 145 := cP_ok.bodies 145 (cx_bodies Try.func145 (by kernel_rfl))
theorem has146 : HasBody Try.prog 146 := cP_ok.bodies 146 (cx_bodies Try.func146 (by kernel_rfl))
theorem has147 : HasBody Try.prog 147 := cP_ok.bodies 147 (cx_bodies Try.func147 (by kernel_rfl))
theorem has148 : HasBody Try.prog 148 := cP_ok.bodies 148 (cx_bodies Try.func148 (by kernel_rfl))
theorem has149 : HasBody Try.prog 149 := cP_ok.bodies 149 (cx_bodies Try.func149 (by kernel_rfl))
theorem has150 : HasBody Try.prog 150 := cP_ok.bodies 150 (cx_bodies Try.func150 (by kernel_rfl))
theorem has151 : HasBody Try.prog 151 := cP_ok.bodies 151 (cx_bodies Try.func151 (by kernel_rfl))
theorem has152 : HasBody Try.prog 152 := cP_ok.bodies 152 (cx_bodies Try.func152 (by kernel_rfl))
theorem has153 : HasBody Try.prog 153 := cP_ok.bodies 153 (cx_bodies Try.func153 (by kernel_rfl))
theorem has154 : HasBody Try.prog 154 := cP_ok.bodies 154 (cx_bodies Try.func154 (by kernel_rfl))
theorem has155 : HasBody Try.prog 155 := cP_ok.bodies 155 (cx_bodies Try.func155 (by kernel_rfl))
theorem has156 : HasBody Try.prog 156 := cP_ok.bodies 156 (cx_bodies Try.func156 (by kernel_rfl))
theorem has157 : HasBody Try.prog 157 := cP_ok.bodies 157 (cx_bodies Try.func157 (by kernel_rfl))
theorem has158 : HasBody Try.prog 158 := cP_ok.bodies 158 (cx_bodies Try.func158 (by kernel_rfl))
theorem has159 : HasBody Try.prog 159 := cP_ok.bodies 159 (cx_bodies Try.func159 (by kernel_rfl))
theorem has160 : HasBody Try.prog 160 := cP_ok.bodies 160 (cx_bodies Try.func160 (by kernel_rfl))
theorem has161 : HasBody Try.prog 161 := cP_ok.bodies 161 (cx_bodies Try.func161 (by kernel_rfl))
theorem has162 : HasBody Try.prog 162 := cP_ok.bodies 162 (cx_bodies Try.func162 (by kernel_rfl))
theorem has163 : HasBody Try.prog 163 := cP_ok.bodies 163 (cx_bodies Try.func163 (by kernel_rfl))
theorem has164 : HasBody Try.prog 164 := cP_ok.bodies 164 (cx_bodies Try.func164 (by kernel_rfl))
theorem has165 : HasBody Try.prog 165 := cP_ok.bodies 165 (cx_bodies Try.func165 (by kernel_rfl))
theorem has166 : HasBody Try.prog 166 := cP_ok.bodies 166 (cx_bodies Try.func166 (by kernel_rfl))
noncomputable def row2 : FnRow Try.prog btAll := ⟨2, Try.f2, Try.f2.body.getD .skip, Try.func2, by kernel_rfl, stat2, has2⟩
noncomputable def row3 : FnRow Try.prog btAll := ⟨3, Try.f3, Try.f3.body.getD .skip, Try.func3, by kernel_rfl, stat3, has3⟩
noncomputable def row4 : FnRow Try.prog btAll := ⟨4, Try.f4, Try.f4.body.getD .skip, Try.func4, by kernel_rfl, stat4, has4⟩
noncomputable def row5 : FnRow Try.prog btAll := ⟨5, Try.f5, Try.f5.body.getD .skip, Try.func5, by kernel_rfl, stat5, has5⟩
noncomputable def row6 : FnRow Try.prog btAll := ⟨6, Try.f6, Try.f6.body.getD .skip, Try.func6, by kernel_rfl, stat6, has6⟩
noncomputable def row7 : FnRow Try.prog btAll := ⟨7, Try.f7, Try.f7.body.getD .skip, Try.func7, by kernel_rfl, stat7, has7⟩
noncomputable def row8 : FnRow Try.prog btAll := ⟨8, Try.f8, Try.f8.body.getD .skip, Try.func8, by kernel_rfl, stat8, has8⟩
noncomputable def row9 : FnRow Try.prog btAll := ⟨9, Try.f9, Try.f9.body.getD .skip, Try.func9, by kernel_rfl, stat9, has9⟩
noncomputable def row10 : FnRow Try.prog btAll := ⟨10, Try.f10, Try.f10.body.getD .skip, Try.func10, by kernel_rfl, stat10, has10⟩
noncomputable def row11 : FnRow Try.prog btAll := ⟨11, Try.f11, Try.f11.body.getD .skip, Try.func11, by kernel_rfl, stat11, has11⟩
noncomputable def row12 : FnRow Try.prog btAll := ⟨12, Try.f12, Try.f12.body.getD .skip, Try.func12, by kernel_rfl, stat12, has12⟩
noncomputable def row13 : FnRow Try.prog btAll := ⟨13, Try.f13, Try.f13.body.getD .skip, Try.func13, by kernel_rfl, stat13, has13⟩
noncomputable def row14 : FnRow Try.prog btAll := ⟨14, Try.f14, Try.f14.body.getD .skip, Try.func14, by kernel_rfl, stat14, has14⟩
noncomputable def row15 : FnRow Try.prog btAll := ⟨15, Try.f15, Try.f15.body.getD .skip, Try.func15, by kernel_rfl, stat15, has15⟩
noncomputable def row16 : FnRow Try.prog btAll := ⟨16, Try.f16, Try.f16.body.getD .skip, Try.func16, by kernel_rfl, stat16, has16⟩
noncomputable def row17 : FnRow Try.prog btAll := ⟨17, Try.f17, Try.f17.body.getD .skip, Try.func17, by kernel_rfl, stat17, has17⟩
noncomputable def row18 : FnRow Try.prog btAll := ⟨18, Try.f18, Try.f18.body.getD .skip, Try.func18, by kernel_rfl, stat18, has18⟩
noncomputable def row19 : FnRow Try.prog btAll := ⟨19, Try.f19, Try.f19.body.getD .skip, Try.func19, by kernel_rfl, stat19, has19⟩
noncomputable def row20 : FnRow Try.prog btAll := ⟨20, Try.f20, Try.f20.body.getD .skip, Try.func20, by kernel_rfl, stat20, has20⟩
noncomputable def row21 : FnRow Try.prog btAll := ⟨21, Try.f21, Try.f21.body.getD .skip, Try.func21, by kernel_rfl, stat21, has21⟩
noncomputable def row22 : FnRow Try.prog btAll := ⟨22, Try.f22, Try.f22.body.getD .skip, Try.func22, by kernel_rfl, stat22, has22⟩
noncomputable def row23 : FnRow Try.prog btAll := ⟨23, Try.f23, Try.f23.body.getD .skip, Try.func23, by kernel_rfl, stat23, has23⟩
noncomputable def row24 : FnRow Try.prog btAll := ⟨24, Try.f24, Try.f24.body.getD .skip, Try.func24, by kernel_rfl, stat24, has24⟩
noncomputable def row25 : FnRow Try.prog btAll := ⟨25, Try.f25, Try.f25.body.getD .skip, Try.func25, by kernel_rfl, stat25, has25⟩
noncomputable def row26 : FnRow Try.prog btAll := ⟨26, Try.f26, Try.f26.body.getD .skip, Try.func26, by kernel_rfl, stat26, has26⟩
noncomputable def row27 : FnRow Try.prog btAll := ⟨27, Try.f27, Try.f27.body.getD .skip, Try.func27, by kernel_rfl, stat27, has27⟩
noncomputable def row28 : FnRow Try.prog btAll := ⟨28, Try.f28, Try.f28.body.getD .skip, Try.func28, by kernel_rfl, stat28, has28⟩
noncomputable def row29 : FnRow Try.prog btAll := ⟨29, Try.f29, Try.f29.body.getD .skip, Try.func29, by kernel_rfl, stat29, has29⟩
noncomputable def row30 : FnRow Try.prog btAll := ⟨30, Try.f30, Try.f30.body.getD .skip, Try.func30, by kernel_rfl, stat30, has30⟩
noncomputable def row31 : FnRow Try.prog btAll := ⟨31, Try.f31, Try.f31.body.getD .skip, Try.func31, by kernel_rfl, stat31, has31⟩
noncomputable def row32 : FnRow Try.prog btAll := ⟨32, Try.f32, Try.f32.body.getD .skip, Try.func32, by kernel_rfl, stat32, has32⟩
noncomputable def row33 : FnRow Try.prog btAll := ⟨33, Try.f33, Try.f33.body.getD .skip, Try.func33, by kernel_rfl, stat33, has33⟩
noncomputable def row34 : FnRow Try.prog btAll := ⟨34, Try.f34, Try.f34.body.getD .skip, Try.func34, by kernel_rfl, stat34, has34⟩
noncomputable def row35 : FnRow Try.prog btAll := ⟨35, Try.f35, Try.f35.body.getD .skip, Try.func35, by kernel_rfl, stat35, has35⟩
noncomputable def row36 : FnRow Try.prog btAll := ⟨36, Try.f36, Try.f36.body.getD .skip, Try.func36, by kernel_rfl, stat36, has36⟩
noncomputable def row37 : FnRow Try.prog btAll := ⟨37, Try.f37, Try.f37.body.getD .skip, Try.func37, by kernel_rfl, stat37, has37⟩
noncomputable def row38 : FnRow Try.prog btAll := ⟨38, Try.f38, Try.f38.body.getD .skip, Try.func38, by kernel_rfl, stat38, has38⟩
noncomputable def row39 : FnRow Try.prog btAll := ⟨39, Try.f39, Try.f39.body.getD .skip, Try.func39, by kernel_rfl, stat39, has39⟩
noncomputable def row40 : FnRow Try.prog btAll := ⟨40, Try.f40, Try.f40.body.getD .skip, Try.func40, by kernel_rfl, stat40, has40⟩
noncomputable def row41 : FnRow Try.prog btAll := ⟨41, Try.f41, Try.f41.body.getD .skip, Try.func41, by kernel_rfl, stat41, has41⟩
noncomputable def row42 : FnRow Try.prog btAll := ⟨42, Try.f42, Try.f42.body.getD .skip, Try.func42, by kernel_rfl, stat42, has42⟩
noncomputable def row43 : FnRow Try.prog btAll := ⟨43, Try.f43, Try.f43.body.getD .skip, Try.func43, by kernel_rfl, stat43, has43⟩
noncomputable def row44 : FnRow Try.prog btAll := ⟨44, Try.f44, Try.f44.body.getD .skip, Try.func44, by kernel_rfl, stat44, has44⟩
noncomputable def row45 : FnRow Try.prog btAll := ⟨45, Try.f45, Try.f45.body.getD .skip, Try.func45, by kernel_rfl, stat45, has45⟩
noncomputable def row46 : FnRow Try.prog btAll := ⟨46, Try.f46, Try.f46.body.getD .skip, Try.func46, by kernel_rfl, stat46, has46⟩
noncomputable def row47 : FnRow Try.prog btAll := ⟨47, Try.f47, Try.f47.body.getD .skip, Try.func47, by kernel_rfl, stat47, has47⟩
noncomputable def row48 : FnRow Try.prog btAll := ⟨48, Try.f48, Try.f48.body.getD .skip, Try.func48, by kernel_rfl, stat48, has48⟩
noncomputable def row49 : FnRow Try.prog btAll := ⟨49, Try.f49, Try.f49.body.getD .skip, Try.func49, by kernel_rfl, stat49, has49⟩
noncomputable def row50 : FnRow Try.prog btAll := ⟨50, Try.f50, Try.f50.body.getD .skip, Try.func50, by kernel_rfl, stat50, has50⟩
noncomputable def row51 : FnRow Try.prog btAll := ⟨51, Try.f51, Try.f51.body.getD .skip, Try.func51, by kernel_rfl, stat51, has51⟩
noncomputable def row52 : FnRow Try.prog btAll := ⟨52, Try.f52, Try.f52.body.getD .skip, Try.func52, by kernel_rfl, stat52, has52⟩
noncomputable def row53 : FnRow Try.prog btAll := ⟨53, Try.f53, Try.f53.body.getD .skip, Try.func53, by kernel_rfl, stat53, has53⟩
noncomputable def row54 : FnRow Try.prog btAll := ⟨54, Try.f54, Try.f54.body.getD .skip, Try.func54, by kernel_rfl, stat54, has54⟩
noncomputable def row55 : FnRow Try.prog btAll := ⟨55, Try.f55, Try.f55.body.getD .skip, Try.func55, by kernel_rfl, stat55, has55⟩
noncomputable def row56 : FnRow Try.prog btAll := ⟨56, Try.f56, Try.f56.body.getD .skip, Try.func56, by kernel_rfl, stat56, has56⟩
noncomputable def row57 : FnRow Try.prog btAll := ⟨57, Try.f57, Try.f57.body.getD .skip, Try.func57, by kernel_rfl, stat57, has57⟩
noncomputable def row58 : FnRow Try.prog btAll := ⟨58, Try.f58, Try.f58.body.getD .skip, Try.func58, by kernel_rfl, stat58, has58⟩
noncomputable def row59 : FnRow Try.prog btAll := ⟨59, Try.f59, Try.f59.body.getD .skip, Try.func59, by kernel_rfl, stat59, has59⟩
noncomputable def row60 : FnRow Try.prog btAll := ⟨60, Try.f60, Try.f60.body.getD .skip, Try.func60, by kernel_rfl, stat60, has60⟩
noncomputable def row61 : FnRow Try.prog btAll := ⟨61, Try.f61, Try.f61.body.getD .skip, Try.func61, by kernel_rfl, stat61, has61⟩
noncomputable def row62 : FnRow Try.prog btAll := ⟨62, Try.f62, Try.f62.body.getD .skip, Try.func62, by kernel_rfl, stat62, has62⟩
noncomputable def row63 : FnRow Try.prog btAll := ⟨63, Try.f63, Try.f63.body.getD .skip, Try.func63, by kernel_rfl, stat63, has63⟩
noncomputable def row64 : FnRow Try.prog btAll := ⟨64, Try.f64, Try.f64.body.getD .skip, Try.func64, by kernel_rfl, stat64, has64⟩
noncomputable def row65 : FnRow Try.prog btAll := ⟨65, Try.f65, Try.f65.body.getD .skip, Try.func65, by kernel_rfl, stat65, has65⟩
noncomputable def row66 : FnRow Try.prog btAll := ⟨66, Try.f66, Try.f66.body.getD .skip, Try.func66, by kernel_rfl, stat66, has66⟩
noncomputable def row67 : FnRow Try.prog btAll := ⟨67, Try.f67, Try.f67.body.getD .skip, Try.func67, by kernel_rfl, stat67, has67⟩
noncomputable def row68 : FnRow Try.prog btAll := ⟨68, Try.f68, Try.f68.body.getD .skip, Try.func68, by kernel_rfl, stat68, has68⟩
noncomputable def row69 : FnRow Try.prog btAll := ⟨69, Try.f69, Try.f69.body.getD .skip, Try.func69, by kernel_rfl, stat69, has69⟩
noncomputable def row70 : FnRow Try.prog btAll := ⟨70, Try.f70, Try.f70.body.getD .skip, Try.func70, by kernel_rfl, stat70, has70⟩
noncomputable def row71 : FnRow Try.prog btAll := ⟨71, Try.f71, Try.f71.body.getD .skip, Try.func71, by kernel_rfl, stat71, has71⟩
noncomputable def row72 : FnRow Try.prog btAll := ⟨72, Try.f72, Try.f72.body.getD .skip, Try.func72, by kernel_rfl, stat72, has72⟩
noncomputable def row73 : FnRow Try.prog btAll := ⟨73, Try.f73, Try.f73.body.getD .skip, Try.func73, by kernel_rfl, stat73, has73⟩
noncomputable def row74 : FnRow Try.prog btAll := ⟨74, Try.f74, Try.f74.body.getD .skip, Try.func74, by kernel_rfl, stat74, has74⟩
noncomputable def row75 : FnRow Try.prog btAll := ⟨75, Try.f75, Try.f75.body.getD .skip, Try.func75, by kernel_rfl, stat75, has75⟩
noncomputable def row76 : FnRow Try.prog btAll := ⟨76, Try.f76, Try.f76.body.getD .skip, Try.func76, by kernel_rfl, stat76, has76⟩
noncomputable def row77 : FnRow Try.prog btAll := ⟨77, Try.f77, Try.f77.body.getD .skip, Try.func77, by kernel_rfl, stat77, has77⟩
noncomputable def row78 : FnRow Try.prog btAll := ⟨78, Try.f78, Try.f78.body.getD .skip, Try.func78, by kernel_rfl, stat78, has78⟩
noncomputable def row79 : FnRow Try.prog btAll := ⟨79, Try.f79, Try.f79.body.getD .skip, Try.func79, by kernel_rfl, stat79, has79⟩
noncomputable def row80 : FnRow Try.prog btAll := ⟨80, Try.f80, Try.f80.body.getD .skip, Try.func80, by kernel_rfl, stat80, has80⟩
noncomputable def row81 : FnRow Try.prog btAll := ⟨81, Try.f81, Try.f81.body.getD .skip, Try.func81, by kernel_rfl, stat81, has81⟩
noncomputable def row82 : FnRow Try.prog btAll := ⟨82, Try.f82, Try.f82.body.getD .skip, Try.func82, by kernel_rfl, stat82, has82⟩
noncomputable def row83 : FnRow Try.prog btAll := ⟨83, Try.f83, Try.f83.body.getD .skip, Try.func83, by kernel_rfl, stat83, has83⟩
noncomputable def row84 : FnRow Try.prog btAll := ⟨84, Try.f84, Try.f84.body.getD .skip, Try.func84, by kernel_rfl, stat84, has84⟩
noncomputable def row85 : FnRow Try.prog btAll := ⟨85, Try.f85, Try.f85.body.getD .skip, Try.func85, by kernel_rfl, stat85, has85⟩
noncomputable def row86 : FnRow Try.prog btAll := ⟨86, Try.f86, Try.f86.body.getD .skip, Try.func86, by kernel_rfl, stat86, has86⟩
noncomputable def row87 : FnRow Try.prog btAll := ⟨87, Try.f87, Try.f87.body.getD .skip, Try.func87, by kernel_rfl, stat87, has87⟩
noncomputable def row88 : FnRow Try.prog btAll := ⟨88, Try.f88, Try.f88.body.getD .skip, Try.func88, by kernel_rfl, stat88, has88⟩
noncomputable def row89 : FnRow Try.prog btAll := ⟨89, Try.f89, Try.f89.body.getD .skip, Try.func89, by kernel_rfl, stat89, has89⟩
noncomputable def row90 : FnRow Try.prog btAll := ⟨90, Try.f90, Try.f90.body.getD .skip, Try.func90, by kernel_rfl, stat90, has90⟩
noncomputable def row91 : FnRow Try.prog btAll := ⟨91, Try.f91, Try.f91.body.getD .skip, Try.func91, by kernel_rfl, stat91, has91⟩
noncomputable def row92 : FnRow Try.prog btAll := ⟨92, Try.f92, Try.f92.body.getD .skip, Try.func92, by kernel_rfl, stat92, has92⟩
noncomputable def row93 : FnRow Try.prog btAll := ⟨93, Try.f93, Try.f93.body.getD .skip, Try.func93, by kernel_rfl, stat93, has93⟩
noncomputable def row94 : FnRow Try.prog btAll := ⟨94, Try.f94, Try.f94.body.getD .skip, Try.func94, by kernel_rfl, stat94, has94⟩
noncomputable def row95 : FnRow Try.prog btAll := ⟨95, Try.f95, Try.f95.body.getD .skip, Try.func95, by kernel_rfl, stat95, has95⟩
noncomputable def row96 : FnRow Try.prog btAll := ⟨96, Try.f96, Try.f96.body.getD .skip, Try.func96, by kernel_rfl, stat96, has96⟩
noncomputable def row97 : FnRow Try.prog btAll := ⟨97, Try.f97, Try.f97.body.getD .skip, Try.func97, by kernel_rfl, stat97, has97⟩
noncomputable def row98 : FnRow Try.prog btAll := ⟨98, Try.f98, Try.f98.body.getD .skip, Try.func98, by kernel_rfl, stat98, has98⟩
noncomputable def row99 : FnRow Try.prog btAll := ⟨99, Try.f99, Try.f99.body.getD .skip, Try.func99, by kernel_rfl, stat99, has99⟩
noncomputable def row100 : FnRow Try.prog btAll := ⟨100, Try.f100, Try.f100.body.getD .skip, Try.func100, by kernel_rfl, stat100, has100⟩
noncomputable def row101 : FnRow Try.prog btAll := ⟨101, Try.f101, Try.f101.body.getD .skip, Try.func101, by kernel_rfl, stat101, has101⟩
noncomputable def row102 : FnRow Try.prog btAll := ⟨102, Try.f102, Try.f102.body.getD .skip, Try.func102, by kernel_rfl, stat102, has102⟩
noncomputable def row103 : FnRow Try.prog btAll := ⟨103, Try.f103, Try.f103.body.getD .skip, Try.func103, by kernel_rfl, stat103, has103⟩
noncomputable def row104 : FnRow Try.prog btAll := ⟨104, Try.f104, Try.f104.body.getD .skip, Try.func104, by kernel_rfl, stat104, has104⟩
noncomputable def row105 : FnRow Try.prog btAll := ⟨105, Try.f105, Try.f105.body.getD .skip, Try.func105, by kernel_rfl, stat105, has105⟩
noncomputable def row106 : FnRow Try.prog btAll := ⟨106, Try.f106, Try.f106.body.getD .skip, Try.func106, by kernel_rfl, stat106, has106⟩
noncomputable def row107 : FnRow Try.prog btAll := ⟨107, Try.f107, Try.f107.body.getD .skip, Try.func107, by kernel_rfl, stat107, has107⟩
noncomputable def row108 : FnRow Try.prog btAll := ⟨108, Try.f108, Try.f108.body.getD .skip, Try.func108, by kernel_rfl, stat108, has108⟩
noncomputable def row110 : FnRow Try.prog btAll := ⟨110, Try.f110, Try.f110.body.getD .skip, Try.func110, by kernel_rfl, stat110, has110⟩
noncomputable def row111 : FnRow Try.prog btAll := ⟨111, Try.f111, Try.f111.body.getD .skip, Try.func111, by kernel_rfl, stat111, has111⟩
noncomputable def row112 : FnRow Try.prog btAll := ⟨112, Try.f112, Try.f112.body.getD .skip, Try.func112, by kernel_rfl, stat112, has112⟩
noncomputable def row113 : FnRow Try.prog btAll := ⟨113, Try.f113, Try.f113.body.getD .skip, Try.func113, by kernel_rfl, stat113, has113⟩
noncomputable def row114 : FnRow Try.prog btAll := ⟨114, Try.f114, Try.f114.body.getD .skip, Try.func114, by kernel_rfl, stat114, has114⟩
noncomputable def row115 : FnRow Try.prog btAll := ⟨115, Try.f115, Try.f115.body.getD .skip, Try.func115, by kernel_rfl, stat115, has115⟩
noncomputable def row116 : FnRow Try.prog btAll := ⟨116, Try.f116, Try.f116.body.getD .skip, Try.func116, by kernel_rfl, stat116, has116⟩
noncomputable def row117 : FnRow Try.prog btAll := ⟨117, Try.f117, Try.f117.body.getD .skip, Try.func117, by kernel_rfl, stat117, has117⟩
noncomputable def row118 : FnRow Try.prog btAll := ⟨118, Try.f118, Try.f118.body.getD .skip, Try.func118, by kernel_rfl, stat118, has118⟩
noncomputable def row119 : FnRow Try.prog btAll := ⟨119, Try.f119, Try.f119.body.getD .skip, Try.func119, by kernel_rfl, stat119, has119⟩
noncomputable def row120 : FnRow Try.prog btAll := ⟨120, Try.f120, Try.f120.body.getD .skip, Try.func120, by kernel_rfl, stat120, has120⟩
noncomputable def row121 : FnRow Try.prog btAll := ⟨121, Try.f121, Try.f121.body.getD .skip, Try.func121, by kernel_rfl, stat121, has121⟩
noncomputable def row122 : FnRow Try.prog btAll := ⟨122, Try.f122, Try.f122.body.getD .skip, Try.func122, by kernel_rfl, stat122, has122⟩
noncomputable def row123 : FnRow Try.prog btAll := ⟨123, Try.f123, Try.f123.body.getD .skip, Try.func123, by kernel_rfl, stat123, has123⟩
noncomputable def row124 : FnRow Try.prog btAll := ⟨124, Try.f124, Try.f124.body.getD .skip, Try.func124, by kernel_rfl, stat124, has124⟩
noncomputable def row125 : FnRow Try.prog btAll := ⟨125, Try.f125, Try.f125.body.getD .skip, Try.func125, by kernel_rfl, stat125, has125⟩
noncomputable def row126 : FnRow Try.prog btAll := ⟨126, Try.f126, Try.f126.body.getD .skip, Try.func126, by kernel_rfl, stat126, has126⟩
noncomputable def row127 : FnRow Try.prog btAll := ⟨127, Try.f127, Try.f127.body.getD .skip, Try.func127, by kernel_rfl, stat127, has127⟩
noncomputable def row128 : FnRow Try.prog btAll := ⟨128, Try.f128, Try.f128.body.getD .skip, Try.func128, by kernel_rfl, stat128, has128⟩
noncomputable def row129 : FnRow Try.prog btAll := ⟨129, Try.f129, Try.f129.body.getD .skip, Try.func129, by kernel_rfl, stat129, has129⟩
noncomputable def row130 : FnRow Try.prog btAll := ⟨130, Try.f130, Try.f130.body.getD .skip, Try.func130, by kernel_rfl, stat130, has130⟩
noncomputable def row131 : FnRow Try.prog btAll := ⟨131, Try.f131, Try.f131.body.getD .skip, Try.func131, by kernel_rfl, stat131, has131⟩
noncomputable def row132 : FnRow Try.prog btAll := ⟨132, Try.f132, Try.f132.body.getD .skip, Try.func132, by kernel_rfl, stat132, has132⟩
noncomputable def row133 : FnRow Try.prog btAll := ⟨133, Try.f133, Try.f133.body.getD .skip, Try.func133, by kernel_rfl, stat133, has133⟩
noncomputable def row134 : FnRow Try.prog btAll := ⟨134, Try.f134, Try.f134.body.getD .skip, Try.func134, by kernel_rfl, stat134, has134⟩
noncomputable def row135 : FnRow Try.prog btAll := ⟨135, Try.f135, Try.f135.body.getD .skip, Try.func135, by kernel_rfl, stat135, has135⟩
noncomputable def row136 : FnRow Try.prog btAll := ⟨136, Try.f136, Try.f136.body.getD .skip, Try.func136, by kernel_rfl, stat136, has136⟩
noncomputable def row137 : FnRow Try.prog btAll := ⟨137, Try.f137, Try.f137.body.getD .skip, Try.func137, by kernel_rfl, stat137, has137⟩
noncomputable def row138 : FnRow Try.prog btAll := ⟨138, Try.f138, Try.f138.body.getD .skip, Try.func138, by kernel_rfl, stat138, has138⟩
noncomputable def row139 : FnRow Try.prog btAll := ⟨139, Try.f139, Try.f139.body.getD .skip, Try.func139, by kernel_rfl, stat139, has139⟩
noncomputable def row140 : FnRow Try.prog btAll := ⟨140, Try.f140, Try.f140.body.getD .skip, Try.func140, by kernel_rfl, stat140, has140⟩
noncomputable def row141 : FnRow Try.prog btAll := ⟨141, Try.f141, Try.f141.body.getD .skip, Try.func141, by kernel_rfl, stat141, has141⟩
noncomputable def row144 : FnRow Try.prog btAll := ⟨144, Try.f144, Try.f144.body.getD .skip, Try.func144, by kernel_rfl, stat144, has144⟩
noncomputable def row145 : FnRow Try.prog btAll := ⟨145, Try.f145, Try.f145.body.getD .skip, Try.func145, by kernel_rfl, stat145, has145⟩
noncomputable def row146 : FnRow Try.prog btAll := ⟨146, Try.f146, Try.f146.body.getD .skip, Try.func146, by kernel_rfl, stat146, has146⟩
noncomputable def row147 : FnRow Try.prog btAll := ⟨147, Try.f147, Try.f147.body.getD .skip, Try.func147, by kernel_rfl, stat147, has147⟩
noncomputable def row148 : FnRow Try.prog btAll := ⟨148, Try.f148, Try.f148.body.getD .skip, Try.func148, by kernel_rfl, stat148, has148⟩
noncomputable def row149 : FnRow Try.prog btAll := ⟨149, Try.f149, Try.f149.body.getD .skip, Try.func149, by kernel_rfl, stat149, has149⟩
noncomputable def row150 : FnRow Try.prog btAll := ⟨150, Try.f150, Try.f150.body.getD .skip, Try.func150, by kernel_rfl, stat150, has150⟩
noncomputable def row151 : FnRow Try.prog btAll := ⟨151, Try.f151, Try.f151.body.getD .skip, Try.func151, by kernel_rfl, stat151, has151⟩
noncomputable def row152 : FnRow Try.prog btAll := ⟨152, Try.f152, Try.f152.body.getD .skip, Try.func152, by kernel_rfl, stat152, has152⟩
noncomputable def row153 : FnRow Try.prog btAll := ⟨153, Try.f153, Try.f153.body.getD .skip, Try.func153, by kernel_rfl, stat153, has153⟩
noncomputable def row154 : FnRow Try.prog btAll := ⟨154, Try.f154, Try.f154.body.getD .skip, Try.func154, by kernel_rfl, stat154, has154⟩
noncomputable def row155 : FnRow Try.prog btAll := ⟨155, Try.f155, Try.f155.body.getD .skip, Try.func155, by kernel_rfl, stat155, has155⟩
noncomputable def row156 : FnRow Try.prog btAll := ⟨156, Try.f156, Try.f156.body.getD .skip, Try.func156, by kernel_rfl, stat156, has156⟩
noncomputable def row157 : FnRow Try.prog btAll := ⟨157, Try.f157, Try.f157.body.getD .skip, Try.func157, by kernel_rfl, stat157, has157⟩
noncomputable def row158 : FnRow Try.prog btAll := ⟨158, Try.f158, Try.f158.body.getD .skip, Try.func158, by kernel_rfl, stat158, has158⟩
noncomputable def row159 : FnRow Try.prog btAll := ⟨159, Try.f159, Try.f159.body.getD .skip, Try.func159, by kernel_rfl, stat159, has159⟩
noncomputable def row160 : FnRow Try.prog btAll := ⟨160, Try.f160, Try.f160.body.getD .skip, Try.func160, by kernel_rfl, stat160, has160⟩
noncomputable def row161 : FnRow Try.prog btAll := ⟨161, Try.f161, Try.f161.body.getD .skip, Try.func161, by kernel_rfl, stat161, has161⟩
noncomputable def row162 : FnRow Try.prog btAll := ⟨162, Try.f162, Try.f162.body.getD .skip, Try.func162, by kernel_rfl, stat162, has162⟩
noncomputable def row163 : FnRow Try.prog btAll := ⟨163, Try.f163, Try.f163.body.getD .skip, Try.func163, by kernel_rfl, stat163, has163⟩
noncomputable def row164 : FnRow Try.prog btAll := ⟨164, Try.f164, Try.f164.body.getD .skip, Try.func164, by kernel_rfl, stat164, has164⟩
noncomputable def row165 : FnRow Try.prog btAll := ⟨165, Try.f165, Try.f165.body.getD .skip, Try.func165, by kernel_rfl, stat165, has165⟩
noncomputable def row166 : FnRow Try.prog btAll := ⟨166, Try.f166, Try.f166.body.getD .skip, Try.func166, by kernel_rfl, stat166, has166⟩

noncomputable def fnTree : BT (FnRow Try.prog btAll) := (.node (.node (.node (.node (.node (.node (.node (.node .leaf none (.node .leaf (some row128) .leaf)) none (.node .leaf (some row64) .leaf)) none (.node (.node .leaf none (.node .leaf (some row160) .leaf)) (some row32) (.node .leaf (some row96) .leaf))) none (.node (.node (.node .leaf none (.node .leaf (some row144) .leaf)) none (.node .leaf (some row80) .leaf)) (some row16) (.node .leaf (some row48) (.node .leaf (some row112) .leaf)))) none (.node (.node (.node (.node .leaf none (.node .leaf (some row136) .leaf)) none (.node .leaf (some row72) .leaf)) none (.node .leaf (some row40) (.node .leaf (some row104) .leaf))) (some row8) (.node (.node (.node .leaf none (.node .leaf (some row152) .leaf)) none (.node .leaf (some row88) .leaf)) (some row24) (.node .leaf (some row56) (.node .leaf (some row120) .leaf))))) none (.node (.node (.node (.node (.node .leaf none (.node .leaf (some row132) .leaf)) none (.node .leaf (some row68) .leaf)) none (.node (.node .leaf none (.node .leaf (some row164) .leaf)) (some row36) (.node .leaf (some row100) .leaf))) none (.node (.node (.node .leaf none (.node .leaf (some row148) .leaf)) none (.node .leaf (some row84) .leaf)) (some row20) (.node .leaf (some row52) (.node .leaf (some row116) .leaf)))) (some row4) (.node (.node (.node (.node .leaf none (.node .leaf (some row140) .leaf)) none (.node .leaf (some row76) .leaf)) none (.node .leaf (some row44) (.node .leaf (some row108) .leaf))) (some row12) (.node (.node (.node .leaf none (.node .leaf (some row156) .leaf)) none (.node .leaf (some row92) .leaf)) (some row28) (.node .leaf (some row60) (.node .leaf (some row124) .leaf)))))) none (.node (.node (.node (.node (.node (.node .leaf none (.node .leaf (some row130) .leaf)) none (.node .leaf (some row66) .leaf)) none (.node (.node .leaf none (.node .leaf (some row162) .leaf)) (some row34) (.node .leaf (some row98) .leaf))) none (.node (.node (.node .leaf none (.node .leaf (some row146) .leaf)) none (.node .leaf (some row82) .leaf)) (some row18) (.node .leaf (some row50) (.node .leaf (some row114) .leaf)))) none (.node (.node (.node (.node .leaf none (.node .leaf (some row138) .leaf)) none (.node .leaf (some row74) .leaf)) none (.node .leaf (some row42) (.node .leaf (some row106) .leaf))) (some row10) (.node (.node (.node .leaf none (.node .leaf (some row154) .leaf)) none (.node .leaf (some row90) .leaf)) (some row26) (.node .leaf (some row58) (.node .leaf (some row122) .leaf))))) (some row2) (.node (.node (.node (.node (.node .leaf none (.node .leaf (some row134) .leaf)) none (.node .leaf (some row70) .leaf)) none (.node (.node .leaf none (.node .leaf (some row166) .leaf)) (some row38) (.node .leaf (some row102) .leaf))) none (.node (.node (.node .leaf none (.node .leaf (some row150) .leaf)) none (.node .leaf (some row86) .leaf)) (some row22) (.node .leaf (some row54) (.node .leaf (some row118) .leaf)))) (some row6) (.node (.node (.node .leaf none (.node .leaf (some row78) .leaf)) none (.node .leaf (some row46) (.node .leaf (some row110) .leaf))) (some row14) (.node (.node (.node .leaf none (.node .leaf (some row158) .leaf)) none (.node .leaf (some row94) .leaf)) (some row30) (.node .leaf (some row62) (.node .leaf (some row126) .leaf))))))) none (.node (.node (.node (.node (.node (.node (.node .leaf none (.node .leaf (some row129) .leaf)) none (.node .leaf (some row65) .leaf)) none (.node (.node .leaf none (.node .leaf (some row161) .leaf)) (some row33) (.node .leaf (some row97) .leaf))) none (.node (.node (.node .leaf none (.node .leaf (some row145) .leaf)) none (.node .leaf (some row81) .leaf)) (some row17) (.node .leaf (some row49) (.node .leaf (some row113) .leaf)))) none (.node (.node (.node (.node .leaf none (.node .leaf (some row137) .leaf)) none (.node .leaf (some row73) .leaf)) none (.node .leaf (some row41) (.node .leaf (some row105) .leaf))) (some row9) (.node (.node (.node .leaf none (.node .leaf (some row153) .leaf)) none (.node .leaf (some row89) .leaf)) (some row25) (.node .leaf (some row57) (.node .leaf (some row121) .leaf))))) none (.node (.node (.node (.node (.node .leaf none (.node .leaf (some row133) .leaf)) none (.node .leaf (some row69) .leaf)) none (.node (.node .leaf none (.node .leaf (some row165) .leaf)) (some row37) (.node .leaf (some row101) .leaf))) none (.node (.node (.node .leaf none (.node .leaf (some row149) .leaf)) none (.node .leaf (some row85) .leaf)) (some row21) (.node .leaf (some row53) (.node .leaf (some row117) .leaf)))) (some row5) (.node (.node (.node (.node .leaf none (.node .leaf (some row141) .leaf)) none (.node .leaf (some row77) .leaf)) none (.node .leaf (some row45) .leaf)) (some row13) (.node (.node (.node .leaf none (.node .leaf (some row157) .leaf)) none (.node .leaf (some row93) .leaf)) (some row29) (.node .leaf (some row61) (.node .leaf (some row125) .leaf)))))) none (.node (.node (.node (.node (.node (.node .leaf none (.node .leaf (some row131) .leaf)) none (.node .leaf (some row67) .leaf)) none (.node (.node .leaf none (.node .leaf (some row163) .leaf)) (some row35) (.node .leaf (some row99) .leaf))) none (.node (.node (.node .leaf none (.node .leaf (some row147) .leaf)) none (.node .leaf (some row83) .leaf)) (some row19) (.node .leaf (some row51) (.node .leaf (some row115) .leaf)))) none (.node (.node (.node (.node .leaf none (.node .leaf (some row139) .leaf)) none (.node .leaf (some row75) .leaf)) none (.node .leaf (some row43) (.node .leaf (some row107) .leaf))) (some row11) (.node (.node (.node .leaf none (.node .leaf (some row155) .leaf)) none (.node .leaf (some row91) .leaf)) (some row27) (.node .leaf (some row59) (.node .leaf (some row123) .leaf))))) (some row3) (.node (.node (.node (.node (.node .leaf none (.node .leaf (some row135) .leaf)) none (.node .leaf (some row71) .leaf)) none (.node .leaf (some row39) (.node .leaf (some row103) .leaf))) none (.node (.node (.node .leaf none (.node .leaf (some row151) .leaf)) none (.node .leaf (some row87) .leaf)) (some row23) (.node .leaf (some row55) (.node .leaf (some row119) .leaf)))) (some row7) (.node (.node (.node .leaf none (.node .leaf (some row79) .leaf)) none (.node .leaf (some row47) (.node .leaf (some row111) .leaf))) (some row15) (.node (.node (.node .leaf none (.node .leaf (some row159) .leaf)) none (.node .leaf (some row95) .leaf)) (some row31) (.node .leaf (some row63) (.node .leaf (some row127) .leaf))))))))

noncomputable def fnAt (f : FuncId) : Option (FnRow Try.prog btAll) := fnTree.get (bits f f)
noncomputable def fnIs (f : FuncId) : Bool :=
  match fnAt f with
  | some r => Nat.beq r.num f
  | none => false
theorem fnIs_ok (f : FuncId) (h : fnIs f = true) : HasBody Try.prog f := by
  unfold fnIs at h
  split at h
  · rename_i r _
    rw [← Nat.eq_of_beq_eq_true h]
    exact r.has
  · cases h

theorem drawnMixed : Try.prog.follows .mixedOrders = true := by kernel_rfl

noncomputable def cT : Cx := { T := { info := tyAt, flat := flats Try.prog, ext := extAt }, bodies := fnIs }
theorem cT_ok : cT.Ok Try.prog := ⟨⟨tyAt_ok, cP_ok.T.flat, extAt_ok⟩, fnIs_ok⟩

/-- A whole call, from nothing. -/
noncomputable def whole (n d : Nat) (f : FuncId) (args : List Value) : Option (AE × St × Log) := (orcN cT btAll fnAt n d).call f args St.nil

def answers : Option (AE × St × Log) → Option Value
  | some (.ret v, _, _) => some v
  | _ => none

theorem whole_call {n d : Nat} {f : FuncId} {args : List Value} {v : Value} (h : answers (whole n d f args) = some v) (ha : plainL args = true) (hv : plain v = true) (σ : St) : DCall Try.prog f args σ (.ret v) σ [] := by
  unfold answers at h
  split at h
  · rename_i v' σ' lg hw
    cases h
    exact ((orcN_ok cT_ok drawnMixed d).call f args St.nil _ σ' lg hw).alone ha hv σ
  · cases h

end Go.Ab

set_option linter.unusedSimpArgs false
set_option linter.unusedVariables false
namespace Go.Ab

theorem btAt5_17 : btAll 5 17 = [0, 0, 0, 0, 12, 28, 60, 127, 255, 511, 511, 0, 3071, 8191] := by kernel_rfl
theorem btAt5_19 : btAll 5 19 = [0, 0, 0, 0, 12, 28, 60, 127, 255, 511, 511, 0, 3071, 8191] := by kernel_rfl
theorem btAt6_9 : btAll 6 9 = [0, 0, 3, 7, 15, 31, 63, 127, 127, 511, 1023, 2047, 4095, 8191, 16383, 32767, 32767, 131071, 262143, 524287, 1048575, 2097151, 4194303, 8388607, 8388607, 33554431, 67108863, 134217727, 268435455, 536870911, 1073741823, 2147483647, 4294967295, 8589934591, 17179869183, 17179869183, 51539607551, 137438953471, 274877906943, 549755813887, 17179869183, 17179869183, 3315714752511, 7713761263615, 16509854285823, 35184372088831, 70368744177663, 140737488355327] := by kernel_rfl
theorem btAt6_16 : btAll 6 16 = [0, 0, 0, 0, 0, 24, 56, 120, 0, 0, 768, 1792, 3840, 8184, 16380, 32766, 65535] := by kernel_rfl
theorem btAt6_18 : btAll 6 18 = [0, 0, 0, 0, 12, 28, 60, 126, 0, 0, 768, 1792, 3840, 8191, 16383, 32767, 32767, 0, 196607, 524287] := by kernel_rfl
theorem btAt8_8 : btAll 8 8 = [0, 0, 0, 0, 12, 28, 63, 127, 255, 255, 0, 1535, 4095] := by kernel_rfl
theorem btAt8_14 : btAll 8 14 = [0, 0, 2, 7, 15, 31, 63, 127, 127, 383, 127, 1919, 3967, 8191, 16383, 32767, 65535, 131071, 262143, 524287, 1048575, 1048575, 4194303, 8388607, 16777215] := by kernel_rfl
theorem btAt9_31 : btAll 9 31 = [0, 1, 3, 7, 15, 31, 63, 15, 143, 511, 1023, 2047, 4095, 8191, 16383, 32767, 65535, 131071, 262143, 524287, 1048575] := by kernel_rfl
theorem btAt10_8 : btAll 10 8 = [0, 0, 0, 0, 12, 28, 63, 127, 255, 255, 511] := by kernel_rfl
theorem btAt10_16 : btAll 10 16 = [0, 0, 2, 6, 15, 31, 63, 63, 191, 63, 959, 1983, 4095, 8191] := by kernel_rfl
theorem btAt10_24 : btAll 10 24 = [0, 0, 0, 0, 12, 28, 63, 127, 255, 255, 511] := by kernel_rfl
theorem btAt10_25 : btAll 10 25 = [0, 0, 0, 4, 12, 30, 63, 127, 255, 255, 1023, 2047, 4095, 8191, 8191, 32767, 65535, 131071, 262143, 262143, 1048575, 262143, 2359295, 262143, 8650751, 33554431, 67108863, 134217727, 268435455, 536870911, 536870911, 2147483647, 4294967295, 8589934591, 17179869183, 34359738367, 68719476735] := by kernel_rfl
theorem btAt14_11 : btAll 14 11 = [0, 0, 2, 6, 14, 0, 0, 0, 128, 384, 896, 2016, 4064, 8190, 16383, 32767, 65535] := by kernel_rfl
theorem btAt15_8 : btAll 15 8 = [0, 1, 3, 7, 0, 0, 63, 127, 255] := by kernel_rfl
theorem btAt18_15 : btAll 18 15 = [0, 0, 0, 6, 14, 30, 30, 126, 254, 31, 1023] := by kernel_rfl
theorem btAt20_1 : btAll 20 1 = [0, 1, 3, 7, 0, 16, 48, 127, 255, 0, 512, 2047, 4095, 0, 8192, 24576, 65535, 131071, 262143, 524287] := by kernel_rfl
theorem btAt24_9 : btAll 24 9 = [0, 1, 3, 7, 0, 0, 0, 0, 0, 256, 992, 2016, 4095] := by kernel_rfl
theorem btAt25_3 : btAll 25 3 = [0, 1, 3, 7, 0, 16, 63, 127] := by kernel_rfl
theorem btAt25_4 : btAll 25 4 = [0, 1, 3, 7, 0, 16, 63, 127, 255, 255, 0, 1535, 4095] := by kernel_rfl
theorem btAt25_11 : btAll 25 11 = [0, 1, 0, 4, 12, 28, 0, 64, 192, 448, 1020, 2047, 4095] := by kernel_rfl
theorem btAt25_15 : btAll 25 15 = [0, 1, 0, 4, 12, 28, 63, 127, 255, 511, 511, 0, 3071, 8191] := by kernel_rfl
theorem btAt25_16 : btAll 25 16 = [0, 1, 0, 4, 12, 28, 63, 127, 255, 255, 0, 1535, 4095] := by kernel_rfl
theorem btAt25_20 : btAll 25 20 = [0, 0, 0, 0, 8, 24, 56, 0, 128, 504, 125, 1149, 3197, 8191, 16383, 32767] := by kernel_rfl
theorem btAt25_21 : btAll 25 21 = [0, 1, 3, 7, 0, 16, 0, 127] := by kernel_rfl
theorem btAt25_22 : btAll 25 22 = [0, 1, 3, 7, 0, 16, 0, 127] := by kernel_rfl
theorem btAt26_4 : btAll 26 4 = [0, 1, 3, 7, 0, 16, 63, 0, 255] := by kernel_rfl
theorem btAt26_5 : btAll 26 5 = [0, 1, 3, 7, 0, 16, 63] := by kernel_rfl
theorem btAt26_6 : btAll 26 6 = [0, 1, 3, 7, 0, 16, 63, 127, 255, 511, 0, 1024, 4095, 8191, 16383, 32767] := by kernel_rfl
theorem btAt26_7 : btAll 26 7 = [0, 0, 2, 1, 15, 31] := by kernel_rfl
theorem btAt29_7 : btAll 29 7 = [0, 0, 2, 6, 15, 31, 63, 63, 191, 63, 959, 1983, 4095, 8191] := by kernel_rfl
theorem btAt29_11 : btAll 29 11 = [0, 0, 2, 6, 15, 31, 63, 127, 63, 511, 1023, 2047, 4095, 4095, 12287, 32767, 65535, 131071, 262143, 524287, 1048575, 2097151, 2097151, 6291455, 14680063, 31457279, 67108863, 134217727, 268435455, 536870911] := by kernel_rfl
theorem btAt34_3 : btAll 34 3 = [0, 1, 3, 7, 0, 0, 0, 0, 128, 384, 896, 2047, 4095] := by kernel_rfl
theorem btAt35_3 : btAll 35 3 = [0, 1, 0, 4, 12, 28, 63, 127] := by kernel_rfl
theorem btAt35_5 : btAll 35 5 = [0, 1, 3, 7, 0, 31, 63] := by kernel_rfl
theorem btAt36_14 : btAll 36 14 = [0, 1, 3, 7, 0, 0, 48, 0, 128, 384, 896, 1920, 3968, 8064, 0, 32640, 112, 131071, 262143, 524287] := by kernel_rfl
theorem btAt36_16 : btAll 36 16 = [0, 1, 3, 7, 0, 16, 48, 112, 255, 511, 1023, 2047] := by kernel_rfl
theorem btAt37_3 : btAll 37 3 = [0, 1, 3, 7, 15, 31, 63, 127, 0, 256, 768, 1792, 3840, 7936, 16128, 255, 65535, 131071] := by kernel_rfl
theorem btAt38_3 : btAll 38 3 = [0, 1, 0, 4, 12, 28, 63, 127] := by kernel_rfl
theorem btAt38_5 : btAll 38 5 = [0, 1, 3, 7, 0, 0, 32, 96, 224, 511, 1023, 1023, 4095, 8191] := by kernel_rfl
theorem btAt39_3 : btAll 39 3 = [0, 1, 3, 7, 15, 31, 63, 0, 128, 384, 896, 1983, 0, 4096, 12288, 28672, 65535, 131071, 262143] := by kernel_rfl
theorem btAt42_6 : btAll 42 6 = [0, 0, 3, 7, 0, 0, 48, 112, 255] := by kernel_rfl
theorem btAt45_1 : btAll 45 1 = [0, 1, 3, 7, 15, 31, 63, 127, 255, 511, 1023, 2047, 511, 4607, 12799, 32767, 65535, 131071] := by kernel_rfl
theorem btAt46_0 : btAll 46 0 = [0, 1, 3, 7, 15, 0, 32, 96, 224, 0, 992, 2016, 4064, 0, 16383] := by kernel_rfl
theorem btAt47_2 : btAll 47 2 = [0, 1, 3, 7, 0, 31, 63, 0, 128, 384, 896, 0, 3968, 8064, 16383, 32767] := by kernel_rfl
theorem btAt49_1 : btAll 49 1 = [0, 1, 3, 7, 0, 31, 63, 0, 128, 384, 896, 1920, 3968, 0, 8319, 32767] := by kernel_rfl
theorem btAt49_4 : btAll 49 4 = [0, 1, 3, 7, 15, 0, 32, 127] := by kernel_rfl
theorem btAt51_8 : btAll 51 8 = [0, 0, 3, 0, 15, 31, 63] := by kernel_rfl
theorem btAt53_3 : btAll 53 3 = [0, 1, 0, 4, 12, 28, 3, 127, 255] := by kernel_rfl
theorem btAt54_11 : btAll 54 11 = [0, 0, 0, 6, 14, 30, 0, 0, 192, 448, 960, 2046, 4095, 8191] := by kernel_rfl
theorem btAt57_6 : btAll 57 6 = [0, 0, 3, 7, 0, 0, 48, 112, 255] := by kernel_rfl
theorem btAt57_7 : btAll 57 7 = [0, 0, 3, 7, 0, 0, 48, 112, 255, 511] := by kernel_rfl
theorem btAt70_5 : btAll 70 5 = [0, 1, 0, 4, 12, 28, 0, 64, 252, 511, 1023] := by kernel_rfl
theorem btAt70_7 : btAll 70 7 = [0, 1, 3, 7, 15, 0, 32, 127, 255, 511, 1023, 2047] := by kernel_rfl
theorem btAt70_9 : btAll 70 9 = [0, 1, 3, 7, 0, 16, 48, 112, 240, 511] := by kernel_rfl
theorem btAt70_10 : btAll 70 10 = [0, 0, 2, 6, 0, 16, 48, 112, 240, 511] := by kernel_rfl
theorem btAt70_11 : btAll 70 11 = [0, 1, 3, 7, 0, 0, 32, 96, 224, 496, 0, 2047, 4095] := by kernel_rfl
theorem btAt76_6 : btAll 76 6 = [0, 0, 3, 7, 0, 0, 48, 112, 255] := by kernel_rfl
theorem btAt77_2 : btAll 77 2 = [0, 0, 0, 6, 3, 31] := by kernel_rfl
theorem btAt81_4 : btAll 81 4 = [0, 0, 2, 6, 14, 30, 63, 127, 255, 511, 1023, 2047, 255, 8191, 16383, 255, 33023, 98559, 229631, 255, 1016063, 2064639, 4194303, 8388607, 16777215] := by kernel_rfl
theorem btAt83_3 : btAll 83 3 = [0, 1, 0, 7, 15, 31, 0, 64, 255, 511] := by kernel_rfl
theorem btAt83_4 : btAll 83 4 = [0, 1, 3, 7, 15, 31, 63, 127, 63, 511, 1023, 2047, 63, 4159, 16383, 32767, 65535] := by kernel_rfl
theorem btAt83_6 : btAll 83 6 = [0, 1, 0, 7, 15, 0, 32, 127, 0, 256, 0, 1792, 4095, 8191, 16383] := by kernel_rfl
theorem btAt84_1 : btAll 84 1 = [0, 1, 0, 7, 15, 0, 32, 0, 128, 480, 1023, 2047, 4095] := by kernel_rfl
theorem btAt88_5 : btAll 88 5 = [0, 1, 3, 0, 8, 24, 63, 0, 128, 511, 0, 1024, 3072, 8191, 0, 0, 65535, 131071] := by kernel_rfl
theorem btAt88_8 : btAll 88 8 = [0, 0, 3, 0, 8, 24, 63, 127] := by kernel_rfl
theorem btAt90_2 : btAll 90 2 = [0, 1, 0, 4, 0, 16, 60, 127, 255, 511, 1023, 0, 2303, 8191, 16383] := by kernel_rfl
theorem btAt92_2 : btAll 92 2 = [0, 0, 3, 0, 0, 0, 48, 127, 255] := by kernel_rfl
theorem btAt94_2 : btAll 94 2 = [0, 1, 3, 0, 8, 24, 0, 120, 255, 0, 512, 2047, 0, 4096, 12288, 0, 61440, 131071, 0, 0, 1048575, 2097151] := by kernel_rfl
theorem btAt94_3 : btAll 94 3 = [0, 0, 3, 0, 8, 24, 0, 71, 255] := by kernel_rfl
theorem btAt94_7 : btAll 94 7 = [0, 0, 3, 0, 8, 24, 7, 127] := by kernel_rfl
theorem btAt94_10 : btAll 94 10 = [0, 1, 3, 0, 15, 0, 32, 96, 0, 480, 1023, 0, 4095] := by kernel_rfl
theorem btAt96_10 : btAll 96 10 = [0, 0, 2, 0, 0, 16, 56, 120, 0, 256, 768, 2040, 4095, 8191] := by kernel_rfl
theorem btAt103_5 : btAll 103 5 = [0, 0, 2, 6, 14, 0, 0, 96, 254, 510, 1022, 2047, 4095] := by kernel_rfl
theorem btAt104_1 : btAll 104 1 = [0, 1, 3, 7, 0, 31, 0, 64, 192, 448, 960, 2047, 4095] := by kernel_rfl
theorem btAt108_3 : btAll 108 3 = [0, 0, 0, 4, 0, 16, 48, 112, 240, 253, 765, 1789, 4095, 8191, 16383] := by kernel_rfl
theorem btAt115_0 : btAll 115 0 = [0, 0, 0, 0, 0, 0, 48, 112, 0, 0, 768, 1792, 4083, 8179, 16383, 32767] := by kernel_rfl
theorem btAt116_3 : btAll 116 3 = [0, 1, 3, 7, 0, 16, 48, 127, 255, 511] := by kernel_rfl
theorem btAt121_8 : btAll 121 8 = [0, 0, 2, 1, 15] := by kernel_rfl
theorem btAt130_4 : btAll 130 4 = [0, 0, 0, 6, 15, 31] := by kernel_rfl
theorem btAt134_3 : btAll 134 3 = [0, 1, 3, 7, 0, 16, 48, 112, 255, 511, 1023, 2047] := by kernel_rfl
theorem btAt145_6 : btAll 145 6 = [0, 0, 3, 0, 0, 24, 7, 127] := by kernel_rfl
theorem btAt147_17 : btAll 147 17 = [0, 1, 3, 7, 7, 7, 39, 119, 247, 7, 7, 1543, 3591, 8191, 16383, 32767, 65535] := by kernel_rfl
theorem btAt149_8 : btAll 149 8 = [0, 0, 2, 1, 15] := by kernel_rfl
theorem btAt151_4 : btAll 151 4 = [0, 0, 3, 7, 15, 15, 15, 111, 239, 15, 15, 1039, 3599, 7695, 16383, 32767, 65535] := by kernel_rfl
theorem btAt151_6 : btAll 151 6 = [0, 0, 0, 0, 8, 0, 0, 64, 224, 480, 0, 0, 3072, 7168, 16355, 32739, 65535, 131071] := by kernel_rfl
theorem btAt152_10 : btAll 152 10 = [0, 0, 0, 0, 0, 24, 0, 0, 0, 384, 960, 1984, 0, 0, 12288, 28672, 65475, 131011, 262143, 524287] := by kernel_rfl
theorem btAt153_10 : btAll 153 10 = [0, 0, 0, 0, 0, 24, 0, 0, 0, 384, 960, 1984, 0, 0, 12288, 28672, 65475, 131011, 262143, 524287] := by kernel_rfl
theorem btAt155_3 : btAll 155 3 = [0, 0, 0, 0, 0, 0, 48, 112, 0, 0, 768, 1792, 4083, 8179, 16383, 32767] := by kernel_rfl
theorem btAt156_5 : btAll 156 5 = [0, 0, 3, 7, 15, 15, 15, 111, 239, 15, 15, 1039, 3599, 7695, 16383, 32767, 65535, 131071] := by kernel_rfl
theorem btAt156_11 : btAll 156 11 = [0, 0, 0, 0, 8, 0, 0, 64, 224, 480, 0, 0, 3072, 7168, 16355, 32739, 65535, 131071] := by kernel_rfl
theorem btAt156_16 : btAll 156 16 = [0, 0, 0, 6, 14, 0, 0, 64, 224, 480, 1023, 2047, 4095] := by kernel_rfl
theorem btAt156_17 : btAll 156 17 = [0, 0, 0, 0, 8, 0, 0, 64, 224, 480, 0, 0, 3072, 7168, 16355, 32739, 65535, 131071] := by kernel_rfl
theorem btAt156_22 : btAll 156 22 = [0, 0, 0, 6, 14, 0, 0, 64, 224, 480, 1023, 2047, 4095] := by kernel_rfl
theorem btAt156_23 : btAll 156 23 = [0, 0, 0, 0, 8, 0, 0, 64, 224, 480, 0, 0, 3072, 7168, 16355, 32739, 65535, 131071] := by kernel_rfl
theorem btAt157_1 : btAll 157 1 = [0, 0, 0, 0, 0, 0, 48, 112, 0, 0, 768, 1792, 4083, 8179, 16383, 32767] := by kernel_rfl
theorem btAt157_3 : btAll 157 3 = [0, 0, 3, 7, 15, 15, 15, 111, 239, 15, 15, 1551, 3599, 8191, 16383, 32767, 65535] := by kernel_rfl
theorem btAt157_5 : btAll 157 5 = [0, 0, 3, 7, 15, 15, 15, 111, 239, 15, 15, 1551, 3599, 8191, 16383, 32767] := by kernel_rfl
theorem btAt157_8 : btAll 157 8 = [0, 0, 0, 0, 0, 0, 48, 112, 0, 0, 768, 1792, 4083, 8179, 16383, 32767] := by kernel_rfl
theorem btAt158_1 : btAll 158 1 = [0, 0, 0, 0, 0, 0, 48, 112, 0, 0, 768, 1792, 4083, 8179, 16383, 32767] := by kernel_rfl
theorem btAt158_3 : btAll 158 3 = [0, 0, 3, 7, 15, 15, 15, 111, 239, 15, 15, 1551, 3599, 8191, 16383, 32767] := by kernel_rfl
theorem btAt158_5 : btAll 158 5 = [0, 0, 3, 7, 15, 15, 15, 111, 239, 15, 15, 1551, 3599, 8191, 16383, 32767, 65535] := by kernel_rfl
theorem btAt158_8 : btAll 158 8 = [0, 0, 0, 0, 0, 0, 48, 112, 0, 0, 768, 1792, 4083, 8179, 16383, 32767] := by kernel_rfl
theorem btAt158_10 : btAll 158 10 = [0, 0, 0, 0, 0, 0, 48, 112, 0, 0, 768, 1792, 4083, 8179, 16383, 32767] := by kernel_rfl
theorem btAt158_13 : btAll 158 13 = [0, 0, 3, 7, 15, 15, 15, 111, 239, 15, 15, 1551, 3599, 8191, 16383, 32767] := by kernel_rfl
theorem btAt158_15 : btAll 158 15 = [0, 0, 3, 7, 15, 15, 15, 111, 239, 15, 15, 1551, 3599, 8191, 16383, 32767, 65535] := by kernel_rfl
theorem btAt158_18 : btAll 158 18 = [0, 0, 0, 0, 0, 0, 48, 112, 0, 0, 768, 1792, 4083, 8179, 16383, 32767] := by kernel_rfl
theorem btAt158_21 : btAll 158 21 = [0, 0, 0, 0, 0, 0, 48, 112, 0, 0, 768, 1792, 4083, 8179, 16383, 32767] := by kernel_rfl
theorem btAt161_3 : btAll 161 3 = [0, 1, 0, 7, 15, 31, 31, 31, 31, 415, 991, 2015, 31, 31, 31, 24607, 57375, 127007, 258079, 524287, 1048575, 2097151] := by kernel_rfl
theorem btAt161_5 : btAll 161 5 = [0, 0, 0, 0, 12, 30, 62, 0, 0, 0, 768, 1920, 3968, 8191, 16383, 32767] := by kernel_rfl
theorem btAt161_6 : btAll 161 6 = [0, 0, 0, 6, 0, 0, 0, 96, 0, 0, 0, 1536, 3840, 7936, 0, 0, 0, 98304, 245760, 507904, 1048335, 2096911, 4194303, 8388607] := by kernel_rfl
theorem btAt163_1 : btAll 163 1 = [0, 1, 3, 0, 8, 24, 56, 127, 255, 511] := by kernel_rfl
theorem btAt163_2 : btAll 163 2 = [0, 1, 3, 0, 8, 24, 56, 127, 255, 511] := by kernel_rfl
theorem btAt163_3 : btAll 163 3 = [0, 1, 3, 0, 8, 24, 56, 127, 255, 511] := by kernel_rfl
theorem btAt166_1 : btAll 166 1 = [0, 0, 0, 6, 14, 0, 0, 96, 224, 511, 1023] := by kernel_rfl

attribute [go_sem] btAt5_17 btAt5_19 btAt6_9 btAt6_16 btAt6_18 btAt8_8 btAt8_14 btAt9_31 btAt10_8 btAt10_16 btAt10_24 btAt10_25 btAt14_11 btAt15_8 btAt18_15 btAt20_1 btAt24_9 btAt25_3 btAt25_4 btAt25_11 btAt25_15 btAt25_16 btAt25_20 btAt25_21 btAt25_22 btAt26_4 btAt26_5 btAt26_6 btAt26_7 btAt29_7 btAt29_11 btAt34_3 btAt35_3 btAt35_5 btAt36_14 btAt36_16 btAt37_3 btAt38_3 btAt38_5 btAt39_3 btAt42_6 btAt45_1 btAt46_0 btAt47_2 btAt49_1 btAt49_4 btAt51_8 btAt53_3 btAt54_11 btAt57_6 btAt57_7 btAt70_5 btAt70_7 btAt70_9 btAt70_10 btAt70_11 btAt76_6 btAt77_2 btAt81_4 btAt83_3 btAt83_4 btAt83_6 btAt84_1 btAt88_5 btAt88_8 btAt90_2 btAt92_2 btAt94_2 btAt94_3 btAt94_7 btAt94_10 btAt96_10 btAt103_5 btAt104_1 btAt108_3 btAt115_0 btAt116_3 btAt121_8 btAt130_4 btAt134_3 btAt145_6 btAt147_17 btAt149_8 btAt151_4 btAt151_6 btAt152_10 btAt153_10 btAt155_3 btAt156_5 btAt156_11 btAt156_16 btAt156_17 btAt156_22 btAt156_23 btAt157_1 btAt157_3 btAt157_5 btAt157_8 btAt158_1 btAt158_3 btAt158_5 btAt158_8 btAt158_10 btAt158_13 btAt158_15 btAt158_18 btAt158_21 btAt161_3 btAt161_5 btAt161_6 btAt163_1 btAt163_2 btAt163_3 btAt166_1

end Go.Ab

set_option linter.unusedSimpArgs false
set_option linter.unusedVariables false
namespace Go.Ab
open Go.Proofs

attribute [go_sem] info0 info1 info2 info3 info4 info5 info6 info7 info8 info9 info10 info11 info12 info13 info14 info15 info16 info17 info18 info19 info20 info21 info22 info23 info24 info25 info26 info27 info28 info29 info30 info31 info32 info33 info34 info35 info36 info37 info38 info39 info40 info41 info42 info43 info44 info45 info46 info47 info48 info49 info50 info51 info52 info53 info54 info55 info56 info57 info58 info59
attribute [go_sem] Try.underlying0 Try.underlying1 Try.underlying2 Try.underlying3 Try.underlying4 Try.underlying5 Try.underlying6 Try.underlying7 Try.underlying8 Try.underlying9 Try.underlying10 Try.underlying11 Try.underlying12 Try.underlying13 Try.underlying14 Try.underlying15 Try.underlying16 Try.underlying17 Try.underlying18 Try.underlying19 Try.underlying20 Try.underlying21 Try.underlying22 Try.underlying23 Try.underlying24 Try.underlying25 Try.underlying26 Try.underlying27 Try.underlying28 Try.underlying29 Try.underlying30 Try.underlying31 Try.underlying32 Try.underlying33 Try.underlying34 Try.underlying35 Try.underlying36 Try.underlying37 Try.underlying38 Try.underlying39 Try.underlying40 Try.underlying41 Try.underlying42 Try.underlying43 Try.underlying44 Try.underlying45 Try.underlying46 Try.underlying47 Try.underlying48 Try.underlying49 Try.underlying50 Try.underlying51 Try.underlying52 Try.underlying53 Try.underlying54 Try.underlying55 Try.underlying56 Try.underlying57 Try.underlying58 Try.underlying59
attribute [go_sem] Try.t0 Try.t1 Try.t2 Try.t3 Try.t4 Try.t5 Try.t6 Try.t7 Try.t8 Try.t9 Try.t10 Try.t11 Try.t12 Try.t13 Try.t14 Try.t15 Try.t16 Try.t17 Try.t18 Try.t19 Try.t20 Try.t21 Try.t22 Try.t23 Try.t24 Try.t25 Try.t26 Try.t27 Try.t28 Try.t29 Try.t30 Try.t31 Try.t32 Try.t33 Try.t34 Try.t35 Try.t36 Try.t37 Try.t38 Try.t39 Try.t40 Try.t41 Try.t42 Try.t43 Try.t44 Try.t45 Try.t46 Try.t47 Try.t48 Try.t49 Try.t50 Try.t51 Try.t52 Try.t53 Try.t54 Try.t55 Try.t56 Try.t57 Try.t58 Try.t59
attribute [go_sem] info60 info61 info62 info63 info64 info65 info66 info67 info68 info69 info70 info71 info72 info73 info74 info75 info76 info77 info78 info79 info80 info81 info82 info83 info84 info85 info86 info87 info88 info89 info90 info91 info92 info93 info94 info95 info96 info97 info98 info99 info100 info101 info102 info103 info104 info105 info106 info107 info108 info109 info110 info111 info112 info113 info114 info115 info116 info117 info118 info119
attribute [go_sem] Try.underlying60 Try.underlying61 Try.underlying62 Try.underlying63 Try.underlying64 Try.underlying65 Try.underlying66 Try.underlying67 Try.underlying68 Try.underlying69 Try.underlying70 Try.underlying71 Try.underlying72 Try.underlying73 Try.underlying74 Try.underlying75 Try.underlying76 Try.underlying77 Try.underlying78 Try.underlying79 Try.underlying80 Try.underlying81 Try.underlying82 Try.underlying83 Try.underlying84 Try.underlying85 Try.underlying86 Try.underlying87 Try.underlying88 Try.underlying89 Try.underlying90 Try.underlying91 Try.underlying92 Try.underlying93 Try.underlying94 Try.underlying95 Try.underlying96 Try.underlying97 Try.underlying98 Try.underlying99 Try.underlying100 Try.underlying101 Try.underlying102 Try.underlying103 Try.underlying104 Try.underlying105 Try.underlying106 Try.underlying107 Try.underlying108 Try.underlying109 Try.underlying110 Try.underlying111 Try.underlying112 Try.underlying113 Try.underlying114 Try.underlying115 Try.underlying116 Try.underlying117 Try.underlying118 Try.underlying119
attribute [go_sem] Try.t60 Try.t61 Try.t62 Try.t63 Try.t64 Try.t65 Try.t66 Try.t67 Try.t68 Try.t69 Try.t70 Try.t71 Try.t72 Try.t73 Try.t74 Try.t75 Try.t76 Try.t77 Try.t78 Try.t79 Try.t80 Try.t81 Try.t82 Try.t83 Try.t84 Try.t85 Try.t86 Try.t87 Try.t88 Try.t89 Try.t90 Try.t91 Try.t92 Try.t93 Try.t94 Try.t95 Try.t96 Try.t97 Try.t98 Try.t99 Try.t100 Try.t101 Try.t102 Try.t103 Try.t104 Try.t105 Try.t106 Try.t107 Try.t108 Try.t109 Try.t110 Try.t111 Try.t112 Try.t113 Try.t114 Try.t115 Try.t116 Try.t117 Try.t118 Try.t119
attribute [go_sem] info120 info121 info122 info123 info124 info125 info126 info127 info128 info129 info130 info131 info132 info133 info134 info135 info136 info137 info138 info139 info140 info141 info142 info143 info144 info145 info146 info147 info148 info149 info150 info151 info152 info153 info154 info155 info156 info157 info158 info159 info160 info161 info162 info163 info164 info165 info166 info167 info168 info169 info170 info171 info172 info173 info174 info175 info176 info177 info178 info179
attribute [go_sem] Try.underlying120 Try.underlying121 Try.underlying122 Try.underlying123 Try.underlying124 Try.underlying125 Try.underlying126 Try.underlying127 Try.underlying128 Try.underlying129 Try.underlying130 Try.underlying131 Try.underlying132 Try.underlying133 Try.underlying134 Try.underlying135 Try.underlying136 Try.underlying137 Try.underlying138 Try.underlying139 Try.underlying140 Try.underlying141 Try.underlying142 Try.underlying143 Try.underlying144 Try.underlying145 Try.underlying146 Try.underlying147 Try.underlying148 Try.underlying149 Try.underlying150 Try.underlying151 Try.underlying152 Try.underlying153 Try.underlying154 Try.underlying155 Try.underlying156 Try.underlying157 Try.underlying158 Try.underlying159 Try.underlying160 Try.underlying161 Try.underlying162 Try.underlying163 Try.underlying164 Try.underlying165 Try.underlying166 Try.underlying167 Try.underlying168 Try.underlying169 Try.underlying170 Try.underlying171 Try.underlying172 Try.underlying173 Try.underlying174 Try.underlying175 Try.underlying176 Try.underlying177 Try.underlying178 Try.underlying179
attribute [go_sem] Try.t120 Try.t121 Try.t122 Try.t123 Try.t124 Try.t125 Try.t126 Try.t127 Try.t128 Try.t129 Try.t130 Try.t131 Try.t132 Try.t133 Try.t134 Try.t135 Try.t136 Try.t137 Try.t138 Try.t139 Try.t140 Try.t141 Try.t142 Try.t143 Try.t144 Try.t145 Try.t146 Try.t147 Try.t148 Try.t149 Try.t150 Try.t151 Try.t152 Try.t153 Try.t154 Try.t155 Try.t156 Try.t157 Try.t158 Try.t159 Try.t160 Try.t161 Try.t162 Try.t163 Try.t164 Try.t165 Try.t166 Try.t167 Try.t168 Try.t169 Try.t170 Try.t171 Try.t172 Try.t173 Try.t174 Try.t175 Try.t176 Try.t177 Try.t178 Try.t179
attribute [go_sem] info180 info181 info182 info183 info184 info185 info186 info187 info188 info189 info190 info191 info192 info193 info194 info195 info196 info197 info198 info199 info200 info201 info202 info203 info204 info205 info206 info207 info208 info209 info210 info211 info212 info213 info214 info215 info216 info217 info218 info219 info220 info221 info222 info223 info224 info225 info226 info227 info228 info229 info230 info231 info232 info233 info234 info235 info236 info237 info238 info239
attribute [go_sem] Try.underlying180 Try.underlying181 Try.underlying182 Try.underlying183 Try.underlying184 Try.underlying185 Try.underlying186 Try.underlying187 Try.underlying188 Try.underlying189 Try.underlying190 Try.underlying191 Try.underlying192 Try.underlying193 Try.underlying194 Try.underlying195 Try.underlying196 Try.underlying197 Try.underlying198 Try.underlying199 Try.underlying200 Try.underlying201 Try.underlying202 Try.underlying203 Try.underlying204 Try.underlying205 Try.underlying206 Try.underlying207 Try.underlying208 Try.underlying209 Try.underlying210 Try.underlying211 Try.underlying212 Try.underlying213 Try.underlying214 Try.underlying215 Try.underlying216 Try.underlying217 Try.underlying218 Try.underlying219 Try.underlying220 Try.underlying221 Try.underlying222 Try.underlying223 Try.underlying224 Try.underlying225 Try.underlying226 Try.underlying227 Try.underlying228 Try.underlying229 Try.underlying230 Try.underlying231 Try.underlying232 Try.underlying233 Try.underlying234 Try.underlying235 Try.underlying236 Try.underlying237 Try.underlying238 Try.underlying239
attribute [go_sem] Try.t180 Try.t181 Try.t182 Try.t183 Try.t184 Try.t185 Try.t186 Try.t187 Try.t188 Try.t189 Try.t190 Try.t191 Try.t192 Try.t193 Try.t194 Try.t195 Try.t196 Try.t197 Try.t198 Try.t199 Try.t200 Try.t201 Try.t202 Try.t203 Try.t204 Try.t205 Try.t206 Try.t207 Try.t208 Try.t209 Try.t210 Try.t211 Try.t212 Try.t213 Try.t214 Try.t215 Try.t216 Try.t217 Try.t218 Try.t219 Try.t220 Try.t221 Try.t222 Try.t223 Try.t224 Try.t225 Try.t226 Try.t227 Try.t228 Try.t229 Try.t230 Try.t231 Try.t232 Try.t233 Try.t234 Try.t235 Try.t236 Try.t237 Try.t238 Try.t239
attribute [go_sem] info240 info241 info242 info243 info244 info245 info246 info247 info248 info249 info250 info251 info252 info253 info254
attribute [go_sem] Try.underlying240 Try.underlying241 Try.underlying242 Try.underlying243 Try.underlying244 Try.underlying245 Try.underlying246 Try.underlying247 Try.underlying248 Try.underlying249 Try.underlying250 Try.underlying251 Try.underlying252 Try.underlying253 Try.underlying254
attribute [go_sem] Try.t240 Try.t241 Try.t242 Try.t243 Try.t244 Try.t245 Try.t246 Try.t247 Try.t248 Try.t249 Try.t250 Try.t251 Try.t252 Try.t253 Try.t254
attribute [go_sem] body2 body3 body4 body5 body6 body7 body8 body9 body10 body11 body12 body13 body14 body15 body16 body17 body18 body19 body20 body21 body22 body23 body24 body25 body26 body27 body28 body29 body30 body31 body32 body33 body34 body35 body36 body37 body38 body39 body40 body41 body42 body43 body44 body45 body46 body47 body48 body49 body50 body51 body52 body53 body54 body55 body56 body57 body58 body59 body60 body61 body62 body63 body64 body65 body66 body67 body68 body69 body70 body71 body72 body73 body74 body75 body76 body77 body78 body79 body80 body81
attribute [go_sem] body82 body83 body84 body85 body86 body87 body88 body89 body90 body91 body92 body93 body94 body95 body96 body97 body98 body99 body100 body101 body102 body103 body104 body105 body106 body107 body108 body110 body111 body112 body113 body114 body115 body116 body117 body118 body119 body120 body121 body122 body123 body124 body125 body126 body127 body128 body129 body130 body131 body132 body133 body134 body135 body136 body137 body138 body139 body140 body141 body144 body145 body146 body147 body148 body149 body150 body151 body152 body153 body154 body155 body156 body157 body158

end Go.Ab

set_option linter.unusedSimpArgs false
set_option linter.unusedVariables false
namespace Go.Ab
open Go.Proofs

attribute [go_sem] wp_skip wp_label wp_exit wp_goto wp_ret wp_seq wp_cond wp_block wp_ops wp_drawn wp_loop wp_scope wp_range wOps_nil wOps_cons wDrawn_nil wDrawn_cons condW_true condW_false condW_dec thenW_norm thenW_exit thenW_goto thenW_ret thenW_panic retW_ret retW_panic opsW_val opsW_new opsW_eff opsW_panic opsW_enter opsW_round opsW_defer retD_ret drawnW_val drawnW_new drawnW_eff drawnW_enter loudOne_quiet loudOne_pure callO_some callO_none dynL pairOk preW_mk blockW_mk preK_eq scopeW_goto scopeW_norm scopeW_ret scopeW_exit scopeW_panic List.isEmpty_toArray Array.isEmpty_empty endW_mk endK_some endD_ret endD_norm endD_panic leaveK_ret leaveK_done recoverA List.mem_cons List.mem_append List.not_mem_nil false_implies implies_true forall_const List.singleton_append List.mem_singleton false_or or_false forall_eq forall_eq_or_imp
section near
variable {p n k : Nat}
theorem lt_ne (h : p < n) : (n = p) = False := eq_false (by omega)
theorem lt_ne' (h : p < n) : (p = n) = False := eq_false (by omega)
theorem lt_ne_add (h : p < n) : (n + k = p) = False := eq_false (by omega)
theorem lt_ne_add' (h : p < n) : (p = n + k) = False := eq_false (by omega)
theorem lt_le (h : p < n) : (n ≤ p) = False := eq_false (by omega)
theorem lt_le_add (h : p < n) : (n + k ≤ p) = False := eq_false (by omega)
theorem lt_lt_add (h : p < n) : (p < n + k) = True := eq_true (by omega)
theorem lt_le' (h : p < n) : (p ≤ n) = True := eq_true (by omega)
theorem lt_le_add' (h : p < n) : (p ≤ n + k) = True := eq_true (by omega)
theorem lt_beq (h : p < n) : (n == p) = false := by simp; omega
theorem lt_beq' (h : p < n) : (p == n) = false := by simp; omega
theorem lt_beq_add (h : p < n) : (n + k == p) = false := by simp; omega
theorem lt_beq_add' (h : p < n) : (p == n + k) = false := by simp; omega
theorem beq_ne (h : ¬ p = n) : (p == n) = false := by simp; omega
end near

attribute [go_sem] lt_ne lt_ne' lt_ne_add lt_ne_add' lt_le lt_le_add lt_lt_add lt_le' lt_le_add' lt_beq lt_beq' lt_beq_add lt_beq_add' beq_ne
theorem wrapI {n : Int} (h1 : -9223372036854775808 ≤ n) (h2 : n < 9223372036854775808) : IntKind.i64.wrap n = n := by rw [IntKind.wrap_i64]; omega
theorem wrapU {n : Int} (h1 : 0 ≤ n) (h2 : n < 18446744073709551616) : IntKind.u64.wrap n = n := by rw [IntKind.wrap_u64]; omega
theorem wrapIN {k : Nat} (h : k < 9223372036854775808) : IntKind.i64.wrap (k : Int) = k := wrapI (by omega) (by omega)
theorem wrapUN {k : Nat} (h : k < 18446744073709551616) : IntKind.u64.wrap (k : Int) = k := wrapU (by omega) (by omega)
theorem toNat_one : Int.toNat 1 = 1 := rfl
theorem toNat_zero : Int.toNat 0 = 0 := rfl
theorem sbA_none {len cap : Nat} : sbA len cap none none none = some (0, len, cap) := rfl
theorem sbA_lo {len cap : Nat} {k : IntKind} {n : Int} : sbA len cap (some (.int k n)) none none = if 0 ≤ n ∧ n ≤ len then some (n.toNat, len, cap) else none := by
  delta sbA
  simp only [bnd]
  by_cases h : 0 ≤ n ∧ n ≤ (len : Int) <;> simp [h]
theorem sbA_hi {len cap : Nat} {k : IntKind} {n : Int} : sbA len cap none (some (.int k n)) none = if 0 ≤ n ∧ n ≤ cap then some (0, n.toNat, cap) else none := by
  delta sbA
  simp only [bnd]
  by_cases h : 0 ≤ n ∧ n ≤ (cap : Int) <;> simp [h]
theorem sbA_both {len cap : Nat} {k k' : IntKind} {a n : Int} : sbA len cap (some (.int k a)) (some (.int k' n)) none = if 0 ≤ n ∧ n ≤ cap then (if 0 ≤ a ∧ a ≤ n.toNat then some (a.toNat, n.toNat, cap) else none) else none := by
  delta sbA
  simp only [bnd]
  by_cases h : 0 ≤ n ∧ n ≤ (cap : Int)
  · simp only [h, and_self, if_true]
    by_cases h2 : 0 ≤ a ∧ a ≤ (n.toNat : Int)
    · simp only [h2, and_self, if_true]
    · simp only [h2, if_false]
  · simp [h]

attribute [go_sem] wrapIN wrapUN wrapI wrapU toNat_one toNat_zero sbA_none sbA_lo sbA_hi sbA_both opSlice opLookup opMapUpdate opDelete keyOk opMakeMap isMapD
attribute [congr] endK_congr leaveX_congr thenW_congr retW_congr retD_congr callW_congr wp_congr wOps_congr opsW_congr wDrawn_congr drawnW_congr condW_congr callX_congr callO_congr loopX_congr scopeX_congr rangeX_congr

theorem enter {p : PureTab Try.prog} {f : FuncId} {fn : Func} {c : Code} {args : List Value} {σ : St} {K : AE → St → Log → Prop} (hf : Try.prog.funcs[f]? = some fn) (hb : fn.body = some c) (hs : statAll (btAll f) c = true)
    (h : wp (cP Try.prog) p (btAll f) false c (start args fn.ntmps) σ (endW (cP Try.prog) fn.results.toList K)) : callX Try.prog f args σ K :=
  callX.enter cP_ok mixed hf hb hs h

/-- One more turn of a loop of function f. -/
theorem turn (p : PureTab Try.prog) (f : FuncId) {rnd : Bool} {b : Code} {fr : Fr} {σ : St} {Q : RR → Prop} (hs : statAll (btAll f) b = true)
    (h : wp (cP Try.prog) p (btAll f) rnd b fr σ (thenW (loopX Try.prog rnd b) Q)) : loopX Try.prog rnd b fr σ Q := loopX.step cP_ok mixed hs h
theorem enscope (p : PureTab Try.prog) (f : FuncId) {rnd : Bool} {body c : Code} {fr : Fr} {σ : St} {Q : RR → Prop} (hs : statAll (btAll f) c = true)
    (h : wp (cP Try.prog) p (btAll f) rnd c fr σ (scopeW Try.prog rnd body Q)) : scopeX Try.prog rnd body c fr σ Q := scopeX.step cP_ok mixed hs h

/-- No table. -/
def q0 : PureTab Try.prog := ⟨fun _ _ => none, fun _ _ _ h => by cases h⟩

/-- A call that answers a plain value and leaves nothing that is known. -/
theorem pure_call {f : FuncId} {args : List Value} {σ : St} {v : Value} (h : callX Try.prog f args σ fun e σ' l => e = .ret v ∧ ∀ c ∈ l, σ.next ≤ c) (hv : plain v = true) : DCall Try.prog f args σ (.ret v) σ [] := by
  obtain ⟨e, σ', l, d, rfl, hl⟩ := h
  have h2 : DCall Try.prog f args σ (.ret v) σ' [] := ⟨⟨d.1.1, fun c hc _ => d.1.2 c hc fun hm => by have := hl c hm; omega⟩, d.2⟩
  exact DCall.forget h2 hv

end Go.Ab

set_option linter.unusedSimpArgs false
set_option linter.unusedVariables false
namespace Go.Ab
open Go.Proofs

/-- A turn of a loop: it goes on with less, or leaves. -/
def stepW (I : Nat → Fr → St → Prop) (E : AX → Fr → St → Prop) (B : Nat → Prop) (n : Nat) (r : RR) : Prop :=
  (∀ c ∈ r.lg, B c) ∧ match r.x with
    | .norm => ∃ m, m < n ∧ I m r.fr r.σ
    | x => E x r.fr r.σ
def endL (E : AX → Fr → St → Prop) (B : Nat → Prop) (r : RR) : Prop := (∀ c ∈ r.lg, B c) ∧ E r.x r.fr r.σ

section eqs
variable {I : Nat → Fr → St → Prop} {E : AX → Fr → St → Prop} {B : Nat → Prop} {n : Nat} {fr : Fr} {σ : St} {lg : Log}
theorem stepW_norm : stepW I E B n ⟨.norm, fr, σ, lg⟩ = ((∀ c ∈ lg, B c) ∧ ∃ m, m < n ∧ I m fr σ) := (rfl)
theorem stepW_exit {i : Nat} : stepW I E B n ⟨.exit i, fr, σ, lg⟩ = ((∀ c ∈ lg, B c) ∧ E (.exit i) fr σ) := (rfl)
theorem stepW_ret : stepW I E B n ⟨.ret, fr, σ, lg⟩ = ((∀ c ∈ lg, B c) ∧ E .ret fr σ) := (rfl)
end eqs

theorem loop_ind (p : PureTab Try.prog) (f : FuncId) {rnd : Bool} {b : Code} (hs : statAll (btAll f) b = true) (I : Nat → Fr → St → Prop) (E : AX → Fr → St → Prop) (B : Nat → Prop)
    (step : ∀ n fr σ, I n fr σ → wp (cP Try.prog) p (btAll f) rnd b fr σ (stepW I E B n)) : ∀ n fr σ, I n fr σ → loopX Try.prog rnd b fr σ (endL E B) := by
  intro n
  induction n using Nat.strongRecOn with
  | _ n ih =>
    intro fr σ hI
    obtain ⟨r, h1, h2, h3⟩ := wp_sound cP_ok mixed b fr σ _ hs (step n fr σ hI)
    cases hx : r.x with
    | norm =>
      rw [hx] at h3
      obtain ⟨m, hm, hI'⟩ := h3
      obtain ⟨r', h4, h5, h6⟩ := ih m hm _ _ hI'
      refine ⟨_, DL.next h1 hx h4, fun c hc => ?_, h6⟩
      rcases List.mem_append.1 hc with h | h
      · exact h2 c h
      · exact h5 c h
    | exit i => rw [hx] at h3; exact ⟨_, DL.out h1 (by rw [hx]; rfl), h2, by rw [hx]; exact h3⟩
    | goto i => rw [hx] at h3; exact ⟨_, DL.out h1 (by rw [hx]; rfl), h2, by rw [hx]; exact h3⟩
    | ret => rw [hx] at h3; exact ⟨_, DL.out h1 (by rw [hx]; rfl), h2, by rw [hx]; exact h3⟩
    | panic ch => rw [hx] at h3; exact ⟨_, DL.out h1 (by rw [hx]; rfl), h2, by rw [hx]; exact h3⟩

/-- A loop, and what comes behind. -/
theorem loop_then {rnd : Bool} {b : Code} {fr : Fr} {σ : St} {E : AX → Fr → St → Prop} {B : Nat → Prop} {Q : RR → Prop} (h : loopX Try.prog rnd b fr σ (endL E B))
    (k : ∀ x fr' σ' lg, Logged σ σ' lg → (∀ c ∈ lg, B c) → E x fr' σ' → Q ⟨x, fr', σ', lg⟩) : loopX Try.prog rnd b fr σ Q :=
  h.mono fun r hl ⟨h1, h2⟩ => k r.x r.fr r.σ r.lg hl h1 h2

theorem wp_abs {C : Cx} {p : PureTab Try.prog} {bt : Nat → List Nat} {rnd : Bool} {c : Code} {ts : List Value} {ds : List Deferred} {σ : St} {Q : RR → Prop} (F : List Value → Prop) (h : F ts) (k : ∀ ts', F ts' → wp C p bt rnd c ⟨ts', ds⟩ σ Q) : wp C p bt rnd c ⟨ts, ds⟩ σ Q := k ts h

attribute [go_sem] stepW_norm stepW_exit stepW_ret

end Go.Ab

set_option linter.unusedSimpArgs false
set_option linter.unusedVariables false
namespace Go.Ab
open Go.Proofs

def q8 : PureTab Try.prog := ⟨p8, p8_is⟩

/-- What is said of a call that answers v, and turns nothing of old. -/
def Ans (σ : St) (v : Value) (e : AE) (σ' : St) (l : Log) : Prop := e = .ret v ∧ (∀ c ∈ l, σ.next ≤ c) ∧ σ.next ≤ σ'.next ∧ ∀ c, c < σ.next → σ'.get c = σ.get c

theorem Ans.of {f : FuncId} {args : List Value} {σ : St} {v : Value} (h : callX Try.prog f args σ fun e _ l => e = .ret v ∧ ∀ c ∈ l, σ.next ≤ c) : callX Try.prog f args σ (Ans σ v) :=
  h.use fun _ _ _ hl ⟨a, b⟩ => ⟨a, b, hl.1, fun c hc => hl.2 c hc fun hm => by have := b c hm; omega⟩

theorem callX.ret {f : FuncId} {args : List Value} {σ : St} {v : Value} {R : St → Log → Prop} {K : AE → St → Log → Prop} (h : callX Try.prog f args σ fun e σ' l => e = .ret v ∧ R σ' l) (k : ∀ σ' l, Logged σ σ' l → R σ' l → K (.ret v) σ' l) : callX Try.prog f args σ K :=
  h.use fun _ σ' l hl ⟨a, b⟩ => a ▸ k σ' l hl b

theorem Ans.pure {f : FuncId} {args : List Value} {σ : St} {v : Value} (h : callX Try.prog f args σ (Ans σ v)) (hv : plain v = true) : DCall Try.prog f args σ (.ret v) σ [] :=
  pure_call (h.use fun _ _ _ _ ⟨a, b, _⟩ => ⟨a, b⟩) hv

theorem within_call (n a b : Int) (σ : St) : DCall Try.prog 60 [.int .i64 n, .int .i64 a, .int .i64 b] σ (.ret (.bool (decide (a ≤ n) && decide (n ≤ b)))) σ [] := by
  refine pure_call (enter (p := q8) Try.func60 rfl stat60 ?_) rfl
  by_cases h : a ≤ n
  · simp only [go_sem, Nat.reducePow, Nat.reduceDiv, Nat.reduceMod, Nat.reduceAdd, Nat.reduceSub, Nat.reduceMul, Nat.reduceLeDiff, Nat.reduceLT, Nat.reduceEqDiff, reduceCtorEq, reduceIte, reduceDIte, if_pos rfl, Int.reduceLT, Int.reduceLE, Int.reduceEq, Int.reduceNeg, Int.reduceAdd, Int.reduceSub, Int.reduceMul, Int.reduceToNat, opLen, Try.f60, Try.underlying2, info2, Try.t2, h]
  · simp only [go_sem, Nat.reducePow, Nat.reduceDiv, Nat.reduceMod, Nat.reduceAdd, Nat.reduceSub, Nat.reduceMul, Nat.reduceLeDiff, Nat.reduceLT, Nat.reduceEqDiff, reduceCtorEq, reduceIte, reduceDIte, if_pos rfl, Int.reduceLT, Int.reduceLE, Int.reduceEq, Int.reduceNeg, Int.reduceAdd, Int.reduceSub, Int.reduceMul, Int.reduceToNat, opLen, Try.f60, Try.underlying2, info2, Try.t2, h]

theorem whole_call' (n : Int) (σ : St) : DCall Try.prog 61 [.int .i64 n] σ (.ret (.agg ⟨[.int .i64 n, .int .i64 1]⟩)) σ [] := by
  refine pure_call (enter (p := q8) Try.func61 rfl stat61 ?_) rfl
  simp only [go_sem, Nat.reducePow, Nat.reduceDiv, Nat.reduceMod, Nat.reduceAdd, Nat.reduceSub, Nat.reduceMul, Nat.reduceLeDiff, Nat.reduceLT, Nat.reduceEqDiff, reduceCtorEq, reduceIte, reduceDIte, if_pos rfl, Int.reduceLT, Int.reduceLE, Int.reduceEq, Int.reduceNeg, Int.reduceAdd, Int.reduceSub, Int.reduceMul, Int.reduceToNat, opLen, Try.f61, Try.underlying2, info2, Try.t2, Try.underlying24, info24, Try.t24]

theorem told_call (n d : Int) (b : Bool) (σ : St) (h1 : 0 ≤ n) (h2 : n ≤ 9223372036854775807) (h3 : 0 ≤ d) (h4 : d ≤ 9223372036854775807) : DCall Try.prog 122 [.int .u64 n, .bool b, .int .u64 d] σ (.ret (.agg ⟨[.int .i64 (if b then -n else n), .int .i64 d]⟩)) σ [] := by
  have w1 : IntKind.i64.wrap n = n := by rw [IntKind.wrap_i64]; omega
  have w2 : IntKind.i64.wrap d = d := by rw [IntKind.wrap_i64]; omega
  have w3 : IntKind.i64.wrap (0 - n) = -n := by rw [IntKind.wrap_i64]; omega
  refine pure_call (enter (p := q8) Try.func122 rfl stat122 ?_) rfl
  simp only [go_sem, Nat.reducePow, Nat.reduceDiv, Nat.reduceMod, Nat.reduceAdd, Nat.reduceSub, Nat.reduceMul, Nat.reduceLeDiff, Nat.reduceLT, Nat.reduceEqDiff, reduceCtorEq, reduceIte, reduceDIte, if_pos rfl, Int.reduceLT, Int.reduceLE, Int.reduceEq, Int.reduceNeg, Int.reduceAdd, Int.reduceSub, Int.reduceMul, Int.reduceToNat, opLen, callW, q8, p8, p7, p6, p5, p4, p3, p2, p1, Try.f122, h2, h4, Try.underlying2, info2, Try.t2, Try.underlying24, info24, Try.t24, Try.underlying28, info28, Try.t28, Try.underlying115, info115, Try.t115, body91, body141]
  refine enter (p := q8) Try.func141 rfl stat141 ?_
  cases b
  · simp only [go_sem, Nat.reducePow, Nat.reduceDiv, Nat.reduceMod, Nat.reduceAdd, Nat.reduceSub, Nat.reduceMul, Nat.reduceLeDiff, Nat.reduceLT, Nat.reduceEqDiff, reduceCtorEq, reduceIte, reduceDIte, if_pos rfl, Int.reduceLT, Int.reduceLE, Int.reduceEq, Int.reduceNeg, Int.reduceAdd, Int.reduceSub, Int.reduceMul, Int.reduceToNat, opLen, callW, q8, p8, p7, p6, p5, p4, p3, p2, p1, Try.f141, h2, h4, w1, w2, w3, Try.underlying2, info2, Try.t2, Try.underlying4, info4, Try.t4, Try.underlying24, info24, Try.t24, Try.underlying28, info28, Try.t28, Try.underlying115, info115, Try.t115, body91, body141]
  · simp only [go_sem, Nat.reducePow, Nat.reduceDiv, Nat.reduceMod, Nat.reduceAdd, Nat.reduceSub, Nat.reduceMul, Nat.reduceLeDiff, Nat.reduceLT, Nat.reduceEqDiff, reduceCtorEq, reduceIte, reduceDIte, if_pos rfl, Int.reduceLT, Int.reduceLE, Int.reduceEq, Int.reduceNeg, Int.reduceAdd, Int.reduceSub, Int.reduceMul, Int.reduceToNat, opLen, callW, q8, p8, p7, p6, p5, p4, p3, p2, p1, Try.f141, h2, h4, w1, w2, w3, Try.underlying2, info2, Try.t2, Try.underlying4, info4, Try.t4, Try.underlying24, info24, Try.t24, Try.underlying28, info28, Try.t28, Try.underlying115, info115, Try.t115, body91, body141]

theorem gcd_div {n d : Int} (hn : 0 ≤ n) (hd : 0 < d) : 0 < (Int.gcd n d : Int) ∧ 0 ≤ n / (Int.gcd n d : Int) ∧ n / (Int.gcd n d : Int) ≤ n ∧ 0 ≤ d / (Int.gcd n d : Int) ∧ d / (Int.gcd n d : Int) ≤ d := by
  have hg : 0 < (Int.gcd n d : Int) := by
    have := Int.gcd_pos_of_ne_zero_right n (show d ≠ 0 by omega)
    omega
  refine ⟨hg, Int.ediv_nonneg hn (by omega), Int.ediv_le_self _ hn, Int.ediv_nonneg (by omega) (by omega), Int.ediv_le_self _ (by omega)⟩

theorem made_call (n d : Int) (b : Bool) (σ : St) (h1 : 0 ≤ n) (h2 : n ≤ 9223372036854775807) (h3 : 0 < d) (h4 : d ≤ 9223372036854775807) :
    DCall Try.prog 92 [.int .u64 n, .bool b, .int .u64 d] σ (.ret (.agg ⟨[.int .i64 (if b then -(n / (Int.gcd n d : Int)) else n / (Int.gcd n d : Int)), .int .i64 (d / (Int.gcd n d : Int))]⟩)) σ [] := by
  obtain ⟨g0, a1, a2, a3, a4⟩ := gcd_div h1 h3
  have o1 : okU n = true := by simp [okU]; omega
  have o2 : okU d = true := by simp [okU]; omega
  have gne : ¬ (Int.gcd n d : Int) = 0 := by omega
  have t1 : n.tdiv (Int.gcd n d : Int) = n / (Int.gcd n d : Int) := Int.tdiv_eq_ediv_of_nonneg h1
  have t2 : d.tdiv (Int.gcd n d : Int) = d / (Int.gcd n d : Int) := Int.tdiv_eq_ediv_of_nonneg (by omega)
  have w1 : IntKind.u64.wrap (n / (Int.gcd n d : Int)) = n / (Int.gcd n d : Int) := by rw [IntKind.wrap_u64]; omega
  have w2 : IntKind.u64.wrap (d / (Int.gcd n d : Int)) = d / (Int.gcd n d : Int) := by rw [IntKind.wrap_u64]; omega
  refine pure_call (enter (p := q8) Try.func92 rfl stat92 ?_) rfl
  simp only [go_sem, Nat.reducePow, Nat.reduceDiv, Nat.reduceMod, Nat.reduceAdd, Nat.reduceSub, Nat.reduceMul, Nat.reduceLeDiff, Nat.reduceLT, Nat.reduceEqDiff, reduceCtorEq, reduceIte, reduceDIte, if_pos rfl, Int.reduceLT, Int.reduceLE, Int.reduceEq, Int.reduceNeg, Int.reduceAdd, Int.reduceSub, Int.reduceMul, Int.reduceToNat, opLen, callW, q8, p8, p7, p6, p5, p4, p3, p2, p1, Try.f92, o1, o2, gne, t1, t2, w1, w2, Try.underlying2, info2, Try.t2, Try.underlying4, info4, Try.t4, Try.underlying24, info24, Try.t24, Try.underlying28, info28, Try.t28, Try.underlying115, info115, Try.t115, body77, body122]
  refine .of (told_call _ _ _ _ a1 (by omega) a3 (by omega)) ?_
  simp only [go_sem, Nat.reducePow, Nat.reduceDiv, Nat.reduceMod, Nat.reduceAdd, Nat.reduceSub, Nat.reduceMul, Nat.reduceLeDiff, Nat.reduceLT, Nat.reduceEqDiff, reduceCtorEq, reduceIte, reduceDIte, if_pos rfl, Int.reduceLT, Int.reduceLE, Int.reduceEq, Int.reduceNeg, Int.reduceAdd, Int.reduceSub, Int.reduceMul, Int.reduceToNat, opLen, Try.f92, Try.underlying2, info2, Try.t2, Try.underlying4, info4, Try.t4, Try.underlying24, info24, Try.t24, Try.underlying28, info28, Try.t28, Try.underlying115, info115, Try.t115]

/-- try, of what gives a fraction and does not give up. -/
theorem try_rat {g : FuncId} {ys : List Value} {n d : Int} {σ : St} (hg : (cP Try.prog).bodies g = true)
    (H : callX Try.prog g ys ((σ.new (.cells [.int .i64 0, .int .i64 0] false)).new (.cells [.int .i64 0] false)) (Ans ((σ.new (.cells [.int .i64 0, .int .i64 0] false)).new (.cells [.int .i64 0] false)) (.agg ⟨[.int .i64 n, .int .i64 d]⟩))) :
    DCall Try.prog 89 [.func (.func g) ⟨[]⟩ ⟨ys⟩] σ (.ret (.tuple ⟨[.agg ⟨[.int .i64 n, .int .i64 d]⟩, .int .i64 0]⟩)) σ [] := by
  refine pure_call (callX.enterD (p := q0) cP_ok mixed Try.func89 rfl stat89 ?_) rfl
  simp only [go_sem, Nat.reducePow, Nat.reduceDiv, Nat.reduceMod, Nat.reduceAdd, Nat.reduceSub, Nat.reduceMul, Nat.reduceLeDiff, Nat.reduceLT, Nat.reduceEqDiff, reduceCtorEq, reduceIte, reduceDIte, if_pos rfl, Int.reduceLT, Int.reduceLE, Int.reduceEq, Int.reduceNeg, Int.reduceAdd, Int.reduceSub, Int.reduceMul, Int.reduceToNat, opLen, callW, q0, Try.f89, hg, Try.underlying1, info1, Try.t1, Try.underlying3, info3, Try.t3, Try.underlying24, info24, Try.t24, Try.underlying28, info28, Try.t28, Try.underlying161, info161, Try.t161, body121]
  refine callX.ret H ?_
  intro σ' l hl ⟨h1, h2, h3⟩
  simp only [St.next_new] at h1 h2 h3
  have g0 := h3 σ.next (by omega)
  have g1 := h3 (σ.next + 1) (by omega)
  simp only [go_sem, Nat.reducePow, Nat.reduceDiv, Nat.reduceMod, Nat.reduceAdd, Nat.reduceSub, Nat.reduceMul, Nat.reduceLeDiff, Nat.reduceLT, Nat.reduceEqDiff, reduceCtorEq, reduceIte, reduceDIte, if_pos rfl, Int.reduceLT, Int.reduceLE, Int.reduceEq, Int.reduceNeg, Int.reduceAdd, Int.reduceSub, Int.reduceMul, Int.reduceToNat, opLen, Try.f89, Try.underlying1, info1, Try.t1, Try.underlying3, info3, Try.t3, Try.underlying24, info24, Try.t24, Try.underlying28, info28, Try.t28, Try.underlying161, info161, Try.t161] at g0 g1
  simp only [go_sem, Nat.reducePow, Nat.reduceDiv, Nat.reduceMod, Nat.reduceAdd, Nat.reduceSub, Nat.reduceMul, Nat.reduceLeDiff, Nat.reduceLT, Nat.reduceEqDiff, reduceCtorEq, reduceIte, reduceDIte, if_pos rfl, Int.reduceLT, Int.reduceLE, Int.reduceEq, Int.reduceNeg, Int.reduceAdd, Int.reduceSub, Int.reduceMul, Int.reduceToNat, opLen, Try.f89, g0, g1, Try.underlying1, info1, Try.t1, Try.underlying3, info3, Try.t3, Try.underlying24, info24, Try.t24, Try.underlying28, info28, Try.t28, Try.underlying161, info161, Try.t161]
  refine .cons has121 (.recover (p := q0) (bt := btAll 121) cP_ok mixed Try.func121 rfl rfl rfl (by kernel_rfl) ?_)
  simp only [go_sem, Nat.reducePow, Nat.reduceDiv, Nat.reduceMod, Nat.reduceAdd, Nat.reduceSub, Nat.reduceMul, Nat.reduceLeDiff, Nat.reduceLT, Nat.reduceEqDiff, reduceCtorEq, reduceIte, reduceDIte, if_pos rfl, Int.reduceLT, Int.reduceLE, Int.reduceEq, Int.reduceNeg, Int.reduceAdd, Int.reduceSub, Int.reduceMul, Int.reduceToNat, opLen, Try.f121, Try.underlying1, info1, Try.t1, Try.underlying3, info3, Try.t3, Try.underlying20, info20, Try.t20, Try.underlying24, info24, Try.t24, Try.underlying28, info28, Try.t28, Try.underlying161, info161, Try.t161]
  refine .ret cP_ok (by simp only [go_sem, Nat.reducePow, Nat.reduceDiv, Nat.reduceMod, Nat.reduceAdd, Nat.reduceSub, Nat.reduceMul, Nat.reduceLeDiff, Nat.reduceLT, Nat.reduceEqDiff, reduceCtorEq, reduceIte, reduceDIte, if_pos rfl, Int.reduceLT, Int.reduceLE, Int.reduceEq, Int.reduceNeg, Int.reduceAdd, Int.reduceSub, Int.reduceMul, Int.reduceToNat, opLen, Try.underlying1, info1, Try.t1, Try.underlying3, info3, Try.t3, Try.underlying20, info20, Try.t20, Try.underlying24, info24, Try.t24, Try.underlying28, info28, Try.t28, Try.underlying161, info161, Try.t161] <;> rfl) ?_
  simp only [go_sem, Nat.reducePow, Nat.reduceDiv, Nat.reduceMod, Nat.reduceAdd, Nat.reduceSub, Nat.reduceMul, Nat.reduceLeDiff, Nat.reduceLT, Nat.reduceEqDiff, reduceCtorEq, reduceIte, reduceDIte, if_pos rfl, Int.reduceLT, Int.reduceLE, Int.reduceEq, Int.reduceNeg, Int.reduceAdd, Int.reduceSub, Int.reduceMul, Int.reduceToNat, opLen]
  intro c hc
  rcases hc with (hc | hc) | hc
  · have := h1 c hc; omega
  · omega
  · omega

end Go.Ab

set_option linter.unusedSimpArgs false
set_option linter.unusedVariables false
namespace Go.Ab
open Go.Proofs

variable {P : Program}

def blockOf : Code → Code
  | .block _ b => b
  | c => c

def dropC : Nat → Code → Code
  | n + 1, .seq _ b => dropC n b
  | _, c => c

/-- The block of a range over a function. -/
def loopOb (st : LoopState) (j : Option Code) (ts : List Value) (ps : Array Tmp) (a b : Code) (d : Nat) : AObj := .loop { state := st, pending := j, fn := 0, tmps := ⟨ts⟩, params := ps, assign := a, body := b, defers := d }

def endRW (l : Nat) (ts : List Value) (ps : Array Tmp) (a b : Code) (d : Nat) (K : AE → St → Log → Prop) (lg : Log) (r : RR) : Prop :=
  r.σ.get l = some (loopOb .busy none ts ps a b d) ∧ match jumpOf r.x with
    | some j => K (.ret (.bool j.isNone)) (r.σ.set l (loopOb (readyIf j) j ts ps a b d)) (lg ++ ([l] ++ (r.lg ++ [l])))
    | none => False

def midRW (C : Cx) (p : PureTab P) (bt : Nat → List Nat) (l : Nat) (ts : List Value) (ps : Array Tmp) (a b : Code) (d : Nat) (K : AE → St → Log → Prop) (r : RR) : Prop :=
  match r.x with
  | .norm => r.σ.get l = some (loopOb .ready none ts ps a b d) ∧ wp C p bt true b r.fr (r.σ.set l (loopOb .busy none ts ps a b d)) (endRW l ts ps a b d K r.lg)
  | _ => False

theorem roundX.enter {C : Cx} {p : PureTab P} (hC : C.Ok P) (hm : P.follows .mixedOrders = true) {bt : Nat → List Nat} {l : Nat} {ts : List Value} {ps : Array Tmp} {a b : Code} {d : Nat} {args : List Value} {σ : St} {K : AE → St → Log → Prop}
    (hg : σ.get l = some (loopOb .ready none ts ps a b d)) (hn : args.length = ps.size) (ha : statAll bt a = true) (hb : statAll bt b = true)
    (h : wp C p bt true a ⟨roundTs ts ps.toList args, []⟩ σ (midRW C p bt l ts ps a b d K)) : roundX P l args σ K := by
  obtain ⟨r, h1, h2⟩ := wp_sound hC hm a _ _ _ ha h
  unfold midRW at h2
  split at h2
  · rename_i hx
    obtain ⟨h3, h4⟩ := h2
    obtain ⟨r', h5, h6, h7⟩ := wp_sound hC hm b _ _ _ hb h4
    split at h7
    · rename_i j hj
      obtain ⟨x, fr₁, σ₁, lg₁⟩ := r
      obtain ⟨x', fr₃, σ₃, lg₃⟩ := r'
      simp only at hx h3 h5 h6 h7 hj
      subst hx
      exact ⟨_, _, _, DRound.of_code hg hn h1 h3 rfl h5 h6 hj, h7⟩
    · exact h7.elim
  · exact h2.elim

theorem midRW.mk {C : Cx} {p : PureTab P} {bt : Nat → List Nat} {l : Nat} {ts : List Value} {ps : Array Tmp} {a b : Code} {d : Nat} {K : AE → St → Log → Prop} {fr : Fr} {σ : St} {lg : Log} (h1 : σ.get l = some (loopOb .ready none ts ps a b d))
    (h2 : wp C p bt true b fr (σ.set l (loopOb .busy none ts ps a b d)) (endRW l ts ps a b d K lg)) : midRW C p bt l ts ps a b d K ⟨.norm, fr, σ, lg⟩ := ⟨h1, h2⟩
theorem endRW_norm {l : Nat} {ts : List Value} {ps : Array Tmp} {a b : Code} {d : Nat} {K : AE → St → Log → Prop} {fr : Fr} {σ : St} {lg lg' : Log} :
    endRW l ts ps a b d K lg ⟨.norm, fr, σ, lg'⟩ = (σ.get l = some (loopOb .busy none ts ps a b d) ∧ K (.ret (.bool true)) (σ.set l (loopOb .ready none ts ps a b d)) (lg ++ ([l] ++ (lg' ++ [l])))) := (rfl)

def rangeK (fr : Fr) (m : Nat) (ps : Array Tmp) (a b : Code) (Q : RR → Prop) (e : AE) (σ' : St) (lg : Log) : Prop :=
  match e with
  | .ret _ => ∃ st j x, σ'.get (m + 1) = some (loopOb st j fr.ts ps a b m) ∧ isBusy st = false ∧ pendingX j = some x ∧ Q ⟨x, { fr with ds := markOf m :: fr.ds }, σ'.set (m + 1) (loopOb .exhausted j fr.ts ps a b m), lg ++ [m + 1]⟩
  | .panic c => Q ⟨.panic c, { fr with ds := markOf m :: fr.ds }, σ', lg⟩

theorem rangeX.of {C : Cx} (hC : C.Ok P) {g : Operand} {ps : Array Tmp} {a b : Code} {fr : Fr} {σ : St} {Q : RR → Prop} {f : FuncId} {xs ys : List Value} (hev : ev fr.ts g = some (.func (.func f) ⟨xs⟩ ⟨ys⟩)) (hb : C.bodies f = true)
    (h : callX P f (xs ++ [.func (.yield (σ.next + 1)) #[] #[]] ++ ys) ((σ.new (.deferred false)).new (loopOb .ready none fr.ts ps a b σ.next)) (rangeK fr σ.next ps a b Q)) : rangeX P false g ps a b fr σ Q := by
  obtain ⟨e, σ', lg, hd, hk⟩ := h
  have hone := Orc.one_call Orc.none f (xs ++ [.func (.yield (σ.next + 1)) #[] #[]] ++ ys) (rangeSt 0 ps a b fr.ts σ) (e, σ', lg)
  have hok : (Orc.none.one f (xs ++ [.func (.yield (σ.next + 1)) #[] #[]] ++ ys) (rangeSt 0 ps a b fr.ts σ) (e, σ', lg)).Ok P := Orc.one_ok Orc.none_ok hd
  cases e with
  | ret v =>
    obtain ⟨st, j, x, h1, h2, h3, h4⟩ := hk
    refine ⟨_, DC.rangeFunc hC hok (me := 0) (r := _) ?_, h4⟩
    unfold rangeR
    rw [hev]
    simp only [hb, hone, rangeEnd, h1, loopOb, rangeFin, h2, h3]
  | panic c =>
    refine ⟨_, DC.rangeFunc hC hok (me := 0) (r := _) ?_, hk⟩
    unfold rangeR
    rw [hev]
    simp only [hb, hone, rangeEnd]

theorem leaveX.collected {fn : Func} {ts : List Value} {ds : List Deferred} {r : Nat} {u : AM} {σ : St} {K : AE → St → Log → Prop} (hr : σ.get r = some (.deferred false)) (h : leaveX P fn ts ds u (σ.set r (.deferred true)) (preK [r] K)) : leaveX P fn ts (markOf r :: ds) u σ K := by
  obtain ⟨e, σ', l, h1, h2⟩ := h
  exact ⟨_, _, _, DLeave.collected hr h1, h2⟩

/-- A goal that is not looked into. -/
structure Hide (p : Prop) : Prop where
  out : p

theorem callX.hid {f : FuncId} {args : List Value} {σ : St} {v : Value} {R : St → Log → Prop} {K : AE → St → Log → Prop} (h : callX Try.prog f args σ fun e σ' l => e = .ret v ∧ R σ' l) (k : ∀ σ' l, Logged σ σ' l → R σ' l → Hide (K (.ret v) σ' l)) : callX Try.prog f args σ K :=
  callX.ret h fun σ' l h1 h2 => (k σ' l h1 h2).out

theorem roundX.hid {y : Nat} {args : List Value} {σ : St} {v : Value} {R : St → Log → Prop} {K : AE → St → Log → Prop} (h : roundX Try.prog y args σ fun e σ' l => e = .ret v ∧ R σ' l) (k : ∀ σ' l, Logged σ σ' l → R σ' l → Hide (K (.ret v) σ' l)) : roundX Try.prog y args σ K := by
  obtain ⟨e, σ', l, d, rfl, hr⟩ := h
  exact ⟨_, _, _, d, (k σ' l d.1 hr).out⟩
/-- The same, where the answer is not known ahead. -/
theorem callX.hidE {f : FuncId} {args : List Value} {σ : St} {R : AE → St → Log → Prop} {K : AE → St → Log → Prop} (h : callX Try.prog f args σ R) (k : ∀ e σ' l, Logged σ σ' l → R e σ' l → Hide (K e σ' l)) : callX Try.prog f args σ K :=
  callX.use h fun e σ' l h1 h2 => (k e σ' l h1 h2).out

attribute [go_sem] endRW_norm

end Go.Ab

set_option linter.unusedSimpArgs false
set_option linter.unusedVariables false
namespace Go.Ab
open Go.Proofs

def lkV : List MapEntry → Int → Option Value
  | [], _ => none
  | e :: es, k => match e.key with
    | .int .i64 k' => if k' = k then some e.val else lkV es k
    | _ => lkV es k

structure KI (es : List MapEntry) : Prop where
  ints : ∀ e ∈ es, ∃ k, e.key = .int .i64 k
  nodup : es.Pairwise fun a b => a.key ≠ b.key

theorem KI.nil : KI [] := ⟨fun _ h => by simp at h, List.Pairwise.nil⟩
theorem KI.tail {e : MapEntry} {es : List MapEntry} (h : KI (e :: es)) : KI es := ⟨fun x hx => h.ints x (by simp [hx]), (List.pairwise_cons.1 h.nodup).2⟩

theorem findV_none {T : TT} {kt : TypeId} {kk : IntKind} (hu : T.und kt = some (.int kk)) {k : Int} : ∀ {es : List MapEntry} {i : Nat}, KI es → lkV es k = none → findA T kt (.int .i64 k) es i = some none
  | [], _, _, _ => rfl
  | e :: es, i, h, hk => by
    obtain ⟨k', h1⟩ := h.ints e (by simp)
    simp only [lkV, h1] at hk
    split at hk
    · cases hk
    · rename_i hne
      have : (k == k') = false := by
        simp only [beq_eq_false_iff_ne]; rintro rfl; exact hne rfl
      simp only [findA, keyEq, h1, hu, if_true, this]
      exact findV_none hu h.tail hk

theorem findV_some {T : TT} {kt : TypeId} {kk : IntKind} (hu : T.und kt = some (.int kk)) {k : Int} {v : Value} : ∀ {es : List MapEntry} {i : Nat}, KI es → lkV es k = some v → ∃ j e, findA T kt (.int .i64 k) es i = some (some (i + j, e)) ∧ e.val = v ∧ es[j]? = some e ∧ e.key = .int .i64 k
  | [], _, _, h => by cases h
  | e :: es, i, h, hk => by
    obtain ⟨k', h1⟩ := h.ints e (by simp)
    simp only [lkV, h1] at hk
    split at hk
    · rename_i he
      subst he
      cases hk
      refine ⟨0, e, ?_, rfl, rfl, h1⟩
      simp [findA, keyEq, h1, hu]
    · rename_i hne
      have : (k == k') = false := by
        simp only [beq_eq_false_iff_ne]; rintro rfl; exact hne rfl
      obtain ⟨j, e', a1, a2, a3, a4⟩ := findV_some hu (i := i + 1) h.tail hk
      refine ⟨j + 1, e', ?_, a2, by simpa using a3, a4⟩
      simp only [findA, keyEq, h1, hu, if_true, this, a1]
      congr 3
      omega

theorem lkV_none_key {k : Int} : ∀ {es : List MapEntry}, KI es → lkV es k = none → ∀ e ∈ es, e.key ≠ .int .i64 k
  | [], _, _, _, h => by cases h
  | x :: es, h, hk, e, he => by
    obtain ⟨k', h1⟩ := h.ints x (by simp)
    simp only [lkV, h1] at hk
    split at hk
    · cases hk
    · rename_i hne
      rcases List.mem_cons.1 he with rfl | he
      · rw [h1]; intro e'; simp only [Value.int.injEq, true_and] at e'; exact hne e'
      · exact lkV_none_key h.tail hk e he

theorem lkV_of_key {k : Int} : ∀ {es : List MapEntry}, KI es → ∀ e ∈ es, e.key = .int .i64 k → lkV es k = some e.val
  | [], _, _, h, _ => by cases h
  | x :: es, h, e, he, hk => by
    obtain ⟨k', h1⟩ := h.ints x (by simp)
    simp only [lkV, h1]
    rcases List.mem_cons.1 he with rfl | he
    · rw [h1] at hk; cases hk; rw [if_pos rfl]
    · have hne : k' ≠ k := fun e' => (List.pairwise_cons.1 h.nodup).1 e he (by rw [h1, hk, e'])
      rw [if_neg hne]
      exact lkV_of_key h.tail e he hk

theorem pushV_KI {es : List MapEntry} {k : Int} {v : Value} {c : Nat} (h : KI es) (hk : lkV es k = none) : KI (pushE es ⟨.int .i64 k, v, c⟩) := by
  rw [pushE_eq]
  refine ⟨fun e he => ?_, ?_⟩
  · rcases List.mem_append.1 he with he | he
    · exact h.ints e he
    · simp only [List.mem_singleton] at he; subst he; exact ⟨k, rfl⟩
  · rw [List.pairwise_append]
    exact ⟨h.nodup, by simp, fun a ha b hb => by simp only [List.mem_singleton] at hb; subst hb; exact lkV_none_key h hk a ha⟩

theorem pushV_lk {k : Int} {v : Value} {c : Nat} : ∀ {es : List MapEntry}, KI es → lkV es k = none → ∀ k', lkV (pushE es ⟨.int .i64 k, v, c⟩) k' = if k' = k then some v else lkV es k'
  | [], _, _, k' => by
    simp only [pushE, lkV]
    by_cases e : k = k'
    · subst e; simp
    · rw [if_neg e, if_neg (Ne.symm e)]
  | x :: es, h, hk, k' => by
    obtain ⟨kx, h1⟩ := h.ints x (by simp)
    have hne : kx ≠ k := fun e => lkV_none_key h hk x (by simp) (by rw [h1, e])
    have hk' : lkV es k = none := by
      simp only [lkV, h1, if_neg hne] at hk; exact hk
    simp only [pushE, lkV, h1]
    rw [pushV_lk h.tail hk' k']
    by_cases e : kx = k'
    · subst e; rw [if_pos rfl, if_neg hne, if_pos rfl]
    · rw [if_neg e, if_neg e]

theorem pushV_length {es : List MapEntry} {x : MapEntry} : (pushE es x).length = es.length + 1 := by rw [pushE_eq]; simp

theorem modV_keys {k : Int} {v : Value} {l : List MapEntry} : ∀ {i : Nat} {z : MapEntry}, l[i]? = some z → z.key = .int .i64 k → ∀ y ∈ modE l i (.int .i64 k) v, ∃ z ∈ l, z.key = y.key := by
  induction l with
  | nil => intro i z h; simp at h
  | cons w l ih =>
    intro i z hz hzk y hy
    cases i with
    | zero =>
      simp only [List.getElem?_cons_zero, Option.some.injEq] at hz
      subst hz
      simp only [modE, List.mem_cons] at hy
      rcases hy with rfl | hy
      · exact ⟨w, by simp, hzk⟩
      · exact ⟨y, by simp [hy], rfl⟩
    | succ i =>
      simp only [List.getElem?_cons_succ] at hz
      simp only [modE, List.mem_cons] at hy
      rcases hy with rfl | hy
      · exact ⟨y, by simp, rfl⟩
      · obtain ⟨z', a1, a2⟩ := ih hz hzk y hy
        exact ⟨z', by simp [a1], a2⟩

theorem modV_KI {k : Int} {v : Value} : ∀ {es : List MapEntry} {j : Nat} {e : MapEntry}, KI es → es[j]? = some e → e.key = .int .i64 k →
    KI (modE es j (.int .i64 k) v) ∧ ∀ k', lkV (modE es j (.int .i64 k) v) k' = if k' = k then some v else lkV es k'
  | [], _, _, _, h, _ => by simp at h
  | x :: es, 0, e, h, he, hk => by
    simp only [List.getElem?_cons_zero, Option.some.injEq] at he
    subst he
    simp only [modE]
    refine ⟨⟨fun y hy => ?_, ?_⟩, fun k' => ?_⟩
    · rcases List.mem_cons.1 hy with rfl | hy
      · exact ⟨k, rfl⟩
      · exact h.ints y (by simp [hy])
    · have := List.pairwise_cons.1 h.nodup
      refine List.pairwise_cons.2 ⟨fun y hy => ?_, this.2⟩
      have := this.1 y hy
      rw [hk] at this; exact this
    · simp only [lkV, hk]
      by_cases e : k = k'
      · subst e; simp
      · rw [if_neg e, if_neg (Ne.symm e), if_neg e]
  | x :: es, j + 1, e, h, he, hk => by
    simp only [List.getElem?_cons_succ] at he
    obtain ⟨a, b⟩ := modV_KI h.tail he hk (v := v)
    obtain ⟨kx, h1⟩ := h.ints x (by simp)
    have hm : e ∈ es := List.mem_of_getElem? he
    have hne : kx ≠ k := fun e' => (List.pairwise_cons.1 h.nodup).1 e hm (by rw [h1, hk, e'])
    simp only [modE]
    refine ⟨⟨fun y hy => ?_, List.pairwise_cons.2 ⟨fun y hy hkey => ?_, a.nodup⟩⟩, fun k' => ?_⟩
    · rcases List.mem_cons.1 hy with rfl | hy
      · exact ⟨kx, h1⟩
      · exact a.ints y hy
    · obtain ⟨z, hz, hzk⟩ := modV_keys he hk y hy
      exact (List.pairwise_cons.1 h.nodup).1 z hz (by rw [hzk]; exact hkey)
    · simp only [lkV, h1, b k']
      by_cases e : kx = k'
      · subst e; rw [if_pos rfl, if_neg hne, if_pos rfl]
      · rw [if_neg e, if_neg e]

theorem modV_length {k v : Value} : ∀ {es : List MapEntry} {j : Nat}, (modE es j k v).length = es.length
  | [], _ => rfl
  | _ :: es, 0 => rfl
  | _ :: es, j + 1 => by simp [modE, modV_length (es := es) (j := j)]

theorem delE_sub : ∀ {l : List MapEntry} {i : Nat}, ∀ y ∈ delE l i, y ∈ l := by
  intro l
  induction l with
  | nil => intro i y hy; cases hy
  | cons w l ih =>
    intro i y hy
    cases i with
    | zero => simp only [delE] at hy; simp [hy]
    | succ i =>
      simp only [delE, List.mem_cons] at hy
      rcases hy with rfl | hy
      · simp
      · simp [ih y hy]

theorem delV_KI {k : Int} : ∀ {es : List MapEntry} {j : Nat} {e : MapEntry}, KI es → es[j]? = some e → e.key = .int .i64 k →
    KI (delE es j) ∧ ∀ k', lkV (delE es j) k' = if k' = k then none else lkV es k'
  | [], _, _, _, h, _ => by simp at h
  | x :: es, 0, e, h, he, hk => by
    simp only [List.getElem?_cons_zero, Option.some.injEq] at he
    subst he
    simp only [delE]
    refine ⟨h.tail, fun k' => ?_⟩
    simp only [lkV, hk]
    by_cases e : k = k'
    · subst e
      rw [if_pos rfl]
      cases hl : lkV es k with
      | none => rfl
      | some v =>
        obtain ⟨j, y, _, _, hy, hyk⟩ := findV_some (T := ⟨fun _ => some { (default : TypeInfo) with desc := .int .i64 }, fun _ => none, fun _ => none⟩) (kt := 0) (kk := .i64) rfl (i := 0) h.tail hl
        exact absurd (hk.trans hyk.symm) ((List.pairwise_cons.1 h.nodup).1 y (List.mem_of_getElem? hy))
    · rw [if_neg (Ne.symm e), if_neg e]
  | x :: es, j + 1, e, h, he, hk => by
    simp only [List.getElem?_cons_succ] at he
    obtain ⟨a, b⟩ := delV_KI h.tail he hk
    obtain ⟨kx, h1⟩ := h.ints x (by simp)
    have hm : e ∈ es := List.mem_of_getElem? he
    have hne : kx ≠ k := fun e' => (List.pairwise_cons.1 h.nodup).1 e hm (by rw [h1, hk, e'])
    simp only [delE]
    refine ⟨⟨fun y hy => ?_, List.pairwise_cons.2 ⟨fun y hy => (List.pairwise_cons.1 h.nodup).1 y (delE_sub y hy), a.nodup⟩⟩, fun k' => ?_⟩
    · rcases List.mem_cons.1 hy with rfl | hy
      · exact ⟨kx, h1⟩
      · exact a.ints y hy
    · simp only [lkV, h1, b k']
      by_cases e : kx = k'
      · subst e; rw [if_pos rfl, if_neg hne, if_pos rfl]
      · rw [if_neg e, if_neg e]

theorem delV_length {es : List MapEntry} : ∀ {j : Nat} {e : MapEntry}, es[j]? = some e → (delE es j).length + 1 = es.length := by
  induction es with
  | nil => intro j e h; simp at h
  | cons x es ih =>
    intro j e h
    cases j with
    | zero => simp [delE]
    | succ j => simp only [List.getElem?_cons_succ] at h; simp [delE, ih h]

/-- A block that holds a map. -/
def MapAt (σ : St) (m : Nat) (f : Int → Option Value) (n : Nat) : Prop := ∃ es ck, σ.get m = some (.map es ck) ∧ KI es ∧ (∀ k, lkV es k = f k) ∧ es.length = n

theorem MapAt.keep {σ σ' : St} {m : Nat} {f : Int → Option Value} {n : Nat} (h : MapAt σ m f n) (hg : σ'.get m = σ.get m) : MapAt σ' m f n :=
  let ⟨es, ck, a, b⟩ := h
  ⟨es, ck, hg.trans a, b⟩

end Go.Ab
