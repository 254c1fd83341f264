/- The plain law of heaps: what Put, Set and out leave. The plain law of HeapTurns: items that were put by number, all of one key in the end, are taken by number. Fractions of whole numbers by one number, without a common divisor; their sums. ClockBound's law: a clock that is set forward by each packet. A heap with or without a list, and what its calls leave; lookups in frames that are not spelt out. heap: what is refused; Drop, Take, Least, Get, whatever the heap. Numbers of any length (the reference's), plainly: digits to the base 65536, the lowest first. The reference's numbers of any length, walked: slices of digits; trim, Of. The reference's numbers: a slice that grows by appending; Of. The reference's numbers: Of, the digits of a word. The reference's numbers: Of, Less, called. The reference's numbers: Less, called; Add. The reference's numbers: Mul. The reference's numbers: Mul, the inner loop. The reference's numbers: Mul, called. The reference's numbers: Add. The reference's numbers: Add, called; Sub. The reference's numbers: Div, plainly: bit by bit. The reference's numbers: Div, the loop. -/
import Derived.Test.YtlipmhhndhhgdaaJClockBoundSaid2
import Init
import Derived.Test.YtlipmhhndhhgdaaJClockBoundSaid1

set_option linter.unusedSimpArgs false
set_option linter.unusedVariables false
namespace Go.Ab

/-- No two places have one ID. -/
def Dist (L : List Item) : Prop := ∀ (i j : Nat) (x y : Item), L[i]? = some x → L[j]? = some y → x.id = y.id → i = j
theorem Idx.dist {L : List Item} {f : Int → Option Int} (h : Idx L f) : Dist L := fun _ _ _ _ hi hj e => h.inj hi hj e

theorem swapL_mem_iff {L : List Item} {i j : Nat} {x y z : Item} (hi : L[i]? = some x) (hj : L[j]? = some y) : z ∈ swapL L i j x y ↔ z ∈ L := by
  refine ⟨fun h => ?_, swapL_mem hi hj⟩
  obtain ⟨q, hq⟩ := List.getElem?_of_mem h
  rw [swapL_get hi hj] at hq
  split at hq
  · cases hq; exact List.mem_of_getElem? hi
  · split at hq
    · cases hq; exact List.mem_of_getElem? hj
    · exact List.mem_of_getElem? hq

theorem riseL_mem_iff {z : Item} : ∀ (k : Nat) (L : List Item) (n : Nat), z ∈ riseL k L n ↔ z ∈ L
  | 0, _, _ => Iff.rfl
  | k + 1, L, n => by
    simp only [riseL]
    split
    · exact Iff.rfl
    · split
      · rename_i h1 h2
        split
        · exact Iff.rfl
        · exact (riseL_mem_iff k _ _).trans (swapL_mem_iff h1 h2)
      · exact Iff.rfl

theorem sinkL_mem_iff {z : Item} : ∀ (k : Nat) (L : List Item) (n : Nat), z ∈ sinkL k L n ↔ z ∈ L
  | 0, _, _ => Iff.rfl
  | k + 1, L, n => by
    simp only [sinkL]
    split
    · exact Iff.rfl
    · split
      · rename_i h1 h2
        exact (sinkL_mem_iff k _ _).trans (swapL_mem_iff h1 h2)
      · exact Iff.rfl

theorem sinkL_length' : ∀ (k : Nat) (L : List Item) (n : Nat), (sinkL k L n).length = L.length
  | 0, _, _ => rfl
  | k + 1, L, n => by
    simp only [sinkL]
    split
    · rfl
    · split
      · rw [sinkL_length', swapL_length]
      · rfl

theorem mem_set_iff {L : List Item} (hd : Dist L) {n : Nat} {x y z : Item} (hx : L[n]? = some x) : z ∈ L.set n y ↔ z = y ∨ z ∈ L ∧ z.id ≠ x.id := by
  have hn : n < L.length := (List.getElem?_eq_some_iff.1 hx).1
  constructor
  · intro h
    obtain ⟨q, hq⟩ := List.getElem?_of_mem h
    by_cases e : q = n
    · subst e
      rw [List.getElem?_set_self hn] at hq; cases hq
      exact .inl rfl
    · rw [List.getElem?_set_ne (Ne.symm e)] at hq
      exact .inr ⟨List.mem_of_getElem? hq, fun h => e (hd q n z x hq hx h)⟩
  · rintro (rfl | ⟨h, hne⟩)
    · exact List.mem_of_getElem? (i := n) (List.getElem?_set_self hn)
    · obtain ⟨q, hq⟩ := List.getElem?_of_mem h
      have e : q ≠ n := fun e => by
        subst e; rw [hx] at hq; cases hq; exact hne rfl
      exact List.mem_of_getElem? (i := q) (by rw [List.getElem?_set_ne (Ne.symm e)]; exact hq)

theorem AllPos.set {L : List Item} (h : AllPos L) {n : Nat} {y : Item} (hy : y.pos) : AllPos (L.set n y) := fun z hz => by
  rcases List.mem_or_eq_of_mem_set hz with h1 | h1
  · exact h z h1
  · rw [h1]; exact hy

theorem set_heap {L : List Item} (h : Hp L) (hp : AllPos L) (hd : Dist L) {n n2 : Nat} {x y z : Item} (hx : L[n]? = some x) (hid : y.id = x.id) (hy : y.pos) (hz : (riseL (n + 1) (L.set n y) n)[n2]? = some z) (hzi : z.id = x.id) :
    Hp (sinkL (L.length + 1) (riseL (n + 1) (L.set n y) n) n2) := by
  have hn : n < L.length := (List.getElem?_eq_some_iff.1 hx).1
  have hp1 := hp.set (n := n) hy
  have hX : HpX (L.set n y) n := h.toX hp hn fun i v hi hv => by rw [List.getElem?_set_ne (Ne.symm hi)] at hv; exact hv
  have hl : (riseL (n + 1) (L.set n y) n).length = L.length := by rw [riseL_length, List.length_set]
  have hp2 := riseL_pos (n + 1) _ n hp1
  rcases fix hX hp1 (by rw [List.length_set]; exact hn) (Nat.lt_succ_self n) with ⟨e, hS⟩ | hH
  · rw [e] at hz ⊢
    have e2 : n2 = n := by
      by_cases e3 : n2 = n
      · exact e3
      · rw [List.getElem?_set_ne (Ne.symm e3)] at hz
        exact hd _ _ _ _ hz hx hzi
    subst e2
    exact sink_heap _ _ _ (by rw [List.length_set]; omega) hp1 hS
  · exact sink_heap _ _ _ (by omega) hp2 (hH.toS hp2 (List.getElem?_eq_some_iff.1 hz).1)

theorem put_heap {L : List Item} (h : Hp L) (hp : AllPos L) {y : Item} (hy : y.pos) : Hp (riseL (L.length + 1) (L ++ [y]) L.length) := by
  refine rise_heap _ _ _ (by omega) (by simp) (fun z hz => ?_) ⟨fun i hi hne u v hu hv => ?_, fun _ i hi he u v hu hv => ?_⟩
  · rcases List.mem_append.1 hz with h1 | h1
    · exact hp z h1
    · simp only [List.mem_singleton] at h1
      rw [h1]; exact hy
  · have hl := (List.getElem?_eq_some_iff.1 hv).1
    simp only [List.length_append, List.length_singleton] at hl
    rw [List.getElem?_append_left (by omega)] at hu hv
    exact h i hi u v hu hv
  · have hl := (List.getElem?_eq_some_iff.1 hv).1
    simp only [List.length_append, List.length_singleton] at hl
    omega

theorem Hp.single {y : Item} : Hp [y] := fun i hi u v _ hv => by
  have hl := (List.getElem?_eq_some_iff.1 hv).1
  simp only [List.length_singleton] at hl
  omega

theorem out_heap {L : List Item} (h : Hp L) (hp : AllPos L) {n : Nat} {x : Item} (hx : L[n]? = some x) : Hp (outL L n) := by
  have hn : n < L.length := (List.getElem?_eq_some_iff.1 hx).1
  obtain ⟨y, hy⟩ : ∃ y, L[L.length - 1]? = some y := ⟨_, List.getElem?_eq_getElem (by omega)⟩
  simp only [outL, hx, hy]
  have hM : ∀ i v, i ≠ n → ((swapL L n (L.length - 1) x y).take (L.length - 1))[i]? = some v → L[i]? = some v := fun i v hi hv => by
    have hl := (List.getElem?_eq_some_iff.1 hv).1
    rw [List.length_take, swapL_length] at hl
    rw [List.getElem?_take_of_lt (by omega), swapL_get hx hy, if_neg (by omega), if_neg hi] at hv
    exact hv
  have hp1 : AllPos ((swapL L n (L.length - 1) x y).take (L.length - 1)) := fun z hz => swapL_pos hp hx hy z (List.mem_of_mem_take hz)
  have hX := h.toX hp hn hM
  split
  · rename_i hlt
    have hl1 : ((swapL L n (L.length - 1) x y).take (L.length - 1)).length = L.length - 1 := by rw [List.length_take, swapL_length]; omega
    have hp2 := riseL_pos (n + 1) _ n hp1
    rcases fix hX hp1 (by omega) (Nat.lt_succ_self n) with ⟨e, hS⟩ | hH
    · rw [e]
      exact sink_heap _ _ _ (by omega) hp1 hS
    · exact sink_heap _ _ _ (by rw [riseL_length]; omega) hp2 (hH.toS hp2 (by rw [riseL_length]; omega))
  · rename_i hlt
    intro i hi u v hu hv
    have hl := (List.getElem?_eq_some_iff.1 hv).1
    rw [List.length_take, swapL_length] at hl
    exact h i hi u v (hM _ _ (by omega) hu) (hM _ _ (by omega) hv)

theorem outL_length {L : List Item} {n : Nat} {x : Item} (hx : L[n]? = some x) : (outL L n).length = L.length - 1 := by
  have hn : n < L.length := (List.getElem?_eq_some_iff.1 hx).1
  obtain ⟨y, hy⟩ : ∃ y, L[L.length - 1]? = some y := ⟨_, List.getElem?_eq_getElem (by omega)⟩
  simp only [outL, hx, hy]
  split
  · rw [sinkL_length', riseL_length, List.length_take, swapL_length]; omega
  · rw [List.length_take, swapL_length]; omega

theorem outL_mem {L : List Item} (hd : Dist L) {n : Nat} {x z : Item} (hx : L[n]? = some x) : z ∈ outL L n ↔ z ∈ L ∧ z.id ≠ x.id := by
  have hn : n < L.length := (List.getElem?_eq_some_iff.1 hx).1
  obtain ⟨y, hy⟩ : ∃ y, L[L.length - 1]? = some y := ⟨_, List.getElem?_eq_getElem (by omega)⟩
  have key : z ∈ (swapL L n (L.length - 1) x y).take (L.length - 1) ↔ z ∈ L ∧ z.id ≠ x.id := by
    constructor
    · intro h
      obtain ⟨q, hq⟩ := List.getElem?_of_mem h
      have hl := (List.getElem?_eq_some_iff.1 hq).1
      rw [List.length_take, swapL_length] at hl
      rw [List.getElem?_take_of_lt (by omega), swapL_get hx hy, if_neg (by omega)] at hq
      split at hq
      · cases hq
        refine ⟨List.mem_of_getElem? hy, fun e => ?_⟩
        have := hd _ _ _ _ hy hx e
        omega
      · rename_i hne
        exact ⟨List.mem_of_getElem? hq, fun e => hne (hd _ _ _ _ hq hx e)⟩
    · rintro ⟨h, hne⟩
      obtain ⟨q, hq⟩ := List.getElem?_of_mem h
      have hql := (List.getElem?_eq_some_iff.1 hq).1
      have e : q ≠ n := fun e => by
        subst e; rw [hx] at hq; cases hq; exact hne rfl
      by_cases e2 : q = L.length - 1
      · subst e2
        rw [hy] at hq; cases hq
        refine List.mem_of_getElem? (i := n) ?_
        rw [List.getElem?_take_of_lt (by omega), swapL_get hx hy, if_neg (Ne.symm e), if_pos rfl]
      · refine List.mem_of_getElem? (i := q) ?_
        rw [List.getElem?_take_of_lt (by omega), swapL_get hx hy, if_neg e2, if_neg e]
        exact hq
  simp only [outL, hx, hy]
  split
  · rw [sinkL_mem_iff, riseL_mem_iff]; exact key
  · exact key

end Go.Ab

set_option linter.unusedSimpArgs false
set_option linter.unusedVariables false
namespace Go.Ab

/-- n items of the numbers 0 to n - 1; each was put as the one that its number says. -/
structure I1 (L : List Item) (n : Nat) : Prop where
  hp : Hp L
  len : L.length = n
  mem : ∀ x ∈ L, 0 ≤ x.id ∧ x.id < n ∧ x.turn = x.id + 1
  all : ∀ j : Nat, j < n → ∃ x ∈ L, x.id = j

theorem I1.nil : I1 [] 0 := ⟨fun i hi u v hu _ => by simp at hu, rfl, fun x hx => by simp at hx, fun j hj => by omega⟩

theorem I1.put {L : List Item} {n : Nat} (h : I1 L n) (hp : AllPos L) (kn kd : Int) (hk : 0 < kd) : I1 (riseL (L.length + 1) (L ++ [⟨n, kn, kd, n + 1⟩]) L.length) (n + 1) where
  hp := put_heap h.hp hp hk
  len := by rw [riseL_length, List.length_append, h.len]; rfl
  mem x hx := by
    rw [riseL_mem_iff, List.mem_append, List.mem_singleton] at hx
    rcases hx with hx | rfl
    · have := h.mem x hx
      omega
    · exact ⟨Int.natCast_nonneg n, by show (n : Int) < ((n + 1 : Nat) : Int); omega, rfl⟩
  all j hj := by
    by_cases e : j < n
    · obtain ⟨x, hx, hi⟩ := h.all j e
      exact ⟨x, by rw [riseL_mem_iff, List.mem_append]; exact .inl hx, hi⟩
    · refine ⟨⟨n, kn, kd, n + 1⟩, by rw [riseL_mem_iff, List.mem_append, List.mem_singleton]; exact .inr rfl, ?_⟩
      simp only; omega

theorem I1.first (kn kd : Int) : I1 [⟨0, kn, kd, 0 + 1⟩] 1 where
  hp := Hp.single
  len := rfl
  mem x hx := by
    rw [List.mem_singleton] at hx
    subst hx
    simp
  all j hj := ⟨_, List.mem_singleton.2 rfl, by simp only; omega⟩

/-- What stands behind Set of the item at a place. -/
def setL (L : List Item) (n n2 : Nat) (y : Item) : List Item := sinkL (L.length + 1) (riseL (n + 1) (L.set n y) n) n2

theorem setL_mem {L : List Item} (hd : Dist L) {n n2 : Nat} {x y z : Item} (hx : L[n]? = some x) : z ∈ setL L n n2 y ↔ z = y ∨ z ∈ L ∧ z.id ≠ x.id := by
  unfold setL
  rw [sinkL_mem_iff, riseL_mem_iff, mem_set_iff hd hx]

theorem setL_length {L : List Item} {n n2 : Nat} {y : Item} : (setL L n n2 y).length = L.length := by
  unfold setL
  rw [sinkL_length', riseL_length, List.length_set]

theorem I1.set {L : List Item} {m : Nat} (h : I1 L m) (hp : AllPos L) (hd : Dist L) {n n2 : Nat} {x z : Item} (hx : L[n]? = some x) (kn kd : Int) (hk : 0 < kd) (hz : (riseL (n + 1) (L.set n (x.key kn kd)) n)[n2]? = some z) (hzi : z.id = x.id) :
    I1 (setL L n n2 (x.key kn kd)) m where
  hp := set_heap h.hp hp hd hx rfl hk hz hzi
  len := setL_length.trans h.len
  mem y hy := by
    rw [setL_mem hd hx] at hy
    rcases hy with rfl | ⟨hy, _⟩
    · exact h.mem x (List.mem_of_getElem? hx)
    · exact h.mem y hy
  all j hj := by
    obtain ⟨y, hy, hi⟩ := h.all j hj
    by_cases e : y.id = x.id
    · exact ⟨x.key kn kd, (setL_mem hd hx).2 (.inl rfl), e ▸ hi⟩
    · exact ⟨y, (setL_mem hd hx).2 (.inr ⟨hy, e⟩), hi⟩

/-- The items of number 0 and of the numbers above i have this key. -/
def Keyed (L : List Item) (i : Int) (kn kd : Int) : Prop := ∀ x ∈ L, (x.id = 0 ∨ i < x.id) → x.n = kn ∧ x.d = kd

theorem Keyed.first {L : List Item} {m : Nat} (h : I1 L m) (hd : Dist L) {n n2 : Nat} {x : Item} (hx : L[n]? = some x) (h0 : x.id = 0) (kn kd : Int) : Keyed (setL L n n2 (x.key kn kd)) ((m : Int) - 1) kn kd := fun y hy hi => by
  rw [setL_mem hd hx] at hy
  rcases hy with rfl | ⟨hy, hne⟩
  · exact ⟨rfl, rfl⟩
  · have := h.mem y hy
    omega

theorem Keyed.next {L : List Item} {i : Int} {kn kd : Int} (h : Keyed L i kn kd) (hd : Dist L) {n n2 : Nat} {x : Item} (hx : L[n]? = some x) (h0 : x.id = i) : Keyed (setL L n n2 (x.key kn kd)) (i - 1) kn kd := fun y hy hi => by
  rw [setL_mem hd hx] at hy
  rcases hy with rfl | ⟨hy, hne⟩
  · exact ⟨rfl, rfl⟩
  · exact h y hy (by omega)

/-- What is left behind i Takes. -/
structure I3 (L : List Item) (m i : Nat) (kn kd : Int) : Prop where
  hp : Hp L
  len : L.length = m - i
  mem : ∀ x ∈ L, (i : Int) ≤ x.id ∧ x.id < m ∧ x.turn = x.id + 1 ∧ x.n = kn ∧ x.d = kd
  all : ∀ j : Nat, i ≤ j → j < m → ∃ x ∈ L, x.id = j

theorem I1.done {L : List Item} {m : Nat} {kn kd : Int} (h : I1 L m) (k : Keyed L 0 kn kd) : I3 L m 0 kn kd where
  hp := h.hp
  len := h.len
  mem x hx := by
    have a := h.mem x hx
    have b := k x hx (by omega)
    exact ⟨by simpa using a.1, a.2.1, a.2.2, b.1, b.2⟩
  all j _ hj := h.all j hj

theorem I3.root {L : List Item} {m i : Nat} {kn kd : Int} (h : I3 L m i kn kd) (hp : AllPos L) (hi : i < m) : ∃ x, L[0]? = some x ∧ x = ⟨i, kn, kd, i + 1⟩ := by
  obtain ⟨x, hx⟩ : ∃ x, L[0]? = some x := ⟨_, List.getElem?_eq_getElem (by have := h.len; omega)⟩
  refine ⟨x, hx, ?_⟩
  obtain ⟨y, hy, hyi⟩ := h.all i (Nat.le_refl _) hi
  obtain ⟨j, hj⟩ := List.getElem?_of_mem hy
  have hle := h.hp.root hp j x y hx hj
  have a := h.mem x (List.mem_of_getElem? hx)
  have b := h.mem y hy
  rw [cmpItem_le, a.2.2.2.1, a.2.2.2.2, b.2.2.2.1, b.2.2.2.2] at hle
  obtain ⟨xi, xn, xd, xt⟩ := x
  simp only at a hle
  obtain ⟨a1, a2, a3, rfl, rfl⟩ := a
  have : xi = i := by omega
  subst this
  rw [a3]

theorem I3.take {L : List Item} {m i : Nat} {kn kd : Int} (h : I3 L m i kn kd) (hp : AllPos L) (hd : Dist L) (hi : i < m) : I3 (outL L 0) m (i + 1) kn kd := by
  obtain ⟨x, hx, rfl⟩ := h.root hp hi
  refine ⟨out_heap h.hp hp hx, by rw [outL_length hx, h.len]; omega, fun y hy => ?_, fun j hj hjm => ?_⟩
  · rw [outL_mem hd hx] at hy
    have := h.mem y hy.1
    have h2 := hy.2
    simp only at h2
    exact ⟨by omega, this.2⟩
  · obtain ⟨y, hy, hyi⟩ := h.all j (by omega) hjm
    refine ⟨y, (outL_mem hd hx).2 ⟨hy, ?_⟩, hyi⟩
    simp only
    omega

end Go.Ab

set_option linter.unusedSimpArgs false
set_option linter.unusedVariables false
namespace Go.Ab

def fN (a r : Nat) : Nat := a / Nat.gcd a r
def fD (a r : Nat) : Nat := r / Nat.gcd a r

theorem gcd_pos_r {a r : Nat} (hr : 0 < r) : 0 < Nat.gcd a r := Nat.gcd_pos_of_pos_right a hr
theorem fN_mul (a r : Nat) : fN a r * Nat.gcd a r = a := Nat.div_mul_cancel (Nat.gcd_dvd_left a r)
theorem fD_mul (a r : Nat) : fD a r * Nat.gcd a r = r := Nat.div_mul_cancel (Nat.gcd_dvd_right a r)
theorem fD_pos {a r : Nat} (hr : 0 < r) : 0 < fD a r := by
  have := fD_mul a r
  rcases Nat.eq_zero_or_pos (fD a r) with h | h
  · rw [h] at this; omega
  · exact h
theorem fN_le (a r : Nat) : fN a r ≤ a := Nat.div_le_self _ _
theorem fD_le (a r : Nat) : fD a r ≤ r := Nat.div_le_self _ _
theorem f_coprime {a r : Nat} (hr : 0 < r) : Nat.gcd (fN a r) (fD a r) = 1 := by
  unfold fN fD
  rw [Nat.gcd_div (Nat.gcd_dvd_left a r) (Nat.gcd_dvd_right a r)]
  exact Nat.div_self (gcd_pos_r hr)
theorem f_cross (a r : Nat) : fN a r * r = a * fD a r := by
  have h1 := fN_mul a r
  have h2 := fD_mul a r
  calc fN a r * r = fN a r * (fD a r * Nat.gcd a r) := by rw [h2]
    _ = (fN a r * Nat.gcd a r) * fD a r := by rw [Nat.mul_comm (fD a r), ← Nat.mul_assoc]
    _ = a * fD a r := by rw [h1]
theorem fD_dvd (a r : Nat) : fD a r ∣ r := ⟨_, (fD_mul a r).symm⟩

theorem f_uniq {a r t b : Nat} (hr : 0 < r) (hb : 0 < b) (hc : Nat.gcd t b = 1) (h : t * r = a * b) : t = fN a r ∧ b = fD a r := by
  have hbr : b ∣ r := by
    have : b ∣ t * r := ⟨a, by rw [h, Nat.mul_comm]⟩
    exact (Nat.Coprime.dvd_of_dvd_mul_left (by rw [Nat.Coprime, Nat.gcd_comm]; exact hc) this)
  obtain ⟨k, rfl⟩ := hbr
  have hk : 0 < k := by
    rcases Nat.eq_zero_or_pos k with e | e
    · subst e; simp at hr
    · exact e
  have ha : a = t * k := by
    have : b * a = b * (t * k) := by rw [Nat.mul_comm b a, ← h, ← Nat.mul_assoc, Nat.mul_comm t b, Nat.mul_assoc]
    exact Nat.eq_of_mul_eq_mul_left hb this
  subst ha
  have hg : Nat.gcd (t * k) (b * k) = k := by rw [Nat.gcd_mul_right, hc, Nat.one_mul]
  unfold fN fD
  rw [hg]
  exact ⟨(Nat.mul_div_cancel _ hk).symm, (Nat.mul_div_cancel _ hk).symm⟩

theorem f_whole {n r : Nat} (hr : 0 < r) : fN (n * r) r = n ∧ fD (n * r) r = 1 := by
  have := f_uniq (a := n * r) (r := r) (t := n) (b := 1) hr (by omega) (Nat.gcd_one_right n) (by omega)
  exact ⟨this.1.symm, this.2.symm⟩

/-- The parts of a sum, as they are worked out. -/
def sG (a b r : Nat) : Nat := Nat.gcd (fD a r) (fD b r)
def sX (a b r : Nat) : Nat := fN a r * (fD b r / sG a b r)
def sY (a b r : Nat) : Nat := fN b r * (fD a r / sG a b r)
def sH (a b r : Nat) : Nat := Nat.gcd (sG a b r) (sX a b r + sY a b r)

theorem sG_pos {a b r : Nat} (hr : 0 < r) : 0 < sG a b r := Nat.gcd_pos_of_pos_left _ (fD_pos hr)
theorem sH_pos {a b r : Nat} (hr : 0 < r) : 0 < sH a b r := Nat.gcd_pos_of_pos_left _ (sG_pos hr)
theorem sG_l (a b r : Nat) : sG a b r ∣ fD a r := Nat.gcd_dvd_left _ _
theorem sG_r (a b r : Nat) : sG a b r ∣ fD b r := Nat.gcd_dvd_right _ _
theorem sH_G (a b r : Nat) : sH a b r ∣ sG a b r := Nat.gcd_dvd_left _ _
theorem sH_S (a b r : Nat) : sH a b r ∣ sX a b r + sY a b r := Nat.gcd_dvd_right _ _

theorem sX_le {a b r : Nat} (hr : 0 < r) : sX a b r ≤ a := by
  obtain ⟨x, hx⟩ := sG_l a b r
  obtain ⟨y, hy⟩ := sG_r a b r
  have hG := sG_pos (a := a) (b := b) hr
  have hxy : Nat.gcd x y = 1 := by
    have h := Nat.gcd_mul_left (sG a b r) x y
    rw [← hx, ← hy] at h
    have : sG a b r * 1 = sG a b r * Nat.gcd x y := by rw [Nat.mul_one, ← h]; rfl
    exact (Nat.eq_of_mul_eq_mul_left hG this).symm
  have hd : fD b r / sG a b r = y := by rw [hy]; exact Nat.mul_div_cancel_left _ hG
  have hk : y ∣ Nat.gcd a r := by
    have h1 : fD b r ∣ fD a r * Nat.gcd a r := by rw [fD_mul]; exact fD_dvd b r
    rw [hy, hx, Nat.mul_assoc] at h1
    have h2 : y ∣ x * Nat.gcd a r := Nat.dvd_of_mul_dvd_mul_left hG h1
    exact Nat.Coprime.dvd_of_dvd_mul_left (by rw [Nat.Coprime, Nat.gcd_comm]; exact hxy) h2
  unfold sX
  rw [hd]
  calc fN a r * y ≤ fN a r * Nat.gcd a r := Nat.mul_le_mul_left _ (Nat.le_of_dvd (gcd_pos_r hr) hk)
    _ = a := fN_mul a r

theorem sG_comm (a b r : Nat) : sG a b r = sG b a r := Nat.gcd_comm _ _
theorem sY_le {a b r : Nat} (hr : 0 < r) : sY a b r ≤ b := by
  have := sX_le (a := b) (b := a) hr
  unfold sX at this
  unfold sY
  rw [sG_comm]
  exact this

theorem gcd_mul_one {a b c : Nat} (h1 : Nat.gcd a b = 1) (h2 : Nat.gcd a c = 1) : Nat.gcd a (b * c) = 1 := Nat.Coprime.mul_right h1 h2
theorem gcd_one_of_dvd {a b c : Nat} (h : Nat.gcd a b = 1) (hc : c ∣ b) : Nat.gcd a c = 1 := Nat.Coprime.coprime_dvd_right hc h
theorem gcd_one_of_dvd_left {a b c : Nat} (h : Nat.gcd a b = 1) (hc : c ∣ a) : Nat.gcd c b = 1 := Nat.Coprime.coprime_dvd_left hc h

theorem sum_is {a b r : Nat} (hr : 0 < r) : (sX a b r + sY a b r) / sH a b r = fN (a + b) r ∧ fD a r / sG a b r * (fD b r / sH a b r) = fD (a + b) r := by
  have hG := sG_pos (a := a) (b := b) hr
  have hH := sH_pos (a := a) (b := b) hr
  obtain ⟨x, hx⟩ := sG_l a b r
  obtain ⟨y, hy⟩ := sG_r a b r
  obtain ⟨m, hm⟩ := sH_G a b r
  obtain ⟨t, ht⟩ := sH_S a b r
  have ex : fD a r / sG a b r = x := by rw [hx]; exact Nat.mul_div_cancel_left _ hG
  have ey : fD b r / sG a b r = y := by rw [hy]; exact Nat.mul_div_cancel_left _ hG
  have eb : fD b r / sH a b r = m * y := by
    rw [hy, hm, Nat.mul_assoc]; exact Nat.mul_div_cancel_left _ hH
  have et : (sX a b r + sY a b r) / sH a b r = t := by rw [ht]; exact Nat.mul_div_cancel_left _ hH
  rw [et, ex, eb]
  have hxy : Nat.gcd x y = 1 := by
    have h := Nat.gcd_mul_left (sG a b r) x y
    rw [← hx, ← hy] at h
    have : sG a b r * 1 = sG a b r * Nat.gcd x y := by rw [Nat.mul_one, ← h]; rfl
    exact (Nat.eq_of_mul_eq_mul_left hG this).symm
  have hX : sX a b r = fN a r * y := by unfold sX; rw [ey]
  have hY : sY a b r = fN b r * x := by unfold sY; rw [ex]
  have hS : fN a r * y + fN b r * x = sH a b r * t := by rw [← hX, ← hY]; exact ht
  have cax : Nat.gcd (fN a r) x = 1 := gcd_one_of_dvd (f_coprime hr) ⟨_, by rw [hx, Nat.mul_comm]⟩
  have cby : Nat.gcd (fN b r) y = 1 := gcd_one_of_dvd (f_coprime hr) ⟨_, by rw [hy, Nat.mul_comm]⟩
  have ctx : Nat.gcd t x = 1 := by
    have h1 : Nat.gcd (fN a r * y + fN b r * x) x = 1 := by
      rw [Nat.gcd_add_mul_right_left, Nat.gcd_comm]
      exact gcd_mul_one (by rw [Nat.gcd_comm]; exact cax) hxy
    rw [hS] at h1
    exact gcd_one_of_dvd_left h1 ⟨_, Nat.mul_comm _ _⟩
  have cty : Nat.gcd t y = 1 := by
    have h1 : Nat.gcd (fN a r * y + fN b r * x) y = 1 := by
      rw [Nat.add_comm, Nat.gcd_add_mul_right_left, Nat.gcd_comm]
      exact gcd_mul_one (by rw [Nat.gcd_comm]; exact cby) (by rw [Nat.gcd_comm]; exact hxy)
    rw [hS] at h1
    exact gcd_one_of_dvd_left h1 ⟨_, Nat.mul_comm _ _⟩
  have ctm : Nat.gcd t m = 1 := by
    have h1 : sH a b r * Nat.gcd m t = sH a b r * 1 := by
      rw [← Nat.gcd_mul_left, ← hm, ← ht, Nat.mul_one]; rfl
    rw [Nat.gcd_comm]
    exact Nat.eq_of_mul_eq_mul_left hH h1
  have hm0 : 0 < m := by
    rcases Nat.eq_zero_or_pos m with e | e
    · subst e; rw [Nat.mul_zero] at hm; omega
    · exact e
  have hx0 : 0 < x := by
    have := fD_pos (a := a) hr
    rcases Nat.eq_zero_or_pos x with e | e
    · subst e; rw [Nat.mul_zero] at hx; omega
    · exact e
  have hy0 : 0 < y := by
    have := fD_pos (a := b) hr
    rcases Nat.eq_zero_or_pos y with e | e
    · subst e; rw [Nat.mul_zero] at hy; omega
    · exact e
  refine f_uniq hr (Nat.mul_pos hx0 (Nat.mul_pos hm0 hy0)) (gcd_mul_one ctx (gcd_mul_one ctm cty)) ?_
  have key : (fN a r * y + fN b r * x) * sG a b r * r = (a + b) * (fD a r * fD b r) / 1 := by
    rw [Nat.div_one]
    have c1 := f_cross a r
    have c2 := f_cross b r
    have e1 : y * sG a b r = fD b r := by rw [hy, Nat.mul_comm]
    have e2 : x * sG a b r = fD a r := by rw [hx, Nat.mul_comm]
    calc (fN a r * y + fN b r * x) * sG a b r * r = (fN a r * r) * (y * sG a b r) + (fN b r * r) * (x * sG a b r) := by grind
      _ = (a * fD a r) * fD b r + (b * fD b r) * fD a r := by rw [c1, c2, e1, e2]
      _ = (a + b) * (fD a r * fD b r) := by grind
  rw [Nat.div_one, hS] at key
  have e3 : fD a r * fD b r = sG a b r * x * (sH a b r * m * y) := by rw [← hm, ← hx, ← hy]
  rw [e3] at key
  have hGH : 0 < sG a b r * sH a b r := Nat.mul_pos hG hH
  have k2 : (sG a b r * sH a b r) * (t * r) = (sG a b r * sH a b r) * ((a + b) * (x * (m * y))) := by grind
  exact Nat.eq_of_mul_eq_mul_left hGH k2

end Go.Ab

set_option linter.unusedSimpArgs false
set_option linter.unusedVariables false
namespace Go.Ab

/-- The clock by the rate, ahead of the i-th packet. -/
def clk (A Z : Nat → Nat) (R : Nat) : Nat → Nat
  | 0 => 0
  | i + 1 => max (A i * R) (clk A Z R i) + Z i

/-- The sizes of the last n packets up to the i-th. -/
def bs (Z : Nat → Nat) (i : Nat) : Nat → Nat
  | 0 => 0
  | n + 1 => Z (i - n) + bs Z i n

theorem bs_next (Z : Nat → Nat) (i : Nat) : ∀ m, m ≤ i + 1 → bs Z (i + 1) (m + 1) = bs Z i m + Z (i + 1)
  | 0, _ => by simp [bs]
  | m + 1, h => by
    have ih := bs_next Z i m (by omega)
    have e : i + 1 - (m + 1) = i - m := by omega
    show Z (i + 1 - (m + 1)) + bs Z (i + 1) (m + 1) = (Z (i - m) + bs Z i m) + Z (i + 1)
    rw [ih, e]; omega

theorem clk_is (A Z : Nat → Nat) (R : Nat) : ∀ i, ∃ n, n ≤ i ∧ clk A Z R (i + 1) = A (i - n) * R + bs Z i (n + 1)
  | 0 => ⟨0, Nat.le_refl _, by simp [clk, bs]⟩
  | i + 1 => by
    obtain ⟨n, hn, h⟩ := clk_is A Z R i
    have e : clk A Z R (i + 1 + 1) = max (A (i + 1) * R) (clk A Z R (i + 1)) + Z (i + 1) := rfl
    by_cases hc : clk A Z R (i + 1) ≤ A (i + 1) * R
    · refine ⟨0, by omega, ?_⟩
      rw [e, Nat.max_eq_left hc]
      simp [bs]
    · refine ⟨n + 1, by omega, ?_⟩
      rw [e, Nat.max_eq_right (by omega), h, bs_next Z i (n + 1) (by omega)]
      have : i + 1 - (n + 1) = i - n := by omega
      rw [this]; omega

theorem clk_bound {A Z : Nat → Nat} {R more i : Nat} (h : ∀ n, n ≤ i → A (i - n) ≤ A i ∧ bs Z i (n + 1) ≤ more + R * (A i - A (i - n))) : clk A Z R (i + 1) ≤ A i * R + more := by
  obtain ⟨n, hn, e⟩ := clk_is A Z R i
  obtain ⟨h1, h2⟩ := h n hn
  rw [e]
  have h3 : A (i - n) * R + R * (A i - A (i - n)) = A i * R := by
    rw [Nat.mul_comm R, ← Nat.add_mul]
    congr 1
    omega
  omega

theorem clk_le {A Z : Nat → Nat} {R i a z : Nat} (hA : ∀ j, j < i → A j ≤ a) (hZ : ∀ j, j < i → Z j ≤ z) : clk A Z R i ≤ a * R + i * z := by
  induction i with
  | zero => simp [clk]
  | succ i ih =>
    have ih := ih (fun j hj => hA j (by omega)) (fun j hj => hZ j (by omega))
    have h1 : A i * R ≤ a * R := Nat.mul_le_mul_right _ (hA i (by omega))
    have h2 := hZ i (by omega)
    have e : clk A Z R (i + 1) = max (A i * R) (clk A Z R i) + Z i := rfl
    have h3 : (i + 1) * z = i * z + z := Nat.succ_mul _ _
    rw [e]
    omega

theorem bs_le {Z : Nat → Nat} {i z : Nat} (hZ : ∀ j, j ≤ i → Z j ≤ z) : ∀ n, bs Z i n ≤ n * z
  | 0 => by simp [bs]
  | n + 1 => by
    have := bs_le hZ n
    have h := hZ (i - n) (by omega)
    have h3 : (n + 1) * z = n * z + z := Nat.succ_mul _ _
    show Z (i - n) + bs Z i n ≤ _
    omega

end Go.Ab

set_option linter.unusedSimpArgs false
set_option linter.unusedVariables false
namespace Go.Ab
open Go.Proofs

/-- A heap whose blocks are numbered from lo on. -/
def HV (σ : St) (lo h m : Nat) (L : List Item) (t : Int) : Prop :=
  lo ≤ h ∧ lo ≤ m ∧ lo ≤ σ.next ∧ ((L = [] ∧ HE σ h m t) ∨ ∃ a cap, lo ≤ a ∧ HI σ h a m L cap t)

/-- What a call turns stands from lo on. -/
def From (lo : Nat) (lg : Log) : Prop := ∀ c ∈ lg, lo ≤ c

theorem From.nil {lo : Nat} : From lo [] := fun c hc => by simp at hc
theorem From.append {lo : Nat} {a b : Log} (ha : From lo a) (hb : From lo b) : From lo (a ++ b) := fun c hc => by
  rcases List.mem_append.1 hc with h | h
  · exact ha c h
  · exact hb c h

/-- What stands below lo is as it was. -/
theorem keep_below {f : FuncId} {args : List Value} {σ σ' : St} {e : AE} {lg : Log} {lo : Nat} (h : DCall Try.prog f args σ e σ' lg) (hl : From lo lg) (hn : lo ≤ σ.next) : ∀ c, c < lo → σ'.get c = σ.get c := fun c hc =>
  h.1.2 c (by omega) fun hm => by have := hl c hm; omega

theorem HI.pos {σ : St} {h a m : Nat} {L : List Item} {cap : Nat} {t : Int} (H : HI σ h a m L cap t) : AllPos L := fun x hx => Item.ok_pos (H.ok x hx)
theorem HI.dist {σ : St} {h a m : Nat} {L : List Item} {cap : Nat} {t : Int} (H : HI σ h a m L cap t) : Dist L := by
  obtain ⟨f, _, hi⟩ := H.hs
  exact hi.dist
theorem HV.pos {σ : St} {lo h m : Nat} {L : List Item} {t : Int} (H : HV σ lo h m L t) : AllPos L := by
  rcases H.2.2.2 with ⟨rfl, _⟩ | ⟨a, cap, _, H⟩
  · exact fun x hx => by simp at hx
  · exact H.pos

theorem put_hv {σ : St} {lo h m : Nat} {L : List Item} {t : Int} (H : HV σ lo h m L t) (id kn kd : Int) (h0 : 0 ≤ id) (h1 : id ≤ 4611686018427387904) (hk : okR kn kd = true) (ht : 0 ≤ t) (ht1 : t < 1000000) (hnew : ∀ y ∈ L, y.id ≠ id) (hsm : L.length < 1000) :
    ∃ σ' lg, DCall Try.prog 14 [.pointer (some ⟨h, 0, none⟩), .int .i64 id, .agg ⟨[.int .i64 kn, .int .i64 kd]⟩] σ (.ret (.int .i64 0)) σ' lg ∧ From lo lg ∧ HV σ' lo h m (riseL (L.length + 1) (L ++ [⟨id, kn, kd, t + 1⟩]) L.length) (t + 1) := by
  obtain ⟨a1, a2, a3, H⟩ := H
  rcases H with ⟨rfl, H⟩ | ⟨a, cap, a4, H⟩
  · obtain ⟨σ', a, d, H', ha⟩ := put_first H id kn kd h0 h1 hk ht ht1
    refine ⟨σ', _, d, fun c hc => ?_, a1, a2, by have := d.1.1; omega, .inr ⟨a, 1, by omega, ?_⟩⟩
    · simp at hc; omega
    · simpa [riseL] using H'
  · have hcap : L.length ≤ cap := by
      obtain ⟨f, H1, _⟩ := H.hs
      obtain ⟨G, _, hG⟩ := H1.ga
      omega
    by_cases hc : L.length + 1 ≤ cap
    · obtain ⟨σ', d, H', nx, _⟩ := put_in H id kn kd h0 h1 hk ht ht1 hnew hsm hc
      refine ⟨σ', _, d, fun c hc => ?_, a1, a2, by omega, .inr ⟨a, cap, a4, H'⟩⟩
      simp at hc; omega
    · obtain ⟨σ', d, H', nx, _⟩ := put_move H id kn kd h0 h1 hk ht ht1 hnew hsm (by omega)
      refine ⟨σ', _, d, fun c hc => ?_, a1, a2, by omega, .inr ⟨_, _, by omega, H'⟩⟩
      simp at hc; omega

theorem put_hv_bad {σ : St} {lo h m : Nat} {L : List Item} {t : Int} (H : HV σ lo h m L t) (id kn kd : Int) (h0 : 0 ≤ id) (h1 : id ≤ 4611686018427387904) (hkn : okI kn = true) (hkd : okI kd = true) (hc : ¬ chk kn kd) :
    DCall Try.prog 14 [.pointer (some ⟨h, 0, none⟩), .int .i64 id, .agg ⟨[.int .i64 kn, .int .i64 kd]⟩] σ (.ret (.int .i64 2)) σ [] := by
  obtain ⟨a1, a2, a3, H⟩ := H
  rcases H with ⟨rfl, H⟩ | ⟨a, cap, a4, H⟩
  · obtain ⟨ck, gm⟩ := H.gm
    exact put_bad (f := fun _ => none) H.gh gm KV.nil (fun _ => rfl) H.lt id kn kd h0 h1 hkn hkd hc
  · obtain ⟨f, H1, _⟩ := H.hs
    obtain ⟨es, ck, gm, hkv, hlk⟩ := H1.gm
    exact put_bad H1.gh gm hkv hlk ⟨H1.lt.1, H1.lt.2.2⟩ id kn kd h0 h1 hkn hkd hc

theorem len_hv {σ : St} {lo h m : Nat} {L : List Item} {t : Int} (H : HV σ lo h m L t) : DCall Try.prog 17 [.pointer (some ⟨h, 0, none⟩)] σ (.ret (.int .i64 L.length)) σ [] := by
  obtain ⟨a1, a2, a3, H⟩ := H
  rcases H with ⟨rfl, H⟩ | ⟨a, cap, a4, H⟩
  · exact len_call0 H.gh
  · obtain ⟨f, H1, _⟩ := H.hs
    exact len_call H1.gh

theorem HV.dist {σ : St} {lo h m : Nat} {L : List Item} {t : Int} (H : HV σ lo h m L t) : Dist L := by
  rcases H.2.2.2 with ⟨rfl, _⟩ | ⟨a, cap, _, H⟩
  · exact fun i j x y hx => by simp at hx
  · exact H.dist

theorem HV.grow {σ σ' : St} {lo h m : Nat} {L : List Item} {t : Int} (H : HV σ lo h m L t) (hn : σ.next ≤ σ'.next) (hg : ∀ c, c < σ.next → σ'.get c = σ.get c) : HV σ' lo h m L t := by
  obtain ⟨a1, a2, a3, H⟩ := H
  refine ⟨a1, a2, by omega, ?_⟩
  rcases H with ⟨rfl, H⟩ | ⟨a, cap, a4, H⟩
  · obtain ⟨ck, gm⟩ := H.gm
    exact .inl ⟨rfl, ⟨(hg _ H.lt.1).trans H.gh, ⟨ck, (hg _ H.lt.2).trans gm⟩, H.ne, by have := H.lt; omega⟩⟩
  · exact .inr ⟨a, cap, a4, H.grow hn hg⟩

theorem set_hv {σ : St} {lo h m : Nat} {L : List Item} {t : Int} (H : HV σ lo h m L t) {n : Nat} {x : Item} (hx : L[n]? = some x) (kn kd : Int) (h0 : 0 ≤ x.id) (h1 : x.id ≤ 4611686018427387904) (hk : okR kn kd = true) :
    ∃ σ' lg n2 z, DCall Try.prog 15 [.pointer (some ⟨h, 0, none⟩), .int .i64 x.id, .agg ⟨[.int .i64 kn, .int .i64 kd]⟩] σ (.ret (.int .i64 0)) σ' lg ∧ From lo lg ∧
      (riseL (n + 1) (L.set n (x.key kn kd)) n)[n2]? = some z ∧ z.id = x.id ∧ HV σ' lo h m (setL L n n2 (x.key kn kd)) t := by
  obtain ⟨a1, a2, a3, H⟩ := H
  rcases H with ⟨rfl, H⟩ | ⟨a, cap, a4, H⟩
  · simp at hx
  · obtain ⟨σ', n2, z, d, b1, b2, b3, b4, _⟩ := set_ok H hx kn kd h0 h1 hk
    refine ⟨σ', _, n2, z, d, fun c hc => ?_, b1, b2, a1, a2, by omega, .inr ⟨a, cap, a4, b3⟩⟩
    simp at hc; omega

theorem set_hv_bad {σ : St} {lo h m : Nat} {L : List Item} {t : Int} (H : HV σ lo h m L t) (hl : 0 < L.length) (id kn kd : Int) (h0 : 0 ≤ id) (h1 : id ≤ 4611686018427387904) (hkn : okI kn = true) (hkd : okI kd = true) (hc : ¬ chk kn kd) :
    DCall Try.prog 15 [.pointer (some ⟨h, 0, none⟩), .int .i64 id, .agg ⟨[.int .i64 kn, .int .i64 kd]⟩] σ (.ret (.int .i64 2)) σ [] := by
  obtain ⟨a1, a2, a3, H⟩ := H
  rcases H with ⟨rfl, H⟩ | ⟨a, cap, a4, H⟩
  · simp at hl
  · exact set_bad H id kn kd h0 h1 hkn hkd hc

theorem take_hv {σ : St} {lo h m : Nat} {L : List Item} {t : Int} (H : HV σ lo h m L t) {x : Item} (hx : L[0]? = some x) :
    ∃ σ' lg, DCall Try.prog 16 [.pointer (some ⟨h, 0, none⟩)] σ (.ret (.tuple ⟨[.agg ⟨x.cells⟩, .bool true]⟩)) σ' lg ∧ From lo lg ∧ HV σ' lo h m (outL L 0) t := by
  obtain ⟨a1, a2, a3, H⟩ := H
  rcases H with ⟨rfl, H⟩ | ⟨a, cap, a4, H⟩
  · simp at hx
  · obtain ⟨σ', d, b3, b4, _⟩ := take_call H hx
    refine ⟨σ', _, d, fun c hc => ?_, a1, a2, by omega, .inr ⟨a, cap, a4, b3⟩⟩
    simp at hc; omega

theorem flat24 : flats Try.prog 24 = some [.int, .int] := by kernel_rfl
theorem flat31 : flats Try.prog 31 = some [.int, .int, .int, .int] := by kernel_rfl

/-! ### frames -/
theorem lget_put (ts : List Value) (i : Nat) (v : Value) (j : Nat) : lget (ts.set i v) j = if i = j then (if i < ts.length then v else undef) else lget ts j := by
  induction ts generalizing i j with
  | nil => simp [lget]
  | cons x ts ih =>
    cases i with
    | zero => cases j <;> simp [lget]
    | succ i =>
      cases j with
      | zero => simp [lget]
      | succ j => simp [lget, ih]

theorem lgetq_put (ts : List Value) (i : Nat) (v : Value) (j : Nat) : lget? (ts.set i v) j = if i = j then (if i < ts.length then some v else none) else lget? ts j := by
  rw [lget?_eq, lget?_eq, List.getElem?_set]

theorem lget_start2 (a b : Value) (n : Nat) : lget (start [a, b] n).ts 0 = a ∧ lget (start [a, b] n).ts 1 = b := ⟨rfl, rfl⟩

/-- The n-th statement of a row of statements. -/
def nthC : Nat → Code → Code
  | 0, .seq a _ => a
  | n + 1, .seq _ b => nthC n b
  | _, c => c

end Go.Ab

set_option linter.unusedSimpArgs false
set_option linter.unusedVariables false
namespace Go.Ab
open Go.Proofs

/-- A heap's map. -/
structure HM (σ : St) (h m : Nat) (s T : Value) (f : Int → Option Int) : Prop where
  gh : σ.get h = some (.cells [.map (some m), s, T] false)
  gm : ∃ es ck, σ.get m = some (.map es ck) ∧ KV es ∧ ∀ k, lk es k = f k
  lt : h < σ.next ∧ m < σ.next

theorem HV.hm {σ : St} {lo h m : Nat} {L : List Item} {t : Int} (H : HV σ lo h m L t) : ∃ s f, HM σ h m s (.int .i64 t) f ∧ ∀ id, f id = none ↔ ∀ x ∈ L, x.id ≠ id := by
  obtain ⟨a1, a2, a3, H⟩ := H
  rcases H with ⟨rfl, H⟩ | ⟨a, cap, a4, H⟩
  · obtain ⟨ck, gm⟩ := H.gm
    exact ⟨_, fun _ => none, ⟨H.gh, ⟨[], ck, gm, KV.nil, fun _ => rfl⟩, H.lt⟩, fun id => by simp⟩
  · obtain ⟨f, H1, hi⟩ := H.hs
    refine ⟨_, f, ⟨H1.gh, H1.gm, ⟨H1.lt.1, H1.lt.2.2⟩⟩, fun id => ⟨fun hn x hx e => ?_, fun hn => ?_⟩⟩
    · obtain ⟨i, hi'⟩ := List.getElem?_of_mem hx
      have := hi.fwd i x hi'
      rw [e, hn] at this
      cases this
    · cases hf : f id with
      | none => rfl
      | some v =>
        obtain ⟨i, x, h1, h2, _⟩ := hi.bwd id v hf
        exact absurd h2 (hn x (List.mem_of_getElem? h1))

theorem put_refused {σ : St} {h m : Nat} {s T : Value} {f : Int → Option Int} (H : HM σ h m s T f) (id kn kd : Int) (hkn : okI kn = true) (hkd : okI kd = true) (hc : (id < 0 ∨ 4611686018427387904 < id) ∨ ¬ chk kn kd) :
    DCall Try.prog 14 [.pointer (some ⟨h, 0, none⟩), .int .i64 id, .agg ⟨[.int .i64 kn, .int .i64 kd]⟩] σ (.ret (.int .i64 2)) σ [] := by
  obtain ⟨es, ck, gm, hkv, hlk⟩ := H.gm
  have lt := H.lt
  let σ1 := σ.new (.cells [.int .i64 kn, .int .i64 kd] false)
  have gm1 : σ1.get m = some (.map es ck) := by rw [St.get_new, if_neg (by omega)]; exact gm
  have gh1 : σ1.get h = some (.cells [.map (some m), s, T] false) := by rw [St.get_new, if_neg (by omega)]; exact H.gh
  have hno := none_call gh1
  have n1 : ¬ σ.next = h := by omega
  have e2 : ((2 : Int) != 0) = true := by decide
  refine DCall.forget (σ' := σ1) ?_ rfl
  refine callsL (one_ok' p8_ok hno) Try.func14 rfl 40 bt14 (by kernel_rfl) ?_
  have fin : ∀ c, c < σ.next → σ1.get c = σ.get c := fun c hc => by rw [St.get_new, if_neg (by omega)]
  obtain ⟨lv, hlo⟩ : ∃ lv b, opLookup (cP Try.prog).T σ1 96 true (.map (some m)) (.int .i64 id) = some (.val (.tuple ⟨[.int .i64 lv, .bool b]⟩) [m]) := by
    cases hv : f id with
    | none => exact ⟨0, false, map_not (ok := true) gm1 hkv hlk hv⟩
    | some v => exact ⟨v, true, map_get (ok := true) gm1 hkv hlk hv⟩
  obtain ⟨b, hlo⟩ := hlo
  by_cases r1 : id < 0
  · exact ⟨_, by simp only [go_sem, Nat.reducePow, Nat.reduceDiv, Nat.reduceMod, Nat.reduceAdd, Nat.reduceSub, Nat.reduceMul, Nat.reduceLeDiff, Nat.reduceLT, Nat.reduceEqDiff, reduceCtorEq, reduceIte, reduceDIte, if_pos rfl, Int.reduceLT, Int.reduceLE, Int.reduceEq, Int.reduceNeg, Int.reduceAdd, Int.reduceSub, Int.reduceMul, Int.reduceToNat, σ1, one_other, Orc.one_call, hlo, n1, r1, gh1, H.gh, Try.f14, Try.underlying2, info2, Try.t2, Try.underlying3, info3, Try.t3, Try.underlying4, info4, Try.t4, Try.underlying24, info24, Try.t24, Try.underlying26, info26, Try.t26, Try.underlying28, info28, Try.t28, Try.underlying96, info96, Try.t96, Try.underlying97, info97, Try.t97, Try.underlying98, info98, Try.t98, Try.underlying99, info99, Try.t99, Try.underlying100, info100, Try.t100, Try.underlying102, info102, Try.t102, body44, body45] <;> rfl, by simp only [go_sem, Nat.reducePow, Nat.reduceDiv, Nat.reduceMod, Nat.reduceAdd, Nat.reduceSub, Nat.reduceMul, Nat.reduceLeDiff, Nat.reduceLT, Nat.reduceEqDiff, reduceCtorEq, reduceIte, reduceDIte, if_pos rfl, Int.reduceLT, Int.reduceLE, Int.reduceEq, Int.reduceNeg, Int.reduceAdd, Int.reduceSub, Int.reduceMul, Int.reduceToNat, Try.f14], rfl, fin⟩
  · by_cases r2 : 4611686018427387904 < id
    · exact ⟨_, by simp only [go_sem, Nat.reducePow, Nat.reduceDiv, Nat.reduceMod, Nat.reduceAdd, Nat.reduceSub, Nat.reduceMul, Nat.reduceLeDiff, Nat.reduceLT, Nat.reduceEqDiff, reduceCtorEq, reduceIte, reduceDIte, if_pos rfl, Int.reduceLT, Int.reduceLE, Int.reduceEq, Int.reduceNeg, Int.reduceAdd, Int.reduceSub, Int.reduceMul, Int.reduceToNat, σ1, one_other, Orc.one_call, hlo, n1, r1, r2, gh1, H.gh, Try.f14, Try.underlying2, info2, Try.t2, Try.underlying3, info3, Try.t3, Try.underlying4, info4, Try.t4, Try.underlying24, info24, Try.t24, Try.underlying26, info26, Try.t26, Try.underlying28, info28, Try.t28, Try.underlying96, info96, Try.t96, Try.underlying97, info97, Try.t97, Try.underlying98, info98, Try.t98, Try.underlying99, info99, Try.t99, Try.underlying100, info100, Try.t100, Try.underlying102, info102, Try.t102, body44, body45] <;> rfl, by simp only [go_sem, Nat.reducePow, Nat.reduceDiv, Nat.reduceMod, Nat.reduceAdd, Nat.reduceSub, Nat.reduceMul, Nat.reduceLeDiff, Nat.reduceLT, Nat.reduceEqDiff, reduceCtorEq, reduceIte, reduceDIte, if_pos rfl, Int.reduceLT, Int.reduceLE, Int.reduceEq, Int.reduceNeg, Int.reduceAdd, Int.reduceSub, Int.reduceMul, Int.reduceToNat, Try.f14], rfl, fin⟩
    · have hc' : ¬ chk kn kd := hc.resolve_left (by omega)
      exact ⟨_, by simp only [go_sem, Nat.reducePow, Nat.reduceDiv, Nat.reduceMod, Nat.reduceAdd, Nat.reduceSub, Nat.reduceMul, Nat.reduceLeDiff, Nat.reduceLT, Nat.reduceEqDiff, reduceCtorEq, reduceIte, reduceDIte, if_pos rfl, Int.reduceLT, Int.reduceLE, Int.reduceEq, Int.reduceNeg, Int.reduceAdd, Int.reduceSub, Int.reduceMul, Int.reduceToNat, σ1, one_other, Orc.one_call, p8, p7, p6, p5, p4, p3, hkn, hkd, hc', hlo, n1, r1, r2, e2, gh1, H.gh, Try.f14, Try.underlying2, info2, Try.t2, Try.underlying3, info3, Try.t3, Try.underlying4, info4, Try.t4, Try.underlying24, info24, Try.t24, Try.underlying26, info26, Try.t26, Try.underlying28, info28, Try.t28, Try.underlying96, info96, Try.t96, Try.underlying97, info97, Try.t97, Try.underlying98, info98, Try.t98, Try.underlying99, info99, Try.t99, Try.underlying100, info100, Try.t100, Try.underlying102, info102, Try.t102, body44, body45] <;> rfl, by simp only [go_sem, Nat.reducePow, Nat.reduceDiv, Nat.reduceMod, Nat.reduceAdd, Nat.reduceSub, Nat.reduceMul, Nat.reduceLeDiff, Nat.reduceLT, Nat.reduceEqDiff, reduceCtorEq, reduceIte, reduceDIte, if_pos rfl, Int.reduceLT, Int.reduceLE, Int.reduceEq, Int.reduceNeg, Int.reduceAdd, Int.reduceSub, Int.reduceMul, Int.reduceToNat, Try.f14], rfl, fin⟩

theorem put_twice {σ : St} {h m : Nat} {s T : Value} {f : Int → Option Int} (H : HM σ h m s T f) (id kn kd v : Int) (h0 : 0 ≤ id) (h1 : id ≤ 4611686018427387904) (hk : okR kn kd = true) (hv : f id = some v) :
    DCall Try.prog 14 [.pointer (some ⟨h, 0, none⟩), .int .i64 id, .agg ⟨[.int .i64 kn, .int .i64 kd]⟩] σ (.ret (.int .i64 210)) σ [] := by
  obtain ⟨es, ck, gm, hkv, hlk⟩ := H.gm
  have lt := H.lt
  simp only [okR, Bool.and_eq_true, decide_eq_true_eq] at hk
  obtain ⟨⟨hkn, hkd⟩, hc⟩ := hk
  let σ1 := σ.new (.cells [.int .i64 kn, .int .i64 kd] false)
  have gm1 : σ1.get m = some (.map es ck) := by rw [St.get_new, if_neg (by omega)]; exact gm
  have gh1 : σ1.get h = some (.cells [.map (some m), s, T] false) := by rw [St.get_new, if_neg (by omega)]; exact H.gh
  have hno := none_call gh1
  have n1 : ¬ σ.next = h := by omega
  have n2 : ¬ id < 0 := by omega
  have n3 : ¬ 4611686018427387904 < id := by omega
  have e2 : ((0 : Int) != 0) = false := by decide
  have hlo := map_get (ok := true) gm1 hkv hlk hv
  refine DCall.forget (σ' := σ1) ?_ rfl
  refine callsL (one_ok' p8_ok hno) Try.func14 rfl 40 bt14 (by kernel_rfl) ?_
  have fin : ∀ c, c < σ.next → σ1.get c = σ.get c := fun c hc => by rw [St.get_new, if_neg (by omega)]
  exact ⟨_, by simp only [go_sem, Nat.reducePow, Nat.reduceDiv, Nat.reduceMod, Nat.reduceAdd, Nat.reduceSub, Nat.reduceMul, Nat.reduceLeDiff, Nat.reduceLT, Nat.reduceEqDiff, reduceCtorEq, reduceIte, reduceDIte, if_pos rfl, Int.reduceLT, Int.reduceLE, Int.reduceEq, Int.reduceNeg, Int.reduceAdd, Int.reduceSub, Int.reduceMul, Int.reduceToNat, σ1, one_other, Orc.one_call, p8, p7, p6, p5, p4, p3, hkn, hkd, hc, hlo, n1, n2, n3, e2, gh1, H.gh, Try.f14, Try.underlying2, info2, Try.t2, Try.underlying3, info3, Try.t3, Try.underlying4, info4, Try.t4, Try.underlying24, info24, Try.t24, Try.underlying26, info26, Try.t26, Try.underlying28, info28, Try.t28, Try.underlying96, info96, Try.t96, Try.underlying97, info97, Try.t97, Try.underlying98, info98, Try.t98, Try.underlying99, info99, Try.t99, Try.underlying100, info100, Try.t100, Try.underlying102, info102, Try.t102, body44, body45] <;> rfl, by simp only [go_sem, Nat.reducePow, Nat.reduceDiv, Nat.reduceMod, Nat.reduceAdd, Nat.reduceSub, Nat.reduceMul, Nat.reduceLeDiff, Nat.reduceLT, Nat.reduceEqDiff, reduceCtorEq, reduceIte, reduceDIte, if_pos rfl, Int.reduceLT, Int.reduceLE, Int.reduceEq, Int.reduceNeg, Int.reduceAdd, Int.reduceSub, Int.reduceMul, Int.reduceToNat, Try.f14], rfl, fin⟩

theorem set_refused {σ : St} {h m : Nat} {s T : Value} {f : Int → Option Int} (H : HM σ h m s T f) (id kn kd : Int) (hkn : okI kn = true) (hkd : okI kd = true) (hc : (id < 0 ∨ 4611686018427387904 < id) ∨ ¬ chk kn kd) :
    DCall Try.prog 15 [.pointer (some ⟨h, 0, none⟩), .int .i64 id, .agg ⟨[.int .i64 kn, .int .i64 kd]⟩] σ (.ret (.int .i64 2)) σ [] := by
  obtain ⟨es, ck, gm, hkv, hlk⟩ := H.gm
  have lt := H.lt
  let σ1 := σ.new (.cells [.int .i64 kn, .int .i64 kd] false)
  have gm1 : σ1.get m = some (.map es ck) := by rw [St.get_new, if_neg (by omega)]; exact gm
  have gh1 : σ1.get h = some (.cells [.map (some m), s, T] false) := by rw [St.get_new, if_neg (by omega)]; exact H.gh
  have hno := none_call gh1
  have n1 : ¬ σ.next = h := by omega
  have e2 : ((2 : Int) != 0) = true := by decide
  refine DCall.forget (σ' := σ1) ?_ rfl
  refine callsL (one_ok' p8_ok hno) Try.func15 rfl 40 bt15 (by kernel_rfl) ?_
  have fin : ∀ c, c < σ.next → σ1.get c = σ.get c := fun c hc => by rw [St.get_new, if_neg (by omega)]
  obtain ⟨lv, hlo⟩ : ∃ lv b, opLookup (cP Try.prog).T σ1 96 true (.map (some m)) (.int .i64 id) = some (.val (.tuple ⟨[.int .i64 lv, .bool b]⟩) [m]) := by
    cases hv : f id with
    | none => exact ⟨0, false, map_not (ok := true) gm1 hkv hlk hv⟩
    | some v => exact ⟨v, true, map_get (ok := true) gm1 hkv hlk hv⟩
  obtain ⟨b, hlo⟩ := hlo
  by_cases r1 : id < 0
  · exact ⟨_, by simp only [go_sem, Nat.reducePow, Nat.reduceDiv, Nat.reduceMod, Nat.reduceAdd, Nat.reduceSub, Nat.reduceMul, Nat.reduceLeDiff, Nat.reduceLT, Nat.reduceEqDiff, reduceCtorEq, reduceIte, reduceDIte, if_pos rfl, Int.reduceLT, Int.reduceLE, Int.reduceEq, Int.reduceNeg, Int.reduceAdd, Int.reduceSub, Int.reduceMul, Int.reduceToNat, σ1, one_other, Orc.one_call, hlo, n1, r1, gh1, H.gh, Try.f15, Try.underlying2, info2, Try.t2, Try.underlying3, info3, Try.t3, Try.underlying4, info4, Try.t4, Try.underlying24, info24, Try.t24, Try.underlying26, info26, Try.t26, Try.underlying28, info28, Try.t28, Try.underlying96, info96, Try.t96, Try.underlying97, info97, Try.t97, Try.underlying98, info98, Try.t98, Try.underlying99, info99, Try.t99, Try.underlying100, info100, Try.t100, Try.underlying102, info102, Try.t102, body44, body45] <;> rfl, by simp only [go_sem, Nat.reducePow, Nat.reduceDiv, Nat.reduceMod, Nat.reduceAdd, Nat.reduceSub, Nat.reduceMul, Nat.reduceLeDiff, Nat.reduceLT, Nat.reduceEqDiff, reduceCtorEq, reduceIte, reduceDIte, if_pos rfl, Int.reduceLT, Int.reduceLE, Int.reduceEq, Int.reduceNeg, Int.reduceAdd, Int.reduceSub, Int.reduceMul, Int.reduceToNat, Try.f15], rfl, fin⟩
  · by_cases r2 : 4611686018427387904 < id
    · exact ⟨_, by simp only [go_sem, Nat.reducePow, Nat.reduceDiv, Nat.reduceMod, Nat.reduceAdd, Nat.reduceSub, Nat.reduceMul, Nat.reduceLeDiff, Nat.reduceLT, Nat.reduceEqDiff, reduceCtorEq, reduceIte, reduceDIte, if_pos rfl, Int.reduceLT, Int.reduceLE, Int.reduceEq, Int.reduceNeg, Int.reduceAdd, Int.reduceSub, Int.reduceMul, Int.reduceToNat, σ1, one_other, Orc.one_call, hlo, n1, r1, r2, gh1, H.gh, Try.f15, Try.underlying2, info2, Try.t2, Try.underlying3, info3, Try.t3, Try.underlying4, info4, Try.t4, Try.underlying24, info24, Try.t24, Try.underlying26, info26, Try.t26, Try.underlying28, info28, Try.t28, Try.underlying96, info96, Try.t96, Try.underlying97, info97, Try.t97, Try.underlying98, info98, Try.t98, Try.underlying99, info99, Try.t99, Try.underlying100, info100, Try.t100, Try.underlying102, info102, Try.t102, body44, body45] <;> rfl, by simp only [go_sem, Nat.reducePow, Nat.reduceDiv, Nat.reduceMod, Nat.reduceAdd, Nat.reduceSub, Nat.reduceMul, Nat.reduceLeDiff, Nat.reduceLT, Nat.reduceEqDiff, reduceCtorEq, reduceIte, reduceDIte, if_pos rfl, Int.reduceLT, Int.reduceLE, Int.reduceEq, Int.reduceNeg, Int.reduceAdd, Int.reduceSub, Int.reduceMul, Int.reduceToNat, Try.f15], rfl, fin⟩
    · have hc' : ¬ chk kn kd := hc.resolve_left (by omega)
      exact ⟨_, by simp only [go_sem, Nat.reducePow, Nat.reduceDiv, Nat.reduceMod, Nat.reduceAdd, Nat.reduceSub, Nat.reduceMul, Nat.reduceLeDiff, Nat.reduceLT, Nat.reduceEqDiff, reduceCtorEq, reduceIte, reduceDIte, if_pos rfl, Int.reduceLT, Int.reduceLE, Int.reduceEq, Int.reduceNeg, Int.reduceAdd, Int.reduceSub, Int.reduceMul, Int.reduceToNat, σ1, one_other, Orc.one_call, p8, p7, p6, p5, p4, p3, hkn, hkd, hc', hlo, n1, r1, r2, e2, gh1, H.gh, Try.f15, Try.underlying2, info2, Try.t2, Try.underlying3, info3, Try.t3, Try.underlying4, info4, Try.t4, Try.underlying24, info24, Try.t24, Try.underlying26, info26, Try.t26, Try.underlying28, info28, Try.t28, Try.underlying96, info96, Try.t96, Try.underlying97, info97, Try.t97, Try.underlying98, info98, Try.t98, Try.underlying99, info99, Try.t99, Try.underlying100, info100, Try.t100, Try.underlying102, info102, Try.t102, body44, body45] <;> rfl, by simp only [go_sem, Nat.reducePow, Nat.reduceDiv, Nat.reduceMod, Nat.reduceAdd, Nat.reduceSub, Nat.reduceMul, Nat.reduceLeDiff, Nat.reduceLT, Nat.reduceEqDiff, reduceCtorEq, reduceIte, reduceDIte, if_pos rfl, Int.reduceLT, Int.reduceLE, Int.reduceEq, Int.reduceNeg, Int.reduceAdd, Int.reduceSub, Int.reduceMul, Int.reduceToNat, Try.f15], rfl, fin⟩

theorem set_missing {σ : St} {h m : Nat} {s T : Value} {f : Int → Option Int} (H : HM σ h m s T f) (id kn kd : Int) (h0 : 0 ≤ id) (h1 : id ≤ 4611686018427387904) (hk : okR kn kd = true) (hv : f id = none) :
    DCall Try.prog 15 [.pointer (some ⟨h, 0, none⟩), .int .i64 id, .agg ⟨[.int .i64 kn, .int .i64 kd]⟩] σ (.ret (.int .i64 5)) σ [] := by
  obtain ⟨es, ck, gm, hkv, hlk⟩ := H.gm
  have lt := H.lt
  simp only [okR, Bool.and_eq_true, decide_eq_true_eq] at hk
  obtain ⟨⟨hkn, hkd⟩, hc⟩ := hk
  let σ1 := σ.new (.cells [.int .i64 kn, .int .i64 kd] false)
  have gm1 : σ1.get m = some (.map es ck) := by rw [St.get_new, if_neg (by omega)]; exact gm
  have gh1 : σ1.get h = some (.cells [.map (some m), s, T] false) := by rw [St.get_new, if_neg (by omega)]; exact H.gh
  have hno := none_call gh1
  have n1 : ¬ σ.next = h := by omega
  have n2 : ¬ id < 0 := by omega
  have n3 : ¬ 4611686018427387904 < id := by omega
  have e2 : ((0 : Int) != 0) = false := by decide
  have hlo := map_not (ok := true) gm1 hkv hlk hv
  refine DCall.forget (σ' := σ1) ?_ rfl
  refine callsL (one_ok' p8_ok hno) Try.func15 rfl 40 bt15 (by kernel_rfl) ?_
  have fin : ∀ c, c < σ.next → σ1.get c = σ.get c := fun c hc => by rw [St.get_new, if_neg (by omega)]
  exact ⟨_, by simp only [go_sem, Nat.reducePow, Nat.reduceDiv, Nat.reduceMod, Nat.reduceAdd, Nat.reduceSub, Nat.reduceMul, Nat.reduceLeDiff, Nat.reduceLT, Nat.reduceEqDiff, reduceCtorEq, reduceIte, reduceDIte, if_pos rfl, Int.reduceLT, Int.reduceLE, Int.reduceEq, Int.reduceNeg, Int.reduceAdd, Int.reduceSub, Int.reduceMul, Int.reduceToNat, σ1, one_other, Orc.one_call, p8, p7, p6, p5, p4, p3, hkn, hkd, hc, hlo, n1, n2, n3, e2, gh1, H.gh, Try.f15, Try.underlying2, info2, Try.t2, Try.underlying3, info3, Try.t3, Try.underlying4, info4, Try.t4, Try.underlying24, info24, Try.t24, Try.underlying26, info26, Try.t26, Try.underlying28, info28, Try.t28, Try.underlying96, info96, Try.t96, Try.underlying97, info97, Try.t97, Try.underlying98, info98, Try.t98, Try.underlying99, info99, Try.t99, Try.underlying100, info100, Try.t100, Try.underlying102, info102, Try.t102, body44, body45] <;> rfl, by simp only [go_sem, Nat.reducePow, Nat.reduceDiv, Nat.reduceMod, Nat.reduceAdd, Nat.reduceSub, Nat.reduceMul, Nat.reduceLeDiff, Nat.reduceLT, Nat.reduceEqDiff, reduceCtorEq, reduceIte, reduceDIte, if_pos rfl, Int.reduceLT, Int.reduceLE, Int.reduceEq, Int.reduceNeg, Int.reduceAdd, Int.reduceSub, Int.reduceMul, Int.reduceToNat, Try.f15], rfl, fin⟩

theorem drop_missing {σ : St} {h m : Nat} {s T : Value} {f : Int → Option Int} (H : HM σ h m s T f) (id : Int) (hv : f id = none) :
    DCall Try.prog 43 [.pointer (some ⟨h, 0, none⟩), .int .i64 id] σ (.ret (.int .i64 5)) σ [] := by
  obtain ⟨es, ck, gm, hkv, hlk⟩ := H.gm
  have hno := none_call H.gh
  have hlo := map_not (ok := true) gm hkv hlk hv
  refine callsL (one_ok' p8_ok hno) Try.func43 rfl 40 nobt (by kernel_rfl) ?_
  exact ⟨_, by simp only [go_sem, Nat.reducePow, Nat.reduceDiv, Nat.reduceMod, Nat.reduceAdd, Nat.reduceSub, Nat.reduceMul, Nat.reduceLeDiff, Nat.reduceLT, Nat.reduceEqDiff, reduceCtorEq, reduceIte, reduceDIte, if_pos rfl, Int.reduceLT, Int.reduceLE, Int.reduceEq, Int.reduceNeg, Int.reduceAdd, Int.reduceSub, Int.reduceMul, Int.reduceToNat, one_other, Orc.one_call, hlo, H.gh, Try.f43, Try.underlying2, info2, Try.t2, Try.underlying3, info3, Try.t3, Try.underlying4, info4, Try.t4, Try.underlying24, info24, Try.t24, Try.underlying26, info26, Try.t26, Try.underlying28, info28, Try.t28, Try.underlying96, info96, Try.t96, Try.underlying97, info97, Try.t97, Try.underlying98, info98, Try.t98, Try.underlying99, info99, Try.t99, Try.underlying100, info100, Try.t100, Try.underlying102, info102, Try.t102, body44] <;> rfl, by simp only [go_sem, Nat.reducePow, Nat.reduceDiv, Nat.reduceMod, Nat.reduceAdd, Nat.reduceSub, Nat.reduceMul, Nat.reduceLeDiff, Nat.reduceLT, Nat.reduceEqDiff, reduceCtorEq, reduceIte, reduceDIte, if_pos rfl, Int.reduceLT, Int.reduceLE, Int.reduceEq, Int.reduceNeg, Int.reduceAdd, Int.reduceSub, Int.reduceMul, Int.reduceToNat, Try.f43], rfl, fun _ _ => rfl⟩

theorem drop_hv {σ : St} {lo h m : Nat} {L : List Item} {t : Int} (H : HV σ lo h m L t) {n : Nat} {x : Item} (hx : L[n]? = some x) :
    ∃ σ' lg, DCall Try.prog 43 [.pointer (some ⟨h, 0, none⟩), .int .i64 x.id] σ (.ret (.int .i64 0)) σ' lg ∧ From lo lg ∧ HV σ' lo h m (outL L n) t := by
  obtain ⟨a1, a2, a3, H⟩ := H
  rcases H with ⟨rfl, H⟩ | ⟨a, cap, a4, H⟩
  · simp at hx
  · obtain ⟨σ', d, b3, b4, _⟩ := out_call H hx
    obtain ⟨f, H1, hi⟩ := H.hs
    obtain ⟨es, ck, gm, hkv, hlk⟩ := H1.gm
    have hno := none_call H1.gh
    have hlo := map_get (ok := true) gm hkv hlk (hi.fwd n x hx)
    refine ⟨σ', [h, a, m], calls (one_ok' (one_ok' Orc.none_ok d) hno) Try.func43 rfl 40 nobt (by kernel_rfl) ?_, fun c hc => ?_, a1, a2, by omega, .inr ⟨a, cap, a4, b3⟩⟩
    · exact ⟨_, by simp only [go_sem, Nat.reducePow, Nat.reduceDiv, Nat.reduceMod, Nat.reduceAdd, Nat.reduceSub, Nat.reduceMul, Nat.reduceLeDiff, Nat.reduceLT, Nat.reduceEqDiff, reduceCtorEq, reduceIte, reduceDIte, if_pos rfl, Int.reduceLT, Int.reduceLE, Int.reduceEq, Int.reduceNeg, Int.reduceAdd, Int.reduceSub, Int.reduceMul, Int.reduceToNat, one_other, Orc.one_call, hlo, H1.gh, Try.f43, Try.underlying2, info2, Try.t2, Try.underlying3, info3, Try.t3, Try.underlying4, info4, Try.t4, Try.underlying24, info24, Try.t24, Try.underlying26, info26, Try.t26, Try.underlying28, info28, Try.t28, Try.underlying31, info31, Try.t31, Try.underlying96, info96, Try.t96, Try.underlying97, info97, Try.t97, Try.underlying98, info98, Try.t98, Try.underlying99, info99, Try.t99, Try.underlying100, info100, Try.t100, Try.underlying102, info102, Try.t102, body44, body49] <;> rfl, by simp only [go_sem, Nat.reducePow, Nat.reduceDiv, Nat.reduceMod, Nat.reduceAdd, Nat.reduceSub, Nat.reduceMul, Nat.reduceLeDiff, Nat.reduceLT, Nat.reduceEqDiff, reduceCtorEq, reduceIte, reduceDIte, if_pos rfl, Int.reduceLT, Int.reduceLE, Int.reduceEq, Int.reduceNeg, Int.reduceAdd, Int.reduceSub, Int.reduceMul, Int.reduceToNat, Try.f43], rfl, rfl⟩
    · simp at hc; omega

theorem take_empty {σ : St} {lo h m : Nat} {t : Int} (H : HV σ lo h m [] t) : ∃ σ', DCall Try.prog 16 [.pointer (some ⟨h, 0, none⟩)] σ (.ret (.tuple ⟨[.agg ⟨[.int .i64 0, .int .i64 0, .int .i64 0, .int .i64 0]⟩, .bool false]⟩)) σ' [] := by
  have H1 := H.grow (σ' := σ.new (.cells [.int .i64 0, .int .i64 0, .int .i64 0, .int .i64 0] false)) (by simp) fun c hc => by rw [St.get_new, if_neg (by omega)]
  have dl := len_hv H1
  simp only [List.length_nil, Int.natCast_zero] at dl
  exact ⟨_, callsL (one_ok' Orc.none_ok dl) Try.func16 rfl 40 nobt (by kernel_rfl) ⟨_, by simp only [go_sem, Nat.reducePow, Nat.reduceDiv, Nat.reduceMod, Nat.reduceAdd, Nat.reduceSub, Nat.reduceMul, Nat.reduceLeDiff, Nat.reduceLT, Nat.reduceEqDiff, reduceCtorEq, reduceIte, reduceDIte, if_pos rfl, Int.reduceLT, Int.reduceLE, Int.reduceEq, Int.reduceNeg, Int.reduceAdd, Int.reduceSub, Int.reduceMul, Int.reduceToNat, Orc.one_call, Try.f16, Try.underlying2, info2, Try.t2, Try.underlying3, info3, Try.t3, Try.underlying4, info4, Try.t4, Try.underlying24, info24, Try.t24, Try.underlying26, info26, Try.t26, Try.underlying28, info28, Try.t28, Try.underlying30, info30, Try.t30, Try.underlying31, info31, Try.t31, body17] <;> rfl, by simp only [go_sem, Nat.reducePow, Nat.reduceDiv, Nat.reduceMod, Nat.reduceAdd, Nat.reduceSub, Nat.reduceMul, Nat.reduceLeDiff, Nat.reduceLT, Nat.reduceEqDiff, reduceCtorEq, reduceIte, reduceDIte, if_pos rfl, Int.reduceLT, Int.reduceLE, Int.reduceEq, Int.reduceNeg, Int.reduceAdd, Int.reduceSub, Int.reduceMul, Int.reduceToNat, Try.f16, Try.underlying30, info30, Try.t30, Try.underlying31, info31, Try.t31], rfl, fun c hc => by simp only [St.get_set, St.get_new]; rw [if_neg (by omega), if_neg (by omega)]⟩⟩

theorem least_hv {σ : St} {lo h m : Nat} {L : List Item} {t : Int} (H : HV σ lo h m L t) {x : Item} (hx : L[0]? = some x) : DCall Try.prog 19 [.pointer (some ⟨h, 0, none⟩)] σ (.ret (.tuple ⟨[.agg ⟨x.cells⟩, .bool true]⟩)) σ [] := by
  have H1 := H.grow (σ' := σ.new (.cells [.int .i64 0, .int .i64 0, .int .i64 0, .int .i64 0] false)) (by simp) fun c hc => by rw [St.get_new, if_neg (by omega)]
  have dl := len_hv H1
  have hl : 0 < L.length := (List.getElem?_eq_some_iff.1 hx).1
  obtain ⟨a1, a2, a3, H1⟩ := H1
  rcases H1 with ⟨rfl, _⟩ | ⟨a, cap, a4, H1⟩
  · simp at hx
  · obtain ⟨f, HS1, hi⟩ := H1.hs
    obtain ⟨G, ga, hG⟩ := HS1.ga
    have gh := HS1.gh
    have e1 := cells_at (G := G) hx
    have l1 : 0 * 4 + 4 ≤ (cellsL L ++ G).length := by simp [cellsL_length]; omega
    have c1 : (0 : Int) < (L.length : Int) := by omega
    have e0 : ((L.length : Int) == 0) = false := by rw [beq_eq_false_iff_ne]; omega
    simp only [Nat.zero_mul, Nat.zero_add, Item.cells, List.drop_zero] at e1 l1 ⊢
    refine DCall.forget (σ' := (σ.new (.cells [.int .i64 0, .int .i64 0, .int .i64 0, .int .i64 0] false)).set σ.next (.cells [.int .i64 x.id, .int .i64 x.n, .int .i64 x.d, .int .i64 x.turn] false)) ?_ rfl
    exact callsL (one_ok' Orc.none_ok dl) Try.func19 rfl 40 nobt (by kernel_rfl) ⟨_, by simp only [go_sem, Nat.reducePow, Nat.reduceDiv, Nat.reduceMod, Nat.reduceAdd, Nat.reduceSub, Nat.reduceMul, Nat.reduceLeDiff, Nat.reduceLT, Nat.reduceEqDiff, reduceCtorEq, reduceIte, reduceDIte, if_pos rfl, Int.reduceLT, Int.reduceLE, Int.reduceEq, Int.reduceNeg, Int.reduceAdd, Int.reduceSub, Int.reduceMul, Int.reduceToNat, Orc.one_call, gh, ga, e0, e1, l1, c1, Int.toNat_zero, Try.f19, Try.underlying2, info2, Try.t2, Try.underlying3, info3, Try.t3, Try.underlying4, info4, Try.t4, Try.underlying24, info24, Try.t24, Try.underlying26, info26, Try.t26, Try.underlying28, info28, Try.t28, Try.underlying30, info30, Try.t30, Try.underlying31, info31, Try.t31, Try.underlying37, info37, Try.t37, Try.underlying99, info99, Try.t99, Try.underlying100, info100, Try.t100, body17] <;> rfl, by simp only [go_sem, Nat.reducePow, Nat.reduceDiv, Nat.reduceMod, Nat.reduceAdd, Nat.reduceSub, Nat.reduceMul, Nat.reduceLeDiff, Nat.reduceLT, Nat.reduceEqDiff, reduceCtorEq, reduceIte, reduceDIte, if_pos rfl, Int.reduceLT, Int.reduceLE, Int.reduceEq, Int.reduceNeg, Int.reduceAdd, Int.reduceSub, Int.reduceMul, Int.reduceToNat, Try.f19, Try.underlying30, info30, Try.t30, Try.underlying31, info31, Try.t31], rfl, fun c hc => by simp only [St.get_set, St.get_new]; rw [if_neg (by omega), if_neg (by omega)]⟩

theorem get_missing {σ : St} {h m : Nat} {s T : Value} {f : Int → Option Int} (H : HM σ h m s T f) (id : Int) (hv : f id = none) :
    DCall Try.prog 21 [.pointer (some ⟨h, 0, none⟩), .int .i64 id] σ (.ret (.tuple ⟨[.agg ⟨[.int .i64 0, .int .i64 0, .int .i64 0, .int .i64 0]⟩, .bool false]⟩)) σ [] := by
  obtain ⟨es, ck, gm, hkv, hlk⟩ := H.gm
  have lt := H.lt
  let σ1 := σ.new (.cells [.int .i64 0, .int .i64 0, .int .i64 0, .int .i64 0] false)
  have gm1 : σ1.get m = some (.map es ck) := by rw [St.get_new, if_neg (by omega)]; exact gm
  have gh1 : σ1.get h = some (.cells [.map (some m), s, T] false) := by rw [St.get_new, if_neg (by omega)]; exact H.gh
  have hno := none_call gh1
  have n1 : ¬ σ.next = h := by omega
  have hlo := map_not (ok := true) gm1 hkv hlk hv
  refine DCall.forget (σ' := σ1.set σ.next (.cells [.int .i64 0, .int .i64 0, .int .i64 0, .int .i64 0] false)) ?_ rfl
  refine callsL (one_ok' p8_ok hno) Try.func21 rfl 40 nobt (by kernel_rfl) ?_
  exact ⟨_, by simp only [go_sem, Nat.reducePow, Nat.reduceDiv, Nat.reduceMod, Nat.reduceAdd, Nat.reduceSub, Nat.reduceMul, Nat.reduceLeDiff, Nat.reduceLT, Nat.reduceEqDiff, reduceCtorEq, reduceIte, reduceDIte, if_pos rfl, Int.reduceLT, Int.reduceLE, Int.reduceEq, Int.reduceNeg, Int.reduceAdd, Int.reduceSub, Int.reduceMul, Int.reduceToNat, σ1, one_other, Orc.one_call, hlo, n1, gh1, H.gh, Try.f21, Try.underlying2, info2, Try.t2, Try.underlying3, info3, Try.t3, Try.underlying4, info4, Try.t4, Try.underlying24, info24, Try.t24, Try.underlying26, info26, Try.t26, Try.underlying28, info28, Try.t28, Try.underlying30, info30, Try.t30, Try.underlying31, info31, Try.t31, Try.underlying96, info96, Try.t96, Try.underlying97, info97, Try.t97, Try.underlying98, info98, Try.t98, Try.underlying99, info99, Try.t99, Try.underlying100, info100, Try.t100, Try.underlying102, info102, Try.t102, body44] <;> rfl, by simp only [go_sem, Nat.reducePow, Nat.reduceDiv, Nat.reduceMod, Nat.reduceAdd, Nat.reduceSub, Nat.reduceMul, Nat.reduceLeDiff, Nat.reduceLT, Nat.reduceEqDiff, reduceCtorEq, reduceIte, reduceDIte, if_pos rfl, Int.reduceLT, Int.reduceLE, Int.reduceEq, Int.reduceNeg, Int.reduceAdd, Int.reduceSub, Int.reduceMul, Int.reduceToNat, Try.f21, Try.underlying30, info30, Try.t30, Try.underlying31, info31, Try.t31], rfl, fun c hc => by simp only [σ1, St.get_set, St.get_new]; rw [if_neg (by omega), if_neg (by omega)]⟩

end Go.Ab

set_option linter.unusedSimpArgs false
set_option linter.unusedVariables false
namespace Go.Ab

def digF : Nat → Nat → List Nat
  | 0, _ => []
  | f + 1, n => if n = 0 then [] else n % 65536 :: digF f (n / 65536)

/-- A number's digits. -/
def dig (n : Nat) : List Nat := digF n n

theorem digF_more : ∀ (f g n : Nat), n ≤ f → n ≤ g → digF f n = digF g n
  | 0, g, n, h, _ => by
    obtain rfl : n = 0 := by omega
    cases g <;> simp [digF]
  | f + 1, 0, n, _, h => by
    obtain rfl : n = 0 := by omega
    simp [digF]
  | f + 1, g + 1, n, h1, h2 => by
    simp only [digF]
    split
    · rfl
    · rw [digF_more f g (n / 65536) (by omega) (by omega)]

theorem dig_zero : dig 0 = [] := rfl
theorem dig_pos {n : Nat} (h : 0 < n) : dig n = n % 65536 :: dig (n / 65536) := by
  unfold dig
  obtain ⟨k, rfl⟩ : ∃ k, n = k + 1 := ⟨n - 1, by omega⟩
  simp only [digF]
  rw [if_neg (by omega), digF_more k ((k + 1) / 65536) _ (by omega) (by omega)]

/-- The number of some digits. -/
def val : List Nat → Nat
  | [] => 0
  | d :: ds => d + 65536 * val ds

def Low (D : List Nat) : Prop := ∀ d ∈ D, d < 65536

theorem Low.nil : Low [] := fun d h => by simp at h
theorem Low.tail {d : Nat} {D : List Nat} (h : Low (d :: D)) : Low D := fun x hx => h x (by simp [hx])
theorem Low.cons {d : Nat} {D : List Nat} (hd : d < 65536) (h : Low D) : Low (d :: D) := fun x hx => by
  rcases List.mem_cons.1 hx with rfl | hx
  · exact hd
  · exact h x hx
theorem Low.append {D E : List Nat} (h : Low D) (h' : Low E) : Low (D ++ E) := fun x hx => by
  rcases List.mem_append.1 hx with h1 | h1
  · exact h x h1
  · exact h' x h1

theorem val_append : ∀ (D E : List Nat), val (D ++ E) = val D + 65536 ^ D.length * val E
  | [], E => by simp [val]
  | d :: D, E => by
    simp only [List.cons_append, val, val_append D E, List.length_cons, Nat.pow_succ]
    rw [Nat.mul_add, ← Nat.add_assoc]
    congr 1
    rw [← Nat.mul_assoc, Nat.mul_comm 65536 (65536 ^ D.length)]

theorem dig_low : ∀ (n : Nat), Low (dig n) := by
  intro n
  induction n using Nat.strongRecOn with
  | _ n ih =>
    by_cases h : n = 0
    · subst h; exact Low.nil
    · rw [dig_pos (by omega)]
      exact Low.cons (Nat.mod_lt _ (by omega)) (ih _ (by omega))

theorem val_dig : ∀ (n : Nat), val (dig n) = n := by
  intro n
  induction n using Nat.strongRecOn with
  | _ n ih =>
    by_cases h : n = 0
    · subst h; rfl
    · rw [dig_pos (by omega), val, ih _ (by omega)]
      omega

theorem dig_nil {n : Nat} : dig n = [] ↔ n = 0 := by
  constructor
  · intro h
    have := val_dig n
    rw [h] at this
    simpa [val] using this.symm
  · rintro rfl; rfl

/-- The digits of a number whose last digit is none 0 are these digits. -/
theorem dig_val : ∀ (D : List Nat), Low D → (∀ d, D.getLast? = some d → d ≠ 0) → dig (val D) = D
  | [], _, _ => rfl
  | [d], h, hl => by
    have h1 := h d (by simp)
    have h2 := hl d rfl
    have e : val [d] = d := by simp [val]
    rw [e, dig_pos (by omega), Nat.mod_eq_of_lt h1, Nat.div_eq_of_lt h1, dig_zero]
  | d :: e :: D, h, hl => by
    have h1 := h d (by simp)
    have ih := dig_val (e :: D) h.tail (fun x hx => hl x (by simpa using hx))
    have hp : 0 < val (e :: D) := by
      rcases Nat.eq_zero_or_pos (val (e :: D)) with h0 | h0
      · rw [h0] at ih; simp [dig_zero] at ih
      · exact h0
    have e1 : val (d :: e :: D) = d + 65536 * val (e :: D) := rfl
    have e2 : (d + 65536 * val (e :: D)) % 65536 = d := by omega
    have e3 : (d + 65536 * val (e :: D)) / 65536 = val (e :: D) := by omega
    rw [e1, dig_pos (by omega), e2, e3, ih]

/-- One zero at the end, cut. -/
theorem val_cut (D : List Nat) : val (D ++ [0]) = val D := by
  rw [val_append]; simp [val]

theorem dig_length_le {n k : Nat} (h : n < 65536 ^ k) : (dig n).length ≤ k := by
  induction k generalizing n with
  | zero =>
    obtain rfl : n = 0 := by simpa using h
    simp [dig_zero]
  | succ k ih =>
    by_cases h0 : n = 0
    · subst h0; simp [dig_zero]
    · rw [dig_pos (by omega), List.length_cons]
      have : n / 65536 < 65536 ^ k := by
        rw [Nat.div_lt_iff_lt_mul (by omega)]
        rwa [Nat.pow_succ] at h
      have := ih this
      omega

theorem val_lt : ∀ (D : List Nat), Low D → val D < 65536 ^ D.length
  | [], _ => by simp [val]
  | d :: D, h => by
    have h1 := h d (by simp)
    have h2 := val_lt D h.tail
    rw [val, List.length_cons, Nat.pow_succ]
    have : 65536 * val D + 65536 ≤ 65536 ^ D.length * 65536 := by
      rw [Nat.mul_comm (65536 ^ D.length), ← Nat.mul_succ]
      exact Nat.mul_le_mul_left _ h2
    omega

end Go.Ab

set_option linter.unusedSimpArgs false
set_option linter.unusedVariables false
namespace Go.Ab
open Go.Proofs

def dv (d : Nat) : Value := .int .u32 (d : Int)
def dcells (D : List Nat) : List Value := D.map dv
theorem dcells_length (D : List Nat) : (dcells D).length = D.length := by simp [dcells]
theorem dcells_append (D E : List Nat) : dcells (D ++ E) = dcells D ++ dcells E := by simp [dcells]

/-- A slice of digits. -/
def BigS (σ : St) (v : Value) (D : List Nat) : Prop :=
  (v = .slice none 0 0 ∧ D = []) ∨ ∃ b sp cap G ro, v = .slice (some ⟨b, 0, some sp⟩) D.length cap ∧ (sp = 0 ∨ sp = 3) ∧ D.length ≤ cap ∧ b < σ.next ∧ σ.get b = some (.cells (dcells D ++ G) ro)

theorem BigS.nil (σ : St) : BigS σ (.slice none 0 0) [] := .inl ⟨rfl, rfl⟩

theorem BigS.keep {σ σ' : St} {v : Value} {D : List Nat} (h : BigS σ v D) (hn : σ.next ≤ σ'.next) (hk : ∀ b, b < σ.next → σ'.get b = σ.get b) : BigS σ' v D := by
  rcases h with h | ⟨b, sp, cap, G, ro, h1, h2, h3, h4, h5⟩
  · exact .inl h
  · exact .inr ⟨b, sp, cap, G, ro, h1, h2, h3, by omega, (hk b h4).trans h5⟩

theorem BigS.len {σ : St} {v : Value} {D : List Nat} (h : BigS σ v D) : ∀ σ', opLen (cP Try.prog).T σ' 112 v = some (.val (.int .i64 (D.length : Int)) []) := fun σ' => by
  rcases h with ⟨rfl, rfl⟩ | ⟨b, sp, cap, G, ro, rfl, _⟩
  · simp only [opLen, cx_und, Try.underlying112]; rfl
  · simp only [opLen, cx_und, Try.underlying112]

theorem BigS.at {σ : St} {v : Value} {D : List Nat} (h : BigS σ v D) {i d : Nat} (hi : D[i]? = some d) : ∃ b sp cap vs ro, v = .slice (some ⟨b, 0, some sp⟩) D.length cap ∧ b < σ.next ∧ σ.get b = some (.cells vs ro) ∧ lget? vs i = some (.int .u32 (d : Int)) := by
  rcases h with ⟨_, rfl⟩ | ⟨b, sp, cap, G, ro, h1, _, _, h4, h5⟩
  · simp at hi
  · refine ⟨b, sp, cap, _, ro, h1, h4, h5, ?_⟩
    have hl := (List.getElem?_eq_some_iff.1 hi).1
    rw [lget?_eq, List.getElem?_append_left (by rw [dcells_length]; exact hl)]
    simp [dcells, hi, dv]

theorem slice_cut (b sp n cap : Nat) (hsp : sp = 0 ∨ sp = 3) (hc : n + 1 ≤ cap) :
    opSlice (cP Try.prog).T 112 (.slice (some ⟨b, 0, some sp⟩) (n + 1) cap) none (some (.int .i64 (n : Int))) none = some (.val (.slice (some ⟨b, 0, some sp⟩) n cap) []) := by
  have hbnd : bnd cap (.int .i64 (n : Int)) = some n := by
    simp only [bnd]
    rw [if_pos (by omega)]; simp
  have hsb : sbA (n + 1) cap none (some (.int .i64 (n : Int))) none = some (0, n, cap) := by
    delta sbA
    simp only [hbnd]
  have h0 : cap ≠ 0 := by omega
  have h1 : 0 < cap := by omega
  rcases hsp with rfl | rfl <;> simp only [opSlice, cx_und, cx_info, Try.underlying112, info112, Try.t112, Try.underlying154, info154, Try.t154, hsb] <;> simp [h0, h1]

/-- Where a slice leads. -/
def NewBlk (lo : Nat) (v : Value) : Prop := ∀ b o sp len cap, v = .slice (some ⟨b, o, sp⟩) len cap → lo ≤ b
/-- A slice of the same block. -/
def OfBlk (v v' : Value) : Prop := ∀ lo, NewBlk lo v → NewBlk lo v'

noncomputable def trimB : Code := Try.f85.body.getD .skip
noncomputable def trimC : Code := loopOf trimB

theorem trim_loop : ∀ (k : Nat) (D : List Nat) (v : Value) (σ : St) (ts : List Value), D.length < k → D.length ≤ 1000000 → BigS σ v D → Low D → ts.length = 21 → lget ts 0 = v →
    ∃ ts' v', DL Try.prog false trimC ⟨ts, []⟩ σ ⟨.exit 0, ⟨ts', []⟩, σ, []⟩ ∧ ts'.length = 21 ∧ lget ts' 0 = v' ∧ BigS σ v' (dig (val D)) ∧ OfBlk v v' := by
  intro k
  induction k with
  | zero => intro D v σ ts hk; omega
  | succ k ih =>
    intro D v σ ts hk hs B hL hl q0
    have ho := B.len
    rcases List.eq_nil_or_concat D with rfl | ⟨E, d, rfl⟩
    · have hz : ¬ (0 : Int) < (([] : List Nat).length : Int) := by simp
      refine ⟨_, v, DL.out (runs Orc.none_ok 30 nobt (by kernel_rfl) (r := ⟨.exit 0, ⟨_, []⟩, σ, []⟩) (by simp only [go_sem, Nat.reducePow, Nat.reduceDiv, Nat.reduceMod, Nat.reduceAdd, Nat.reduceSub, Nat.reduceMul, Nat.reduceLeDiff, Nat.reduceLT, Nat.reduceEqDiff, reduceCtorEq, reduceIte, reduceDIte, if_pos rfl, Int.reduceLT, Int.reduceLE, Int.reduceEq, Int.reduceNeg, Int.reduceAdd, Int.reduceSub, Int.reduceMul, Int.reduceToNat, trimC, trimB, loopOf, Option.getD, lget_put, lgetq_put, List.length_set, q0, hl, ho, hz, Int.natCast_zero, Int.lt_irrefl, Try.f85, Try.underlying3, info3, Try.t3, Try.underlying4, info4, Try.t4, Try.underlying112, info112, Try.t112, Try.underlying154, info154, Try.t154] <;> rfl)) rfl, ?_, ?_, ?_⟩
      · simp only [List.length_set, hl]
      · simp only [lget_put, List.length_set, q0, hl, Nat.reduceEqDiff, Nat.reduceLT, if_true, if_false]
      · exact ⟨B, fun _ h => h⟩
    · rw [List.concat_eq_append] at *
      have hlen : (E ++ [d]).length = E.length + 1 := by simp
      have hat : (E ++ [d])[E.length]? = some d := by simp
      obtain ⟨b, sp, cap, vs, ro, rfl, hb, hg, he⟩ := B.at hat
      rw [hlen] at ho q0
      have hz : (0 : Int) < ((E.length + 1 : Nat) : Int) := by omega
      have w1 : IntKind.i64.wrap (((E.length + 1 : Nat) : Int) - 1) = (E.length : Int) := by rw [IntKind.wrap_i64]; omega
      have c1 : (0 : Int) ≤ (E.length : Int) ∧ (E.length : Int) < ((E.length + 1 : Nat) : Int) := by omega
      by_cases hd : d = 0
      · subst hd
        have e0 : (((0 : Nat) : Int) == 0) = true := by decide
        obtain ⟨hsp, hcp⟩ : (sp = 0 ∨ sp = 3) ∧ E.length + 1 ≤ cap := by
          rcases B with ⟨h, _⟩ | ⟨b', sp', cap', G', ro', h1, h2, h3, _, _⟩
          · cases h
          · simp only [Value.slice.injEq, Option.some.injEq, Addr.mk.injEq] at h1
            obtain ⟨⟨_, _, rfl⟩, _, rfl⟩ := h1
            exact ⟨h2, by rw [hlen] at h3; exact h3⟩
        have hsl := slice_cut b sp E.length cap hsp hcp
        have B' : BigS σ (.slice (some ⟨b, 0, some sp⟩) E.length cap) E := by
          rcases B with ⟨h, _⟩ | ⟨b', sp', cap', G', ro', h1, h2, h3, h4, h5⟩
          · cases h
          · simp only [Value.slice.injEq, Option.some.injEq, Addr.mk.injEq] at h1
            obtain ⟨⟨rfl, _, rfl⟩, _, rfl⟩ := h1
            exact .inr ⟨b, sp, cap, dv 0 :: G', ro', rfl, h2, by omega, h4, by rw [h5, dcells_append]; simp [dcells]⟩
        obtain ⟨ts1, hr, l1, q1⟩ : ∃ ts1, DC Try.prog false trimC ⟨ts, []⟩ σ ⟨.norm, ⟨ts1, []⟩, σ, []⟩ ∧ ts1.length = 21 ∧ lget ts1 0 = .slice (some ⟨b, 0, some sp⟩) E.length cap := by
          refine ⟨_, runs Orc.none_ok 30 nobt (by kernel_rfl) (by simp only [go_sem, Nat.reducePow, Nat.reduceDiv, Nat.reduceMod, Nat.reduceAdd, Nat.reduceSub, Nat.reduceMul, Nat.reduceLeDiff, Nat.reduceLT, Nat.reduceEqDiff, reduceCtorEq, reduceIte, reduceDIte, if_pos rfl, Int.reduceLT, Int.reduceLE, Int.reduceEq, Int.reduceNeg, Int.reduceAdd, Int.reduceSub, Int.reduceMul, Int.reduceToNat, trimC, trimB, loopOf, Option.getD, lget_put, lgetq_put, List.length_set, q0, hl, ho, hz, w1, c1, hg, he, e0, hsl, Int.toNat_natCast, Try.f85, Try.underlying3, info3, Try.t3, Try.underlying4, info4, Try.t4, Try.underlying112, info112, Try.t112, Try.underlying154, info154, Try.t154] <;> rfl), ?_, ?_⟩
          · simp only [List.length_set, hl]
          · simp only [lget_put, List.length_set, q0, hl, Nat.reduceEqDiff, Nat.reduceLT, if_true, if_false]
        obtain ⟨ts', v', a1, a2, a3, a4, a5⟩ := ih E _ σ ts1 (by omega) (by omega) B' (fun x hx => hL x (by simp [hx])) l1 q1
        exact ⟨ts', v', DL.next hr rfl a1, a2, a3, by rw [val_cut]; exact a4, fun lo h => a5 lo fun b' o sp' len' cap' e => by
          cases e
          exact h _ _ _ _ _ rfl⟩
      · have e0 : ((d : Int) == 0) = false := by simpa using hd
        have hD : dig (val (E ++ [d])) = E ++ [d] := dig_val _ hL fun x hx => by simp at hx; omega
        refine ⟨_, _, DL.out (runs Orc.none_ok 30 nobt (by kernel_rfl) (r := ⟨.exit 0, ⟨_, []⟩, σ, []⟩) (by simp only [go_sem, Nat.reducePow, Nat.reduceDiv, Nat.reduceMod, Nat.reduceAdd, Nat.reduceSub, Nat.reduceMul, Nat.reduceLeDiff, Nat.reduceLT, Nat.reduceEqDiff, reduceCtorEq, reduceIte, reduceDIte, if_pos rfl, Int.reduceLT, Int.reduceLE, Int.reduceEq, Int.reduceNeg, Int.reduceAdd, Int.reduceSub, Int.reduceMul, Int.reduceToNat, trimC, trimB, loopOf, Option.getD, lget_put, lgetq_put, List.length_set, q0, hl, ho, hz, w1, c1, hg, he, e0, Int.toNat_natCast, Try.f85, Try.underlying3, info3, Try.t3, Try.underlying4, info4, Try.t4, Try.underlying112, info112, Try.t112, Try.underlying154, info154, Try.t154] <;> rfl)) rfl, ?_, rfl, ?_⟩
        · simp only [List.length_set, hl]
        · simp only [lget_put, List.length_set, q0, hl, Nat.reduceEqDiff, Nat.reduceLT, if_true, if_false]
          rw [hD]
          rw [hlen] at B
          exact ⟨B, fun lo h b' o sp' len' cap' e => by
            cases e
            exact h _ _ _ _ _ rfl⟩

theorem trim_call {D : List Nat} {v : Value} {σ : St} (hs : D.length ≤ 1000000) (B : BigS σ v D) (hL : Low D) : ∃ v', DCall Try.prog 85 [v] σ (.ret v') σ [] ∧ BigS σ v' (dig (val D)) ∧ OfBlk v v' := by
  obtain ⟨ts0, h0, l0, q0⟩ : ∃ ts0, start [v] Try.f85.ntmps = ⟨ts0, []⟩ ∧ ts0.length = 21 ∧ lget ts0 0 = v := ⟨(start [v] 21).ts, rfl, rfl, rfl⟩
  obtain ⟨ts1, r1, l1, q1⟩ : ∃ ts1, DC Try.prog false (nthC 0 trimB) ⟨ts0, []⟩ σ ⟨.norm, ⟨ts1, []⟩, σ, []⟩ ∧ ts1.length = 21 ∧ lget ts1 0 = v := by
    refine ⟨_, runs Orc.none_ok 30 nobt (by kernel_rfl) (by simp only [go_sem, Nat.reducePow, Nat.reduceDiv, Nat.reduceMod, Nat.reduceAdd, Nat.reduceSub, Nat.reduceMul, Nat.reduceLeDiff, Nat.reduceLT, Nat.reduceEqDiff, reduceCtorEq, reduceIte, reduceDIte, if_pos rfl, Int.reduceLT, Int.reduceLE, Int.reduceEq, Int.reduceNeg, Int.reduceAdd, Int.reduceSub, Int.reduceMul, Int.reduceToNat, trimB, nthC, Option.getD, lget_put, lgetq_put, List.length_set, q0, l0, Try.f85, Try.underlying3, info3, Try.t3, Try.underlying4, info4, Try.t4, Try.underlying112, info112, Try.t112, Try.underlying154, info154, Try.t154] <;> rfl), ?_, ?_⟩
    · simp only [List.length_set, l0]
    · simp only [lget_put, List.length_set, q0, l0, Nat.reduceEqDiff, Nat.reduceLT, if_true, if_false]
  obtain ⟨ts2, v', d2, l2, q2, B2⟩ := trim_loop (D.length + 1) D v σ ts1 (by omega) hs B hL l1 q1
  obtain ⟨ts3, r3, q3⟩ : ∃ ts3, DC Try.prog false (nthC 2 trimB) ⟨ts2, []⟩ σ ⟨.norm, ⟨ts3, []⟩, σ, []⟩ ∧ lget ts3 2 = v' := by
    refine ⟨_, runs Orc.none_ok 30 nobt (by kernel_rfl) (by simp only [go_sem, Nat.reducePow, Nat.reduceDiv, Nat.reduceMod, Nat.reduceAdd, Nat.reduceSub, Nat.reduceMul, Nat.reduceLeDiff, Nat.reduceLT, Nat.reduceEqDiff, reduceCtorEq, reduceIte, reduceDIte, if_pos rfl, Int.reduceLT, Int.reduceLE, Int.reduceEq, Int.reduceNeg, Int.reduceAdd, Int.reduceSub, Int.reduceMul, Int.reduceToNat, trimB, nthC, Option.getD, lget_put, lgetq_put, List.length_set, q2, l2, Try.f85, Try.underlying3, info3, Try.t3, Try.underlying4, info4, Try.t4, Try.underlying112, info112, Try.t112, Try.underlying154, info154, Try.t154] <;> rfl), ?_⟩
    simp only [lget_put, List.length_set, q2, l2, Nat.reduceEqDiff, Nat.reduceLT, if_true, if_false]
  refine ⟨v', callsD Try.func85 (rfl : Try.f85.body = some trimB) (h0 ▸ DC.seq r1 rfl (DC.seq (DC.block (DC.loop d2)) rfl (DC.seq r3 rfl (DC.ret _ _ _)))) ?_ rfl rfl, B2⟩
  simp only [endsA, Try.f85, resA, resList, resOne, q3, Option.map, RR.pre]

end Go.Ab

set_option linter.unusedSimpArgs false
set_option linter.unusedVariables false
namespace Go.Ab
open Go.Proofs

/-- A slice of digits that a call builds. -/
def OutS (σ : St) (lo : Nat) (v : Value) (D : List Nat) : Prop :=
  lo ≤ σ.next ∧ ((D = [] ∧ v = .slice none 0 0) ∨ ∃ b, lo ≤ b ∧ b < σ.next ∧ v = .slice (some ⟨b, 0, some 3⟩) D.length D.length ∧ σ.get b = some (.cells (dcells D) false))

theorem OutS.big {σ : St} {lo : Nat} {v : Value} {D : List Nat} (h : OutS σ lo v D) : BigS σ v D := by
  rcases h.2 with ⟨rfl, rfl⟩ | ⟨b, h1, h2, h3, h4⟩
  · exact BigS.nil σ
  · exact .inr ⟨b, 3, D.length, [], false, h3, .inr rfl, Nat.le_refl _, h2, by rw [h4, List.append_nil]⟩

theorem OutS.new {σ : St} {lo : Nat} {v : Value} {D : List Nat} (h : OutS σ lo v D) : NewBlk lo v := fun b o sp len cap e => by
  rcases h.2 with ⟨_, rfl⟩ | ⟨b', h1, _, rfl, _⟩
  · cases e
  · cases e; exact h1

theorem append_digit_nil {σ : St} {b d : Nat} (hg : σ.get b = some (.cells [.int .u32 (d : Int)] false)) :
    opAppend (cP Try.prog).T σ 112 112 (.slice none 0 0) (.slice (some ⟨b, 0, some 0⟩) 1 1) = some (.new (.cells [.int .u32 (d : Int)] false) (.slice (some ⟨σ.next, 0, some 3⟩) 1 1) [b]) := by
  have h112 : (cP Try.prog).T.und 112 = some (.slice 154) := (cx_und 112).trans Try.underlying112
  have h154 : (cP Try.prog).T.info 154 = some Try.t154 := (cx_info 154).trans info154
  simp only [opAppend, h112, h154, srcLen, Try.t154, srcCells, hg]
  simp [isSeqD, oneCells, plain, plainL, vcells]

theorem append_digit {σ : St} {a b d : Nat} {D : List Nat} (hab : σ.get a = some (.cells (dcells D) false)) (hg : σ.get b = some (.cells [.int .u32 (d : Int)] false)) (sm : D.length ≤ 1000000) :
    opAppend (cP Try.prog).T σ 112 112 (.slice (some ⟨a, 0, some 3⟩) D.length D.length) (.slice (some ⟨b, 0, some 0⟩) 1 1) =
      some (.eff (.slice (some ⟨σ.next, 0, some 3⟩) (D.length + 1) (D.length + 1)) ((σ.new (.cells (dcells (D ++ [d])) false)).put a none) [a]) := by
  have h112 : (cP Try.prog).T.und 112 = some (.slice 154) := (cx_und 112).trans Try.underlying112
  have h154 : (cP Try.prog).T.info 154 = some Try.t154 := (cx_info 154).trans info154
  have l3 : ¬ 4294967296 ≤ D.length := by omega
  have tk : (dcells D).take D.length = dcells D := List.take_of_length_le (by rw [dcells_length]; exact Nat.le_refl _)
  have ap : dcells (D ++ [d]) = dcells D ++ [.int .u32 (d : Int)] := by rw [dcells_append]; rfl
  rw [ap]
  simp only [opAppend, h112, h154, srcLen, Try.t154, srcCells, hg, hab]
  simp [isSeqD, oneCells, plain, plainL, vcells, l3, tk, dcells_length]

/-- What stands behind a digit more. -/
theorem OutS.more {σ : St} {lo : Nat} {v : Value} {D : List Nat} (h : OutS σ lo v D) (d : Nat) (sm : D.length ≤ 1000000) :
    ∃ σ' v' l r, opAppend (cP Try.prog).T (σ.new (.cells [.int .u32 (d : Int)] false)) 112 112 v (.slice (some ⟨σ.next, 0, some 0⟩) 1 1) = some r ∧
      (∀ (orc : Orc) (dst : Option Tmp) (fr : Fr) (lg : Log) (k : OpsK), opsK orc false dst fr (σ.new (.cells [.int .u32 (d : Int)] false)) lg k (some r) = k (fr.put dst v') σ' (lg ++ l)) ∧ From lo l ∧ OutS σ' lo v' (D ++ [d]) := by
  obtain ⟨h0, h⟩ := h
  have hg : (σ.new (.cells [.int .u32 (d : Int)] false)).get σ.next = some (.cells [.int .u32 (d : Int)] false) := by rw [St.get_new, if_pos rfl]
  rcases h with ⟨rfl, rfl⟩ | ⟨b, h1, h2, rfl, h4⟩
  · refine ⟨(σ.new (.cells [.int .u32 (d : Int)] false)).new (.cells [.int .u32 (d : Int)] false), _, [], _, append_digit_nil hg, fun _ _ _ lg _ => by rw [opsK_new, List.append_nil]; rfl, From.nil, ?_, .inr ⟨σ.next + 1, by omega, ?_, rfl, ?_⟩⟩
    · show lo ≤ σ.next + 1 + 1; omega
    · show σ.next + 1 < σ.next + 1 + 1; omega
    · rw [St.get_new, if_pos (by rfl)]; rfl
  · have hb : (σ.new (.cells [.int .u32 (d : Int)] false)).get b = some (.cells (dcells D) false) := by rw [St.get_new, if_neg (by omega)]; exact h4
    refine ⟨((σ.new (.cells [.int .u32 (d : Int)] false)).new (.cells (dcells (D ++ [d])) false)).put b none, _, [b], _, append_digit hb hg sm, fun _ _ _ _ _ => by rw [opsK_eff], fun c hc => ?_, ?_, .inr ⟨σ.next + 1, by omega, ?_, ?_, ?_⟩⟩
    · simp at hc; omega
    · show lo ≤ σ.next + 1 + 1; omega
    · show σ.next + 1 < σ.next + 1 + 1; omega
    · simp
    · rw [St.get_put, if_neg (by omega), St.get_new, if_pos (by rfl)]

end Go.Ab

set_option linter.unusedSimpArgs false
set_option linter.unusedVariables false
namespace Go.Ab
open Go.Proofs

noncomputable def ofB : Code := Try.f55.body.getD .skip
noncomputable def ofC : Code := loopOf ofB

set_option maxRecDepth 20000 in
theorem of_loop {lo : Nat} : ∀ (k n : Nat) (D : List Nat) (v : Value) (σ : St) (ts : List Value), n < k → n < 18446744073709551616 → D.length + (dig n).length ≤ 1000000 → OutS σ lo v D → ts.length = 15 → lget ts 0 = .int .u64 n → lget ts 3 = v →
    ∃ σ' lg ts' v', DL Try.prog false ofC ⟨ts, []⟩ σ ⟨.exit 0, ⟨ts', []⟩, σ', lg⟩ ∧ ts'.length = 15 ∧ lget ts' 3 = v' ∧ OutS σ' lo v' (D ++ dig n) ∧ From lo lg := by
  intro k
  induction k with
  | zero => intro n D v σ ts hk; omega
  | succ k ih =>
    intro n D v σ ts hk hn hs O hl q0 q3
    by_cases h0 : n = 0
    · subst h0
      refine ⟨σ, [], _, v, DL.out (runs Orc.none_ok 30 nobt (by kernel_rfl) (r := ⟨.exit 0, ⟨_, []⟩, σ, []⟩) (by simp only [go_sem, Nat.reducePow, Nat.reduceDiv, Nat.reduceMod, Nat.reduceAdd, Nat.reduceSub, Nat.reduceMul, Nat.reduceLeDiff, Nat.reduceLT, Nat.reduceEqDiff, reduceCtorEq, reduceIte, reduceDIte, if_pos rfl, Int.reduceLT, Int.reduceLE, Int.reduceEq, Int.reduceNeg, Int.reduceAdd, Int.reduceSub, Int.reduceMul, Int.reduceToNat, ofC, ofB, loopOf, Option.getD, lget_put, lgetq_put, List.length_set, q0, q3, hl, Int.natCast_zero, Int.lt_irrefl, Try.f55, Try.underlying3, info3, Try.t3, Try.underlying4, info4, Try.t4, Try.underlying112, info112, Try.t112, Try.underlying115, info115, Try.t115, Try.underlying154, info154, Try.t154] <;> rfl)) rfl, ?_, ?_, ?_, From.nil⟩
      · simp only [List.length_set, hl]
      · simp only [lget_put, List.length_set, q3, hl, Nat.reduceEqDiff, Nat.reduceLT, if_true, if_false]
      · rw [dig_zero, List.append_nil]; exact O
    · have hd := dig_pos (n := n) (by omega)
      rw [hd, List.length_cons] at hs
      obtain ⟨σ1, v1, l1, r1, hap, hk1, hf, O1⟩ := O.more (n % 65536) (by omega)
      have b0 : (0 : Int) < (n : Int) := by omega
      have e1 : (n : Int).tmod 65536 = ((n % 65536 : Nat) : Int) := by rw [Int.tmod_eq_emod_of_nonneg (by omega)]; rfl
      have e2 : (n : Int).tdiv 65536 = ((n / 65536 : Nat) : Int) := by rw [Int.tdiv_eq_ediv_of_nonneg (by omega)]; rfl
      have w1 : IntKind.u64.wrap ((n % 65536 : Nat) : Int) = ((n % 65536 : Nat) : Int) := by rw [IntKind.wrap_u64]; omega
      have w2 : IntKind.u64.wrap ((n / 65536 : Nat) : Int) = ((n / 65536 : Nat) : Int) := by rw [IntKind.wrap_u64]; omega
      have w3 : IntKind.u32.wrap ((n % 65536 : Nat) : Int) = ((n % 65536 : Nat) : Int) := by rw [IntKind.wrap_u32]; omega
      obtain ⟨ts1, hr, hl1, p0, p3⟩ : ∃ ts1, DC Try.prog false ofC ⟨ts, []⟩ σ ⟨.norm, ⟨ts1, []⟩, σ1, l1⟩ ∧ ts1.length = 15 ∧ lget ts1 0 = .int .u64 (n / 65536 : Nat) ∧ lget ts1 3 = v1 := by
        refine ⟨_, runs Orc.none_ok 30 nobt (by kernel_rfl) (by simp only [go_sem, Nat.reducePow, Nat.reduceDiv, Nat.reduceMod, Nat.reduceAdd, Nat.reduceSub, Nat.reduceMul, Nat.reduceLeDiff, Nat.reduceLT, Nat.reduceEqDiff, reduceCtorEq, reduceIte, reduceDIte, if_pos rfl, Int.reduceLT, Int.reduceLE, Int.reduceEq, Int.reduceNeg, Int.reduceAdd, Int.reduceSub, Int.reduceMul, Int.reduceToNat, ofC, ofB, loopOf, Option.getD, lget_put, lgetq_put, List.length_set, q0, q3, hl, b0, e1, e2, w1, w2, w3, zerosN, hap, hk1, Try.f55, Try.underlying3, info3, Try.t3, Try.underlying4, info4, Try.t4, Try.underlying112, info112, Try.t112, Try.underlying115, info115, Try.t115, Try.underlying154, info154, Try.t154] <;> rfl), ?_, ?_, ?_⟩
        · simp only [List.length_set, hl]
        · simp only [lget_put, List.length_set, q0, q3, hl, Nat.reduceEqDiff, Nat.reduceLT, if_true, if_false]
        · simp only [lget_put, List.length_set, q0, q3, hl, Nat.reduceEqDiff, Nat.reduceLT, if_true, if_false]
      obtain ⟨σ', lg, ts', v', a1, a2, a3, a4, a5⟩ := ih (n / 65536) _ v1 σ1 ts1 (by omega) (by omega) (by simp; omega) O1 hl1 p0 p3
      refine ⟨σ', l1 ++ lg, ts', v', DL.next hr rfl a1, a2, a3, ?_, hf.append a5⟩
      rw [hd]
      simpa using a4

end Go.Ab

set_option linter.unusedSimpArgs false
set_option linter.unusedVariables false
namespace Go.Ab
open Go.Proofs

theorem DCall.fresh {f : FuncId} {args : List Value} {σ σ' : St} {e : AE} {lg : Log} (h : DCall Try.prog f args σ e σ' lg) (hf : From σ.next lg) : DCall Try.prog f args σ e σ' [] :=
  DCall.weaken2 h fun c hc hlt => absurd (hf c hc) (by omega)

theorem of_call {n : Nat} (hn : n < 18446744073709551616) (σ : St) : ∃ σ' v, DCall Try.prog 55 [.int .u64 n] σ (.ret v) σ' [] ∧ BigS σ' v (dig n) ∧ NewBlk σ.next v := by
  obtain ⟨ts0, h0, l0, q0⟩ : ∃ ts0, start [.int .u64 n] Try.f55.ntmps = ⟨ts0, []⟩ ∧ ts0.length = 15 ∧ lget ts0 0 = .int .u64 n := ⟨(start [.int .u64 n] 15).ts, rfl, rfl, rfl⟩
  have hl : (dig n).length ≤ 4 := dig_length_le (by omega)
  obtain ⟨ts1, r1, l1, q1, q3⟩ : ∃ ts1, DC Try.prog false (nthC 0 ofB) ⟨ts0, []⟩ σ ⟨.norm, ⟨ts1, []⟩, σ, []⟩ ∧ ts1.length = 15 ∧ lget ts1 0 = .int .u64 n ∧ True := by
    refine ⟨_, runs Orc.none_ok 30 nobt (by kernel_rfl) (by simp only [go_sem, Nat.reducePow, Nat.reduceDiv, Nat.reduceMod, Nat.reduceAdd, Nat.reduceSub, Nat.reduceMul, Nat.reduceLeDiff, Nat.reduceLT, Nat.reduceEqDiff, reduceCtorEq, reduceIte, reduceDIte, if_pos rfl, Int.reduceLT, Int.reduceLE, Int.reduceEq, Int.reduceNeg, Int.reduceAdd, Int.reduceSub, Int.reduceMul, Int.reduceToNat, ofB, nthC, Option.getD, lget_put, lgetq_put, List.length_set, q0, l0, Try.f55, Try.underlying3, info3, Try.t3, Try.underlying4, info4, Try.t4, Try.underlying112, info112, Try.t112, Try.underlying154, info154, Try.t154] <;> rfl), ?_, ?_, trivial⟩
    · simp only [List.length_set, l0]
    · simp only [lget_put, List.length_set, q0, l0, Nat.reduceEqDiff, Nat.reduceLT, if_true, if_false]
  obtain ⟨ts2, r2, l2, p0, p3⟩ : ∃ ts2, DC Try.prog false (nthC 1 ofB) ⟨ts1, []⟩ σ ⟨.norm, ⟨ts2, []⟩, σ, []⟩ ∧ ts2.length = 15 ∧ lget ts2 0 = .int .u64 n ∧ lget ts2 3 = .slice none 0 0 := by
    refine ⟨_, runs Orc.none_ok 30 nobt (by kernel_rfl) (by simp only [go_sem, Nat.reducePow, Nat.reduceDiv, Nat.reduceMod, Nat.reduceAdd, Nat.reduceSub, Nat.reduceMul, Nat.reduceLeDiff, Nat.reduceLT, Nat.reduceEqDiff, reduceCtorEq, reduceIte, reduceDIte, if_pos rfl, Int.reduceLT, Int.reduceLE, Int.reduceEq, Int.reduceNeg, Int.reduceAdd, Int.reduceSub, Int.reduceMul, Int.reduceToNat, ofB, nthC, Option.getD, lget_put, lgetq_put, List.length_set, q1, l1, Try.f55, Try.underlying3, info3, Try.t3, Try.underlying4, info4, Try.t4, Try.underlying112, info112, Try.t112, Try.underlying154, info154, Try.t154] <;> rfl), ?_, ?_, ?_⟩
    · simp only [List.length_set, l1]
    · simp only [lget_put, List.length_set, q1, l1, Nat.reduceEqDiff, Nat.reduceLT, if_true, if_false]
    · simp only [lget_put, List.length_set, q1, l1, Nat.reduceEqDiff, Nat.reduceLT, if_true, if_false]
  obtain ⟨σ3, lg3, ts3, v, d3, l3, p3', O3, f3⟩ := of_loop (n + 1) n [] _ σ ts2 (by omega) hn (by simp; omega) ⟨Nat.le_refl _, .inl ⟨rfl, rfl⟩⟩ l2 p0 p3
  obtain ⟨ts4, r4, p2⟩ : ∃ ts4, DC Try.prog false (nthC 3 ofB) ⟨ts3, []⟩ σ3 ⟨.norm, ⟨ts4, []⟩, σ3, []⟩ ∧ lget ts4 2 = v := by
    refine ⟨_, runs Orc.none_ok 30 nobt (by kernel_rfl) (by simp only [go_sem, Nat.reducePow, Nat.reduceDiv, Nat.reduceMod, Nat.reduceAdd, Nat.reduceSub, Nat.reduceMul, Nat.reduceLeDiff, Nat.reduceLT, Nat.reduceEqDiff, reduceCtorEq, reduceIte, reduceDIte, if_pos rfl, Int.reduceLT, Int.reduceLE, Int.reduceEq, Int.reduceNeg, Int.reduceAdd, Int.reduceSub, Int.reduceMul, Int.reduceToNat, ofB, nthC, Option.getD, lget_put, lgetq_put, List.length_set, p3', l3, Try.f55, Try.underlying3, info3, Try.t3, Try.underlying4, info4, Try.t4, Try.underlying112, info112, Try.t112, Try.underlying154, info154, Try.t154] <;> rfl), ?_⟩
    simp only [lget_put, List.length_set, p3', l3, Nat.reduceEqDiff, Nat.reduceLT, if_true, if_false]
  refine ⟨σ3, v, DCall.fresh (callsD Try.func55 (rfl : Try.f55.body = some ofB) (h0 ▸ DC.seq r1 rfl (DC.seq r2 rfl (DC.seq (DC.block (DC.loop d3)) rfl (DC.seq r4 rfl (DC.ret _ _ _))))) ?_ rfl rfl) ?_, by simpa using O3.big, O3.new⟩
  · simp only [endsA, Try.f55, resA, resList, resOne, p2, Option.map, RR.pre]
  · exact From.nil.append (From.nil.append (f3.append (From.nil.append From.nil)))

/-! ### Less -/
theorem dig_len_lt {a b : Nat} (h : (dig a).length < (dig b).length) : a < b := by
  rcases Nat.lt_or_ge a b with h1 | h1
  · exact h1
  · have h2 := val_lt _ (dig_low a)
    rw [val_dig] at h2
    have := dig_length_le (Nat.lt_of_le_of_lt h1 h2)
    omega

theorem val_top {D E T : List Nat} {x y : Nat} (hD : Low D) (hl : D.length = E.length) (h : x < y) : val (D ++ x :: T) < val (E ++ y :: T) := by
  rw [val_append, val_append, hl, val, val]
  have h1 := val_lt D hD
  rw [hl] at h1
  have h2 : 65536 ^ E.length * (x + 65536 * val T) + 65536 ^ E.length ≤ 65536 ^ E.length * (y + 65536 * val T) := by
    rw [← Nat.mul_succ]
    exact Nat.mul_le_mul_left _ (by omega)
  omega

def bt57 : Nat → List Nat
  | 6 => [0, 0, 3, 7, 0, 0, 48, 112, 255]
  | 7 => [0, 0, 3, 7, 0, 0, 48, 112, 255, 511]
  | _ => []

noncomputable def lessB : Code := Try.f57.body.getD .skip
noncomputable def lessC : Code := loopOf lessB

theorem less_loop {A B : Nat} {v w : Value} {σ : St} (hA : BigS σ v (dig A)) (hB : BigS σ w (dig B)) (hlen : (dig A).length = (dig B).length) (hs : (dig A).length ≤ 1000000) :
    ∀ (k : Nat) (D E T : List Nat) (ts : List Value), D.length < k → dig A = D ++ T → dig B = E ++ T → ts.length = 41 → lget ts 0 = v → lget ts 1 = w → lget ts 5 = .int .i64 ((D.length : Int) - 1) →
    ∃ x ts', DL Try.prog false lessC ⟨ts, []⟩ σ ⟨x, ⟨ts', []⟩, σ, []⟩ ∧ ts'.length = 41 ∧ ((x = .ret ∧ lget ts' 4 = .bool (decide (A < B))) ∨ (x = .exit 0 ∧ A = B)) := by
  intro k
  induction k with
  | zero => intro D E T ts hk; omega
  | succ k ih =>
    intro D E T ts hk eA eB hl q0 q1 q5
    have hDE : D.length = E.length := by
      rw [eA, eB] at hlen
      simp at hlen; exact hlen
    rcases List.eq_nil_or_concat D with rfl | ⟨D', x, rfl⟩
    · obtain rfl : E = [] := List.eq_nil_of_length_eq_zero hDE.symm
      have hAB : A = B := by
        rw [← val_dig A, ← val_dig B, eA, eB]
      have b1 : ¬ (0 : Int) ≤ (([] : List Nat).length : Int) - 1 := by simp
      refine ⟨_, _, DL.out (runs Orc.none_ok 30 bt57 (by kernel_rfl) (r := ⟨.exit 0, ⟨_, []⟩, σ, []⟩) (by simp only [go_sem, Nat.reducePow, Nat.reduceDiv, Nat.reduceMod, Nat.reduceAdd, Nat.reduceSub, Nat.reduceMul, Nat.reduceLeDiff, Nat.reduceLT, Nat.reduceEqDiff, reduceCtorEq, reduceIte, reduceDIte, if_pos rfl, Int.reduceLT, Int.reduceLE, Int.reduceEq, Int.reduceNeg, Int.reduceAdd, Int.reduceSub, Int.reduceMul, Int.reduceToNat, lessC, lessB, loopOf, Option.getD, lget_put, lgetq_put, List.length_set, q0, q1, q5, hl, b1, Try.f57, Try.underlying3, info3, Try.t3, Try.underlying4, info4, Try.t4, Try.underlying112, info112, Try.t112, Try.underlying115, info115, Try.t115, Try.underlying154, info154, Try.t154] <;> rfl)) rfl, ?_, .inr ⟨rfl, hAB⟩⟩
      simp only [List.length_set, hl]
    · rw [List.concat_eq_append] at *
      rcases List.eq_nil_or_concat E with rfl | ⟨E', y, rfl⟩
      · simp at hDE
      rw [List.concat_eq_append] at *
      simp only [List.length_append, List.length_singleton] at hDE hk q5
      have hl' : D'.length = E'.length := by omega
      have atA : (dig A)[D'.length]? = some x := by rw [eA]; simp
      have atB : (dig B)[D'.length]? = some y := by rw [eB, hl']; simp
      obtain ⟨b, sp, cap, vs, ro, rfl, hb, hg, he⟩ := hA.at atA
      obtain ⟨b', sp', cap', vs', ro', rfl, hb', hg', he'⟩ := hB.at atB
      have e5 : (((D'.length + 1 : Nat) : Int)) - 1 = (D'.length : Int) := by omega
      rw [e5] at q5
      have iA := (List.getElem?_eq_some_iff.1 atA).1
      have iB := (List.getElem?_eq_some_iff.1 atB).1
      have c0 : (0 : Int) ≤ (D'.length : Int) := by omega
      have nb : ¬ σ.next ≤ b := by omega
      have nb' : ¬ σ.next ≤ b' := by omega
      have c1 : (0 : Int) ≤ (D'.length : Int) ∧ (D'.length : Int) < ((dig A).length : Int) := by omega
      have c2 : (0 : Int) ≤ (D'.length : Int) ∧ (D'.length : Int) < ((dig B).length : Int) := by omega
      have lowA : Low D' := fun z hz => dig_low A z (by rw [eA]; simp [hz])
      have lowB : Low E' := fun z hz => dig_low B z (by rw [eB]; simp [hz])
      by_cases hxy : x = y
      · subst hxy
        have e0 : ((x : Int) != (x : Int)) = false := by simp
        have w1 : IntKind.i64.wrap ((D'.length : Int) - 1) = (D'.length : Int) - 1 := by rw [IntKind.wrap_i64]; omega
        obtain ⟨ts1, hr, hl1, p0, p1, p5⟩ : ∃ ts1, DC Try.prog false lessC ⟨ts, []⟩ σ ⟨.norm, ⟨ts1, []⟩, σ, []⟩ ∧ ts1.length = 41 ∧ lget ts1 0 = .slice (some ⟨b, 0, some sp⟩) (dig A).length cap ∧ lget ts1 1 = .slice (some ⟨b', 0, some sp'⟩) (dig B).length cap' ∧ lget ts1 5 = .int .i64 ((D'.length : Int) - 1) := by
          refine ⟨_, runs Orc.none_ok 30 bt57 (by kernel_rfl) (by simp only [go_sem, Nat.reducePow, Nat.reduceDiv, Nat.reduceMod, Nat.reduceAdd, Nat.reduceSub, Nat.reduceMul, Nat.reduceLeDiff, Nat.reduceLT, Nat.reduceEqDiff, reduceCtorEq, reduceIte, reduceDIte, if_pos rfl, Int.reduceLT, Int.reduceLE, Int.reduceEq, Int.reduceNeg, Int.reduceAdd, Int.reduceSub, Int.reduceMul, Int.reduceToNat, bt57, lessC, lessB, loopOf, Option.getD, lget_put, lgetq_put, List.length_set, q0, q1, q5, hl, c0, c1, c2, nb, nb', hg, he, hg', he', e0, w1, Int.toNat_natCast, Try.f57, Try.underlying3, info3, Try.t3, Try.underlying4, info4, Try.t4, Try.underlying112, info112, Try.t112, Try.underlying115, info115, Try.t115, Try.underlying154, info154, Try.t154] <;> rfl), ?_, ?_, ?_, ?_⟩
          · simp only [List.length_set, hl]
          · simp only [lget_put, List.length_set, q0, hl, Nat.reduceEqDiff, Nat.reduceLT, if_true, if_false]
          · simp only [lget_put, List.length_set, q1, hl, Nat.reduceEqDiff, Nat.reduceLT, if_true, if_false]
          · simp only [lget_put, List.length_set, hl, Nat.reduceEqDiff, Nat.reduceLT, if_true, if_false]
        obtain ⟨z, ts', a1, a2, a3⟩ := ih D' E' (x :: T) ts1 (by omega) (by rw [eA]; simp) (by rw [eB]; simp) hl1 p0 p1 p5
        exact ⟨z, ts', DL.next hr rfl a1, a2, a3⟩
      · have e0 : ((x : Int) != (y : Int)) = true := by simp; omega
        have hcmp : decide ((x : Int) < (y : Int)) = decide (A < B) := by
          have : (x : Int) < (y : Int) ↔ A < B := by
            rw [← val_dig A, ← val_dig B, eA, eB, List.append_assoc, List.append_assoc]
            constructor
            · intro h
              exact val_top lowA hl' (by omega)
            · intro h
              rcases Nat.lt_or_ge x y with h1 | h1
              · omega
              · have := val_top (T := T) lowB hl'.symm (by omega : y < x)
                simp at h; omega
          simp [this]
        refine ⟨_, _, DL.out (runs Orc.none_ok 30 bt57 (by kernel_rfl) (r := ⟨.ret, ⟨_, []⟩, σ, []⟩) (by simp only [go_sem, Nat.reducePow, Nat.reduceDiv, Nat.reduceMod, Nat.reduceAdd, Nat.reduceSub, Nat.reduceMul, Nat.reduceLeDiff, Nat.reduceLT, Nat.reduceEqDiff, reduceCtorEq, reduceIte, reduceDIte, if_pos rfl, Int.reduceLT, Int.reduceLE, Int.reduceEq, Int.reduceNeg, Int.reduceAdd, Int.reduceSub, Int.reduceMul, Int.reduceToNat, bt57, lessC, lessB, loopOf, Option.getD, lget_put, lgetq_put, List.length_set, q0, q1, q5, hl, c0, c1, c2, nb, nb', hg, he, hg', he', e0, hcmp, Int.toNat_natCast, Try.f57, Try.underlying3, info3, Try.t3, Try.underlying4, info4, Try.t4, Try.underlying112, info112, Try.t112, Try.underlying115, info115, Try.t115, Try.underlying154, info154, Try.t154] <;> rfl)) rfl, ?_, .inl ⟨rfl, ?_⟩⟩
        · simp only [List.length_set, hl]
        · simp only [lget_put, List.length_set, hl, Nat.reduceEqDiff, Nat.reduceLT, if_true, if_false]

end Go.Ab

set_option linter.unusedSimpArgs false
set_option linter.unusedVariables false
namespace Go.Ab
open Go.Proofs

theorem less_call' {A B : Nat} {v w : Value} {σ : St} (hA : BigS σ v (dig A)) (hB : BigS σ w (dig B)) (sA : (dig A).length ≤ 1000000) (sB : (dig B).length ≤ 1000000) : DCall Try.prog 57 [v, w] σ (.ret (.bool (decide (A < B)))) σ [] := by
  obtain ⟨ts0, h0, l0, q0, q1⟩ : ∃ ts0, start [v, w] Try.f57.ntmps = ⟨ts0, []⟩ ∧ ts0.length = 41 ∧ lget ts0 0 = v ∧ lget ts0 1 = w := ⟨(start [v, w] 41).ts, rfl, rfl, rfl, rfl⟩
  have oA := hA.len
  have oB := hB.len
  obtain ⟨ts1, r1, l1, p0, p1⟩ : ∃ ts1, DC Try.prog false (nthC 0 lessB) ⟨ts0, []⟩ σ ⟨.norm, ⟨ts1, []⟩, σ, []⟩ ∧ ts1.length = 41 ∧ lget ts1 0 = v ∧ lget ts1 1 = w := by
    refine ⟨_, runs Orc.none_ok 30 nobt (by kernel_rfl) (by simp only [go_sem, Nat.reducePow, Nat.reduceDiv, Nat.reduceMod, Nat.reduceAdd, Nat.reduceSub, Nat.reduceMul, Nat.reduceLeDiff, Nat.reduceLT, Nat.reduceEqDiff, reduceCtorEq, reduceIte, reduceDIte, if_pos rfl, Int.reduceLT, Int.reduceLE, Int.reduceEq, Int.reduceNeg, Int.reduceAdd, Int.reduceSub, Int.reduceMul, Int.reduceToNat, lessB, nthC, Option.getD, lget_put, lgetq_put, List.length_set, q0, q1, l0, Try.f57, Try.underlying3, info3, Try.t3, Try.underlying4, info4, Try.t4, Try.underlying112, info112, Try.t112, Try.underlying154, info154, Try.t154] <;> rfl), ?_, ?_, ?_⟩
    · simp only [List.length_set, l0]
    · simp only [lget_put, List.length_set, q0, l0, Nat.reduceEqDiff, Nat.reduceLT, if_true, if_false]
    · simp only [lget_put, List.length_set, q1, l0, Nat.reduceEqDiff, Nat.reduceLT, if_true, if_false]
  by_cases hl : (dig A).length = (dig B).length
  · have e1 : (((dig A).length : Int) != ((dig B).length : Int)) = false := by simp [hl]
    obtain ⟨ts2, r2, l2, p0, p1⟩ : ∃ ts2, DC Try.prog false (nthC 1 lessB) ⟨ts1, []⟩ σ ⟨.norm, ⟨ts2, []⟩, σ, []⟩ ∧ ts2.length = 41 ∧ lget ts2 0 = v ∧ lget ts2 1 = w := by
      refine ⟨_, runs Orc.none_ok 30 nobt (by kernel_rfl) (by simp only [go_sem, Nat.reducePow, Nat.reduceDiv, Nat.reduceMod, Nat.reduceAdd, Nat.reduceSub, Nat.reduceMul, Nat.reduceLeDiff, Nat.reduceLT, Nat.reduceEqDiff, reduceCtorEq, reduceIte, reduceDIte, if_pos rfl, Int.reduceLT, Int.reduceLE, Int.reduceEq, Int.reduceNeg, Int.reduceAdd, Int.reduceSub, Int.reduceMul, Int.reduceToNat, lessB, nthC, Option.getD, lget_put, lgetq_put, List.length_set, p0, p1, l1, oA, oB, e1, Try.f57, Try.underlying3, info3, Try.t3, Try.underlying4, info4, Try.t4, Try.underlying112, info112, Try.t112, Try.underlying154, info154, Try.t154] <;> rfl), ?_, ?_, ?_⟩
      · simp only [List.length_set, l1]
      · simp only [lget_put, List.length_set, p0, l1, Nat.reduceEqDiff, Nat.reduceLT, if_true, if_false]
      · simp only [lget_put, List.length_set, p1, l1, Nat.reduceEqDiff, Nat.reduceLT, if_true, if_false]
    have w1 : IntKind.i64.wrap (((dig A).length : Int) - 1) = ((dig A).length : Int) - 1 := by rw [IntKind.wrap_i64]; omega
    obtain ⟨ts3, r3, l3, p0, p1, p5⟩ : ∃ ts3, DC Try.prog false (nthC 0 (nthC 2 lessB)) ⟨ts2, []⟩ σ ⟨.norm, ⟨ts3, []⟩, σ, []⟩ ∧ ts3.length = 41 ∧ lget ts3 0 = v ∧ lget ts3 1 = w ∧ lget ts3 5 = .int .i64 (((dig A).length : Int) - 1) := by
      refine ⟨_, runs Orc.none_ok 30 nobt (by kernel_rfl) (by simp only [go_sem, Nat.reducePow, Nat.reduceDiv, Nat.reduceMod, Nat.reduceAdd, Nat.reduceSub, Nat.reduceMul, Nat.reduceLeDiff, Nat.reduceLT, Nat.reduceEqDiff, reduceCtorEq, reduceIte, reduceDIte, if_pos rfl, Int.reduceLT, Int.reduceLE, Int.reduceEq, Int.reduceNeg, Int.reduceAdd, Int.reduceSub, Int.reduceMul, Int.reduceToNat, lessB, nthC, Option.getD, lget_put, lgetq_put, List.length_set, p0, p1, l2, oA, oB, w1, Try.f57, Try.underlying3, info3, Try.t3, Try.underlying4, info4, Try.t4, Try.underlying112, info112, Try.t112, Try.underlying154, info154, Try.t154] <;> rfl), ?_, ?_, ?_, ?_⟩
      · simp only [List.length_set, l2]
      · simp only [lget_put, List.length_set, p0, l2, Nat.reduceEqDiff, Nat.reduceLT, if_true, if_false]
      · simp only [lget_put, List.length_set, p1, l2, Nat.reduceEqDiff, Nat.reduceLT, if_true, if_false]
      · simp only [lget_put, List.length_set, l2, Nat.reduceEqDiff, Nat.reduceLT, if_true, if_false]
    obtain ⟨x, ts4, d4, l4, hx⟩ := less_loop hA hB hl sA ((dig A).length + 1) (dig A) (dig B) [] ts3 (by omega) (by simp) (by simp) l3 p0 p1 p5
    rcases hx with ⟨rfl, p4⟩ | ⟨rfl, rfl⟩
    · refine callsD Try.func57 (rfl : Try.f57.body = some lessB) (h0 ▸ DC.seq r1 rfl (DC.seq r2 rfl (DC.seq_out (DC.seq r3 rfl (DC.block (DC.loop d4))) rfl))) ?_ rfl rfl
      simp only [endsA, Try.f57, resA, resList, resOne, p4, Option.map, RR.pre, AX.inBlock]
    · obtain ⟨ts5, r5, p4⟩ : ∃ ts5, DC Try.prog false (nthC 3 lessB) ⟨ts4, []⟩ σ ⟨.norm, ⟨ts5, []⟩, σ, []⟩ ∧ lget ts5 4 = .bool false := by
        refine ⟨_, runs Orc.none_ok 30 nobt (by kernel_rfl) (by simp only [go_sem, Nat.reducePow, Nat.reduceDiv, Nat.reduceMod, Nat.reduceAdd, Nat.reduceSub, Nat.reduceMul, Nat.reduceLeDiff, Nat.reduceLT, Nat.reduceEqDiff, reduceCtorEq, reduceIte, reduceDIte, if_pos rfl, Int.reduceLT, Int.reduceLE, Int.reduceEq, Int.reduceNeg, Int.reduceAdd, Int.reduceSub, Int.reduceMul, Int.reduceToNat, lessB, nthC, Option.getD, lget_put, lgetq_put, List.length_set, l4, Try.f57, Try.underlying3, info3, Try.t3, Try.underlying4, info4, Try.t4, Try.underlying112, info112, Try.t112, Try.underlying154, info154, Try.t154] <;> rfl), ?_⟩
        simp only [lget_put, List.length_set, l4, Nat.reduceEqDiff, Nat.reduceLT, if_true, if_false]
      refine callsD Try.func57 (rfl : Try.f57.body = some lessB) (h0 ▸ DC.seq r1 rfl (DC.seq r2 rfl (DC.seq (DC.seq r3 rfl (DC.block (DC.loop d4))) rfl (DC.seq r5 rfl (DC.ret _ _ _))))) ?_ rfl rfl
      have : decide (A < A) = false := by simp
      simp only [endsA, Try.f57, resA, resList, resOne, p4, Option.map, RR.pre, this]
  · have e1 : (((dig A).length : Int) != ((dig B).length : Int)) = true := by simp; omega
    have e2 : decide (((dig A).length : Int) < ((dig B).length : Int)) = decide (A < B) := by
      have : ((dig A).length : Int) < ((dig B).length : Int) ↔ A < B := by
        constructor
        · intro h; exact dig_len_lt (by omega)
        · intro h
          rcases Nat.lt_or_ge (dig A).length (dig B).length with h1 | h1
          · omega
          · have := dig_len_lt (a := B) (b := A) (by omega)
            omega
      simp [this]
    obtain ⟨ts2, r2, p4⟩ : ∃ ts2, DC Try.prog false (nthC 1 lessB) ⟨ts1, []⟩ σ ⟨.ret, ⟨ts2, []⟩, σ, []⟩ ∧ lget ts2 4 = .bool (decide (A < B)) := by
      refine ⟨_, runs Orc.none_ok 30 nobt (by kernel_rfl) (by simp only [go_sem, Nat.reducePow, Nat.reduceDiv, Nat.reduceMod, Nat.reduceAdd, Nat.reduceSub, Nat.reduceMul, Nat.reduceLeDiff, Nat.reduceLT, Nat.reduceEqDiff, reduceCtorEq, reduceIte, reduceDIte, if_pos rfl, Int.reduceLT, Int.reduceLE, Int.reduceEq, Int.reduceNeg, Int.reduceAdd, Int.reduceSub, Int.reduceMul, Int.reduceToNat, lessB, nthC, Option.getD, lget_put, lgetq_put, List.length_set, p0, p1, l1, oA, oB, e1, e2, Try.f57, Try.underlying3, info3, Try.t3, Try.underlying4, info4, Try.t4, Try.underlying112, info112, Try.t112, Try.underlying154, info154, Try.t154] <;> rfl), ?_⟩
      simp only [lget_put, List.length_set, l1, Nat.reduceEqDiff, Nat.reduceLT, if_true, if_false]
    refine callsD Try.func57 (rfl : Try.f57.body = some lessB) (h0 ▸ DC.seq r1 rfl (DC.seq_out r2 rfl)) ?_ rfl rfl
    simp only [endsA, Try.f57, resA, resList, resOne, p4, Option.map, RR.pre]

end Go.Ab

set_option linter.unusedSimpArgs false
set_option linter.unusedVariables false
namespace Go.Ab
open Go.Proofs

theorem over_digit : ∀ (O : List Nat) (j x : Nat), j < O.length → over (dcells O) j [.int .u32 (x : Int)] = dcells (O.set j x)
  | [], _, _, h => by simp at h
  | y :: O, 0, x, _ => by simp [dcells, over, dv]
  | y :: O, j + 1, x, h => by
    have := over_digit O j x (by simpa using h)
    simp only [dcells, List.map_cons, List.set_cons_succ, over] at this ⊢
    rw [this]

theorem val_set : ∀ (O : List Nat) (j x y : Nat), O[j]? = some y → val (O.set j x) + y * 65536 ^ j = val O + x * 65536 ^ j
  | [], _, _, _, h => by simp at h
  | z :: O, 0, x, y, h => by
    simp only [List.getElem?_cons_zero, Option.some.injEq] at h
    subst h
    simp [val]; omega
  | z :: O, j + 1, x, y, h => by
    simp only [List.getElem?_cons_succ] at h
    have := val_set O j x y h
    simp only [List.set_cons_succ, val]
    have e1 : y * 65536 ^ (j + 1) = 65536 * (y * 65536 ^ j) := by rw [Nat.pow_succ, ← Nat.mul_assoc, Nat.mul_comm]
    have e2 : x * 65536 ^ (j + 1) = 65536 * (x * 65536 ^ j) := by rw [Nat.pow_succ, ← Nat.mul_assoc, Nat.mul_comm]
    rw [e1, e2]
    omega

theorem Low.set {O : List Nat} (h : Low O) {j x : Nat} (hx : x < 65536) : Low (O.set j x) := fun z hz => by
  rcases List.mem_or_eq_of_mem_set hz with h1 | h1
  · exact h z h1
  · omega

theorem val_take {B : List Nat} {k y : Nat} (h : B[k]? = some y) : val (B.take (k + 1)) = val (B.take k) + y * 65536 ^ k := by
  have hl := (List.getElem?_eq_some_iff.1 h).1
  have : B.take (k + 1) = B.take k ++ [y] := by
    rw [List.take_add_one, h]; rfl
  rw [this, val_append, List.length_take, Nat.min_eq_left (by omega)]
  simp [val, Nat.mul_comm]

theorem val_zeros : ∀ n, val (List.replicate n 0) = 0
  | 0 => rfl
  | n + 1 => by simp [List.replicate_succ, val, val_zeros n]

/-- What stands within the inner loop. -/
structure MulI (A B O : List Nat) (i k c a : Nat) : Prop where
  len : O.length = A.length + B.length
  low : Low O
  hc : c < 65536
  hk : k ≤ B.length + 1
  ha : A[i]? = some a
  v : val O + c * 65536 ^ (i + k) = val (A.take i) * val B + a * 65536 ^ i * val (B.take k)

theorem MulI.bound {A B O : List Nat} {i k c a : Nat} (h : MulI A B O i k c a) (hA : Low A) (hB : Low B) (hk : B.length ≤ k) (hc : 0 < c) : k = B.length ∧ i + k < A.length + B.length := by
  have hi := (List.getElem?_eq_some_iff.1 h.ha).1
  have e : B.take k = B := List.take_of_length_le hk
  have hv := h.v
  rw [e] at hv
  have e2 : val (A.take i) * val B + a * 65536 ^ i * val B = val (A.take (i + 1)) * val B := by
    rw [val_take h.ha, Nat.add_mul]
  rw [e2] at hv
  have h1 : val (A.take (i + 1)) < 65536 ^ (i + 1) := by
    have := val_lt (A.take (i + 1)) (fun x hx => hA x (List.mem_of_mem_take hx))
    rwa [List.length_take, Nat.min_eq_left (by omega)] at this
  have h2 := val_lt B hB
  have h3 : val (A.take (i + 1)) * val B < 65536 ^ (i + 1 + B.length) := by
    rw [Nat.pow_add]
    exact Nat.mul_lt_mul'' h1 h2
  have h4 : 65536 ^ (i + k) ≤ c * 65536 ^ (i + k) := Nat.le_mul_of_pos_left _ hc
  have h5 : 65536 ^ (i + k) < 65536 ^ (i + 1 + B.length) := by omega
  have h6 : i + k < i + 1 + B.length := (Nat.pow_lt_pow_iff_right (by omega)).1 h5
  omega

/-- One step of the inner loop. -/
theorem MulI.step {A B O : List Nat} {i k c a o p : Nat} (h : MulI A B O i k c a) (hk : k ≤ B.length) (ho : O[i + k]? = some o) (hp : a * 65536 ^ i * val (B.take (k + 1)) = a * 65536 ^ i * val (B.take k) + p * 65536 ^ (i + k)) (hb : c + o + p < 4294967296) :
    MulI A B (O.set (i + k) ((c + o + p) % 65536)) i (k + 1) ((c + o + p) / 65536) a where
  len := by rw [List.length_set]; exact h.len
  low := h.low.set (Nat.mod_lt _ (by omega))
  hc := by omega
  hk := by omega
  ha := h.ha
  v := by
    have h1 := val_set O (i + k) ((c + o + p) % 65536) o ho
    have hv := h.v
    rw [hp]
    have e1 : (c + o + p) / 65536 * 65536 ^ (i + (k + 1)) = ((c + o + p) / 65536 * 65536) * 65536 ^ (i + k) := by
      rw [← Nat.add_assoc, Nat.pow_succ, Nat.mul_assoc, Nat.mul_comm (65536 ^ (i + k)) 65536]
    rw [e1]
    have e2 : ((c + o + p) / 65536 * 65536) * 65536 ^ (i + k) + (c + o + p) % 65536 * 65536 ^ (i + k) = c * 65536 ^ (i + k) + o * 65536 ^ (i + k) + p * 65536 ^ (i + k) := by
      rw [← Nat.add_mul, ← Nat.add_mul, ← Nat.add_mul]
      congr 1
      omega
    omega

theorem MulI.done {A B O : List Nat} {i k a : Nat} (h : MulI A B O i k 0 a) (hk : B.length ≤ k) : val O = val (A.take (i + 1)) * val B := by
  have hv := h.v
  rw [List.take_of_length_le hk] at hv
  rw [val_take h.ha, Nat.add_mul]
  simpa using hv

end Go.Ab

set_option linter.unusedSimpArgs false
set_option linter.unusedVariables false
namespace Go.Ab
open Go.Proofs

def bt54 : Nat → List Nat
  | 11 => [0, 0, 0, 6, 14, 30, 0, 0, 192, 448, 960, 2046, 4095, 8191]
  | _ => []

noncomputable def mulB : Code := Try.f54.body.getD .skip
noncomputable def mulC : Code := loopOf mulB
noncomputable def mulD : Code := loopOf mulC

structure MF (ts : List Value) (v w : Value) (bo L i : Nat) : Prop where
  len : ts.length = 69
  t0 : lget ts 0 = v
  t1 : lget ts 1 = w
  t5 : lget ts 5 = .slice (some ⟨bo, 0, some 0⟩) L L
  t6 : lget ts 6 = .int .i64 i

theorem dcells_at {O : List Nat} {j o : Nat} (h : O[j]? = some o) : lget? (dcells O) j = some (.int .u32 (o : Int)) := by
  rw [lget?_eq]; simp [dcells, h, dv]

/-- What is so of the state while the product is made. -/
structure MS (σ₀ σ : St) (bo : Nat) (O : List Nat) : Prop where
  lo : σ₀.next ≤ bo
  nx : bo < σ.next
  get : σ.get bo = some (.cells (dcells O) false)
  keep : ∀ c, c < σ₀.next → σ.get c = σ₀.get c

set_option maxRecDepth 20000 in
theorem mul_inner {A B : List Nat} {v w : Value} {σ₀ : St} {bo i a : Nat} (bA : BigS σ₀ v A) (bB : BigS σ₀ w B) (hA : Low A) (hB : Low B) (sA : A.length ≤ 1000000) (sB : B.length ≤ 1000000) :
    ∀ (n k c : Nat) (O : List Nat) (σ : St) (ts : List Value), B.length + 2 - k < n → MulI A B O i k c a → MF ts v w bo (A.length + B.length) i → lget ts 7 = .int .u64 c → lget ts 8 = .int .i64 k → MS σ₀ σ bo O →
    ∃ σ' lg ts' O' k', DL Try.prog false mulD ⟨ts, []⟩ σ ⟨.exit 2, ⟨ts', []⟩, σ', lg⟩ ∧ MulI A B O' i k' 0 a ∧ B.length ≤ k' ∧ MF ts' v w bo (A.length + B.length) i ∧ MS σ₀ σ' bo O' ∧ (∀ x ∈ lg, x = bo) := by
  intro n
  induction n with
  | zero => intro k c O σ ts hk; omega
  | succ n ih =>
    intro k c O σ ts hk M F t7 t8 S
    have q0 := F.t0
    have q1 := F.t1
    have q5 := F.t5
    have q6 := F.t6
    have ql := F.len
    have oB := bB.len
    have hi := (List.getElem?_eq_some_iff.1 M.ha).1
    have ha : a < 65536 := hA a (List.mem_of_getElem? M.ha)
    have gO := S.get
    have w9 : IntKind.i64.wrap ((k : Int) + 1) = ((k + 1 : Nat) : Int) := by rw [IntKind.wrap_i64]; have := M.hk; omega
    have wi : IntKind.i64.wrap ((i : Int) + (k : Int)) = ((i + k : Nat) : Int) := by rw [IntKind.wrap_i64]; have := M.hk; omega
    have step : ∀ (p : Nat) (o : Nat) (ts1 : List Value), O[i + k]? = some o → k ≤ B.length → a * 65536 ^ i * val (B.take (k + 1)) = a * 65536 ^ i * val (B.take k) + p * 65536 ^ (i + k) → c + o + p < 4294967296 →
        DC Try.prog false mulD ⟨ts, []⟩ σ ⟨.norm, ⟨ts1, []⟩, σ.set bo (.cells (dcells (O.set (i + k) ((c + o + p) % 65536))) false), [bo]⟩ → MF ts1 v w bo (A.length + B.length) i → lget ts1 7 = .int .u64 ((c + o + p) / 65536 : Nat) → lget ts1 8 = .int .i64 (k + 1 : Nat) →
        ∃ σ' lg ts' O' k', DL Try.prog false mulD ⟨ts, []⟩ σ ⟨.exit 2, ⟨ts', []⟩, σ', lg⟩ ∧ MulI A B O' i k' 0 a ∧ B.length ≤ k' ∧ MF ts' v w bo (A.length + B.length) i ∧ MS σ₀ σ' bo O' ∧ (∀ x ∈ lg, x = bo) := by
      intro p o ts1 ho hkB hp hb hr F1 t71 t81
      obtain ⟨σ', lg, ts', O', k', a1, a2, a3, a4, a5, a6⟩ := ih (k + 1) _ _ (σ.set bo (.cells (dcells (O.set (i + k) ((c + o + p) % 65536))) false)) ts1 (by omega) (M.step hkB ho hp hb) F1 t71 t81
        ⟨S.lo, S.nx, by rw [St.get_set, if_pos rfl], fun c hc => by rw [St.get_set, if_neg (by have := S.lo; omega)]; exact S.keep c hc⟩
      exact ⟨σ', [bo] ++ lg, ts', O', k', DL.next hr rfl a1, a2, a3, a4, a5, fun x hx => by
        rcases List.mem_append.1 hx with h | h
        · simpa using h
        · exact a6 x h⟩
    by_cases hkB : k < B.length
    · obtain ⟨y, hy⟩ : ∃ y, B[k]? = some y := ⟨_, List.getElem?_eq_getElem hkB⟩
      obtain ⟨o, ho⟩ : ∃ o, O[i + k]? = some o := ⟨_, List.getElem?_eq_getElem (by rw [M.len]; omega)⟩
      have hy' : y < 65536 := hB y (List.mem_of_getElem? hy)
      have ho' : o < 65536 := M.low o (List.mem_of_getElem? ho)
      have hc := M.hc
      have hay : a * y ≤ 65535 * 65535 := Nat.mul_le_mul (by omega) (by omega)
      obtain ⟨b1, sp1, cap1, vs1, ro1, rfl, hb1, hg1, he1⟩ := bA.at M.ha
      obtain ⟨b2, sp2, cap2, vs2, ro2, rfl, hb2, hg2, he2⟩ := bB.at hy
      have g1 : σ.get b1 = some (.cells vs1 ro1) := (S.keep b1 hb1).trans hg1
      have g2 : σ.get b2 = some (.cells vs2 ro2) := (S.keep b2 hb2).trans hg2
      obtain ⟨t, ht⟩ : ∃ t, c + o + a * y = t := ⟨_, rfl⟩
      obtain ⟨j, hj⟩ : ∃ j, i + k = j := ⟨_, rfl⟩
      rw [hj] at ho wi
      have eO := dcells_at ho
      have lO : j + 1 ≤ (dcells O).length := by rw [dcells_length, M.len]; omega
      have ov := over_digit O j (t % 65536) (by rw [M.len]; omega)
      have c1 : (k : Int) < (B.length : Int) := by omega
      have c2 : (0 : Int) ≤ (k : Int) ∧ (k : Int) < (B.length : Int) := by omega
      have c3 : (0 : Int) ≤ (i : Int) ∧ (i : Int) < (A.length : Int) := by omega
      have c4 : (0 : Int) ≤ ((j : Nat) : Int) ∧ ((j : Nat) : Int) < ((A.length + B.length : Nat) : Int) := by omega
      have w0 : IntKind.u64.wrap (o : Int) = (o : Int) := by rw [IntKind.wrap_u64]; omega
      have w0a : IntKind.u64.wrap (a : Int) = (a : Int) := by rw [IntKind.wrap_u64]; omega
      have w0y : IntKind.u64.wrap (y : Int) = (y : Int) := by rw [IntKind.wrap_u64]; omega
      have w1 : IntKind.u64.wrap ((c : Int) + (o : Int)) = ((c + o : Nat) : Int) := by rw [IntKind.wrap_u64]; omega
      have w3 : IntKind.u64.wrap ((a : Int) * (y : Int)) = ((a * y : Nat) : Int) := by rw [← Int.natCast_mul, IntKind.wrap_u64]; omega
      have w4 : IntKind.u64.wrap (((c + o : Nat) : Int) + ((a * y : Nat) : Int)) = ((t : Nat) : Int) := by rw [IntKind.wrap_u64]; omega
      have e1 : ((t : Nat) : Int).tmod 65536 = ((t % 65536 : Nat) : Int) := by rw [Int.tmod_eq_emod_of_nonneg (by omega)]; rfl
      have e2 : ((t : Nat) : Int).tdiv 65536 = ((t / 65536 : Nat) : Int) := by rw [Int.tdiv_eq_ediv_of_nonneg (by omega)]; rfl
      have w5 : IntKind.u64.wrap ((t % 65536 : Nat) : Int) = ((t % 65536 : Nat) : Int) := by rw [IntKind.wrap_u64]; omega
      have w6 : IntKind.u32.wrap ((t % 65536 : Nat) : Int) = ((t % 65536 : Nat) : Int) := by rw [IntKind.wrap_u32]; omega
      have w7 : IntKind.u64.wrap ((t / 65536 : Nat) : Int) = ((t / 65536 : Nat) : Int) := by rw [IntKind.wrap_u64]; omega
      have nb1 : ¬ σ.next ≤ b1 := by have := S.lo; have := S.nx; omega
      have nb2 : ¬ σ.next ≤ b2 := by have := S.lo; have := S.nx; omega
      obtain ⟨ts1, hr, F1, p7, p8⟩ : ∃ ts1, DC Try.prog false mulD ⟨ts, []⟩ σ ⟨.norm, ⟨ts1, []⟩, σ.set bo (.cells (dcells (O.set j (t % 65536))) false), [bo]⟩ ∧ MF ts1 (.slice (some ⟨b1, 0, some sp1⟩) A.length cap1) (.slice (some ⟨b2, 0, some sp2⟩) B.length cap2) bo (A.length + B.length) i ∧
          lget ts1 7 = .int .u64 (t / 65536 : Nat) ∧ lget ts1 8 = .int .i64 (k + 1 : Nat) := by
        refine ⟨_, runs Orc.none_ok 40 bt54 (by kernel_rfl) (by simp only [go_sem, Nat.reducePow, Nat.reduceDiv, Nat.reduceMod, Nat.reduceAdd, Nat.reduceSub, Nat.reduceMul, Nat.reduceLeDiff, Nat.reduceLT, Nat.reduceEqDiff, reduceCtorEq, reduceIte, reduceDIte, if_pos rfl, Int.reduceLT, Int.reduceLE, Int.reduceEq, Int.reduceNeg, Int.reduceAdd, Int.reduceSub, Int.reduceMul, Int.reduceToNat, bt54, mulD, mulC, mulB, loopOf, Option.getD, lget_put, lgetq_put, List.length_set, q0, q1, q5, q6, ql, t7, t8, oB, c1, c2, c3, c4, wi, w0, w0a, w0y, w1, w3, w4, w5, w6, w7, w9, e1, e2, nb1, nb2, g1, g2, he1, he2, gO, eO, lO, ov, Int.toNat_natCast, Try.f54, Try.underlying3, info3, Try.t3, Try.underlying4, info4, Try.t4, Try.underlying112, info112, Try.t112, Try.underlying115, info115, Try.t115, Try.underlying154, info154, Try.t154] <;> rfl), ?_, ?_, ?_⟩
        · constructor <;> simp only [lget_put, List.length_set, q0, q1, q5, q6, ql, Nat.reduceEqDiff, Nat.reduceLT, if_true, if_false]
        · simp only [lget_put, List.length_set, ql, Nat.reduceEqDiff, Nat.reduceLT, if_true, if_false]
        · simp only [lget_put, List.length_set, ql, Nat.reduceEqDiff, Nat.reduceLT, if_true, if_false]
      subst ht hj
      refine step (a * y) o ts1 ho (by omega) ?_ (by omega) hr F1 p7 p8
      rw [val_take hy, Nat.mul_add]
      congr 1
      rw [Nat.pow_add]
      rw [Nat.mul_assoc, Nat.mul_assoc, ← Nat.mul_assoc (65536 ^ i) y, Nat.mul_comm (65536 ^ i) y, Nat.mul_assoc y]
    · by_cases hc0 : c = 0
      · subst hc0
        have c1 : ¬ (k : Int) < (B.length : Int) := by omega
        obtain ⟨ts1, hr, F1⟩ : ∃ ts1, DC Try.prog false mulD ⟨ts, []⟩ σ ⟨.exit 2, ⟨ts1, []⟩, σ, []⟩ ∧ MF ts1 v w bo (A.length + B.length) i := by
          refine ⟨_, runs Orc.none_ok 40 bt54 (by kernel_rfl) (by simp only [go_sem, Nat.reducePow, Nat.reduceDiv, Nat.reduceMod, Nat.reduceAdd, Nat.reduceSub, Nat.reduceMul, Nat.reduceLeDiff, Nat.reduceLT, Nat.reduceEqDiff, reduceCtorEq, reduceIte, reduceDIte, if_pos rfl, Int.reduceLT, Int.reduceLE, Int.reduceEq, Int.reduceNeg, Int.reduceAdd, Int.reduceSub, Int.reduceMul, Int.reduceToNat, bt54, mulD, mulC, mulB, loopOf, Option.getD, lget_put, lgetq_put, List.length_set, q0, q1, q5, q6, ql, t7, t8, oB, c1, Int.natCast_zero, Int.lt_irrefl, Try.f54, Try.underlying3, info3, Try.t3, Try.underlying4, info4, Try.t4, Try.underlying112, info112, Try.t112, Try.underlying115, info115, Try.t115, Try.underlying154, info154, Try.t154] <;> rfl), ?_⟩
          constructor <;> simp only [lget_put, List.length_set, q0, q1, q5, q6, ql, Nat.reduceEqDiff, Nat.reduceLT, if_true, if_false]
        exact ⟨σ, [], ts1, O, k, DL.out hr rfl, M, by omega, F1, S, fun x hx => by simp at hx⟩
      · obtain ⟨hkl, hik⟩ := M.bound hA hB (by omega) (by omega)
        obtain ⟨o, ho⟩ : ∃ o, O[i + k]? = some o := ⟨_, List.getElem?_eq_getElem (by rw [M.len]; omega)⟩
        have ho' : o < 65536 := M.low o (List.mem_of_getElem? ho)
        have hc := M.hc
        obtain ⟨t, ht⟩ : ∃ t, c + o = t := ⟨_, rfl⟩
        obtain ⟨j, hj⟩ : ∃ j, i + k = j := ⟨_, rfl⟩
        rw [hj] at ho wi
        have eO := dcells_at ho
        have lO : j + 1 ≤ (dcells O).length := by rw [dcells_length, M.len]; omega
        have ov := over_digit O j (t % 65536) (by rw [M.len]; omega)
        have c1 : ¬ (k : Int) < (B.length : Int) := by omega
        have c0 : (0 : Int) < (c : Int) := by omega
        have c4 : (0 : Int) ≤ ((j : Nat) : Int) ∧ ((j : Nat) : Int) < ((A.length + B.length : Nat) : Int) := by omega
        have w0 : IntKind.u64.wrap (o : Int) = (o : Int) := by rw [IntKind.wrap_u64]; omega
        have w1 : IntKind.u64.wrap ((c : Int) + (o : Int)) = ((t : Nat) : Int) := by rw [IntKind.wrap_u64]; omega
        have e1 : ((t : Nat) : Int).tmod 65536 = ((t % 65536 : Nat) : Int) := by rw [Int.tmod_eq_emod_of_nonneg (by omega)]; rfl
        have e2 : ((t : Nat) : Int).tdiv 65536 = ((t / 65536 : Nat) : Int) := by rw [Int.tdiv_eq_ediv_of_nonneg (by omega)]; rfl
        have w5 : IntKind.u64.wrap ((t % 65536 : Nat) : Int) = ((t % 65536 : Nat) : Int) := by rw [IntKind.wrap_u64]; omega
        have w6 : IntKind.u32.wrap ((t % 65536 : Nat) : Int) = ((t % 65536 : Nat) : Int) := by rw [IntKind.wrap_u32]; omega
        have w7 : IntKind.u64.wrap ((t / 65536 : Nat) : Int) = ((t / 65536 : Nat) : Int) := by rw [IntKind.wrap_u64]; omega
        obtain ⟨ts1, hr, F1, p7, p8⟩ : ∃ ts1, DC Try.prog false mulD ⟨ts, []⟩ σ ⟨.norm, ⟨ts1, []⟩, σ.set bo (.cells (dcells (O.set j (t % 65536))) false), [bo]⟩ ∧ MF ts1 v w bo (A.length + B.length) i ∧
            lget ts1 7 = .int .u64 (t / 65536 : Nat) ∧ lget ts1 8 = .int .i64 (k + 1 : Nat) := by
          refine ⟨_, runs Orc.none_ok 40 bt54 (by kernel_rfl) (by simp only [go_sem, Nat.reducePow, Nat.reduceDiv, Nat.reduceMod, Nat.reduceAdd, Nat.reduceSub, Nat.reduceMul, Nat.reduceLeDiff, Nat.reduceLT, Nat.reduceEqDiff, reduceCtorEq, reduceIte, reduceDIte, if_pos rfl, Int.reduceLT, Int.reduceLE, Int.reduceEq, Int.reduceNeg, Int.reduceAdd, Int.reduceSub, Int.reduceMul, Int.reduceToNat, bt54, mulD, mulC, mulB, loopOf, Option.getD, lget_put, lgetq_put, List.length_set, q0, q1, q5, q6, ql, t7, t8, oB, c0, c1, c4, wi, w0, w1, w5, w6, w7, w9, e1, e2, gO, eO, lO, ov, Int.toNat_natCast, Try.f54, Try.underlying3, info3, Try.t3, Try.underlying4, info4, Try.t4, Try.underlying112, info112, Try.t112, Try.underlying115, info115, Try.t115, Try.underlying154, info154, Try.t154] <;> rfl), ?_, ?_, ?_⟩
          · constructor <;> simp only [lget_put, List.length_set, q0, q1, q5, q6, ql, Nat.reduceEqDiff, Nat.reduceLT, if_true, if_false]
          · simp only [lget_put, List.length_set, ql, Nat.reduceEqDiff, Nat.reduceLT, if_true, if_false]
          · simp only [lget_put, List.length_set, ql, Nat.reduceEqDiff, Nat.reduceLT, if_true, if_false]
        subst ht hj
        refine step 0 o ts1 ho (by omega) ?_ (by omega) (by simpa using hr) F1 (by simpa using p7) p8
        rw [List.take_of_length_le (by omega), List.take_of_length_le (by omega)]; simp

end Go.Ab

set_option linter.unusedSimpArgs false
set_option linter.unusedVariables false
namespace Go.Ab
open Go.Proofs

def inBlk : Code → Code
  | .block _ b => b
  | c => c

theorem zeros_digits : ∀ n, zerosN [.int .u32 0] n = dcells (List.replicate n 0)
  | 0 => rfl
  | n + 1 => by
    have := zeros_digits n
    simp only [zerosN, this, List.replicate_succ, dcells, List.map_cons]
    rfl

theorem mul_outer {A B : List Nat} {v w : Value} {σ₀ : St} {bo : Nat} (bA : BigS σ₀ v A) (bB : BigS σ₀ w B) (hA : Low A) (hB : Low B) (sA : A.length ≤ 1000000) (sB : B.length ≤ 1000000) :
    ∀ (n i : Nat) (O : List Nat) (σ : St) (ts : List Value), A.length - i < n → i ≤ A.length → MF ts v w bo (A.length + B.length) i → O.length = A.length + B.length → Low O → val O = val (A.take i) * val B → MS σ₀ σ bo O →
    ∃ σ' lg ts' O', DL Try.prog false mulC ⟨ts, []⟩ σ ⟨.exit 0, ⟨ts', []⟩, σ', lg⟩ ∧ O'.length = A.length + B.length ∧ Low O' ∧ val O' = val A * val B ∧ MF ts' v w bo (A.length + B.length) A.length ∧ MS σ₀ σ' bo O' ∧ (∀ x ∈ lg, x = bo) := by
  intro n
  induction n with
  | zero => intro i O σ ts hk; omega
  | succ n ih =>
    intro i O σ ts hk hi F hO lO vO S
    have q0 := F.t0
    have q1 := F.t1
    have q5 := F.t5
    have q6 := F.t6
    have ql := F.len
    have oA := bA.len
    by_cases hb : i < A.length
    · obtain ⟨a, ha⟩ : ∃ a, A[i]? = some a := ⟨_, List.getElem?_eq_getElem hb⟩
      have c1 : (i : Int) < (A.length : Int) := by omega
      obtain ⟨ts1, r1, F1⟩ : ∃ ts1, DC Try.prog false (nthC 0 mulC) ⟨ts, []⟩ σ ⟨.norm, ⟨ts1, []⟩, σ, []⟩ ∧ MF ts1 v w bo (A.length + B.length) i := by
        refine ⟨_, runs Orc.none_ok 40 nobt (by kernel_rfl) (by simp only [go_sem, Nat.reducePow, Nat.reduceDiv, Nat.reduceMod, Nat.reduceAdd, Nat.reduceSub, Nat.reduceMul, Nat.reduceLeDiff, Nat.reduceLT, Nat.reduceEqDiff, reduceCtorEq, reduceIte, reduceDIte, if_pos rfl, Int.reduceLT, Int.reduceLE, Int.reduceEq, Int.reduceNeg, Int.reduceAdd, Int.reduceSub, Int.reduceMul, Int.reduceToNat, nthC, mulC, mulB, loopOf, Option.getD, lget_put, lgetq_put, List.length_set, q0, q1, q5, q6, ql, oA, c1, Try.f54, Try.underlying3, info3, Try.t3, Try.underlying4, info4, Try.t4, Try.underlying112, info112, Try.t112, Try.underlying115, info115, Try.t115, Try.underlying154, info154, Try.t154] <;> rfl), ?_⟩
        constructor <;> simp only [lget_put, List.length_set, q0, q1, q5, q6, ql, Nat.reduceEqDiff, Nat.reduceLT, if_true, if_false]
      have q0 := F1.t0
      have q1 := F1.t1
      have q5 := F1.t5
      have q6 := F1.t6
      have ql := F1.len
      obtain ⟨ts2, r2, F2, t7⟩ : ∃ ts2, DC Try.prog false (nthC 0 (inBlk (nthC 1 mulC))) ⟨ts1, []⟩ σ ⟨.norm, ⟨ts2, []⟩, σ, []⟩ ∧ MF ts2 v w bo (A.length + B.length) i ∧ lget ts2 7 = .int .u64 (0 : Nat) := by
        refine ⟨_, runs Orc.none_ok 40 nobt (by kernel_rfl) (by simp only [go_sem, Nat.reducePow, Nat.reduceDiv, Nat.reduceMod, Nat.reduceAdd, Nat.reduceSub, Nat.reduceMul, Nat.reduceLeDiff, Nat.reduceLT, Nat.reduceEqDiff, reduceCtorEq, reduceIte, reduceDIte, if_pos rfl, Int.reduceLT, Int.reduceLE, Int.reduceEq, Int.reduceNeg, Int.reduceAdd, Int.reduceSub, Int.reduceMul, Int.reduceToNat, nthC, inBlk, mulC, mulB, loopOf, Option.getD, lget_put, lgetq_put, List.length_set, ql, Try.f54, Try.underlying3, info3, Try.t3, Try.underlying4, info4, Try.t4, Try.underlying112, info112, Try.t112, Try.underlying115, info115, Try.t115, Try.underlying154, info154, Try.t154] <;> rfl), ?_, ?_⟩
        · constructor <;> simp only [lget_put, List.length_set, q0, q1, q5, q6, ql, Nat.reduceEqDiff, Nat.reduceLT, if_true, if_false]
        · simp only [lget_put, List.length_set, ql, Nat.reduceEqDiff, Nat.reduceLT, if_true, if_false, Int.natCast_zero]
      have q0 := F2.t0
      have q1 := F2.t1
      have q5 := F2.t5
      have q6 := F2.t6
      have ql := F2.len
      obtain ⟨ts3, r3, F3, t7, t8⟩ : ∃ ts3, DC Try.prog false (nthC 1 (inBlk (nthC 1 mulC))) ⟨ts2, []⟩ σ ⟨.norm, ⟨ts3, []⟩, σ, []⟩ ∧ MF ts3 v w bo (A.length + B.length) i ∧ lget ts3 7 = .int .u64 (0 : Nat) ∧ lget ts3 8 = .int .i64 (0 : Nat) := by
        refine ⟨_, runs Orc.none_ok 40 nobt (by kernel_rfl) (by simp only [go_sem, Nat.reducePow, Nat.reduceDiv, Nat.reduceMod, Nat.reduceAdd, Nat.reduceSub, Nat.reduceMul, Nat.reduceLeDiff, Nat.reduceLT, Nat.reduceEqDiff, reduceCtorEq, reduceIte, reduceDIte, if_pos rfl, Int.reduceLT, Int.reduceLE, Int.reduceEq, Int.reduceNeg, Int.reduceAdd, Int.reduceSub, Int.reduceMul, Int.reduceToNat, nthC, inBlk, mulC, mulB, loopOf, Option.getD, lget_put, lgetq_put, List.length_set, ql, Try.f54, Try.underlying3, info3, Try.t3, Try.underlying4, info4, Try.t4, Try.underlying112, info112, Try.t112, Try.underlying115, info115, Try.t115, Try.underlying154, info154, Try.t154] <;> rfl), ?_, ?_, ?_⟩
        · constructor <;> simp only [lget_put, List.length_set, q0, q1, q5, q6, ql, Nat.reduceEqDiff, Nat.reduceLT, if_true, if_false]
        · simp only [lget_put, List.length_set, t7, ql, Nat.reduceEqDiff, Nat.reduceLT, if_true, if_false]
        · simp only [lget_put, List.length_set, ql, Nat.reduceEqDiff, Nat.reduceLT, if_true, if_false, Int.natCast_zero]
      have M : MulI A B O i 0 0 a := ⟨hO, lO, by omega, by omega, ha, by simp [vO, val]⟩
      obtain ⟨σ4, lg4, ts4, O4, k4, d4, M4, hk4, F4, S4, f4⟩ := mul_inner bA bB hA hB sA sB (B.length + 3) 0 0 O σ ts3 (by omega) M F3 t7 t8 S
      have q0 := F4.t0
      have q1 := F4.t1
      have q5 := F4.t5
      have q6 := F4.t6
      have ql := F4.len
      have w1 : IntKind.i64.wrap ((i : Int) + 1) = ((i + 1 : Nat) : Int) := by rw [IntKind.wrap_i64]; omega
      obtain ⟨ts5, r5, F5⟩ : ∃ ts5, DC Try.prog false (nthC 2 mulC) ⟨ts4, []⟩ σ4 ⟨.norm, ⟨ts5, []⟩, σ4, []⟩ ∧ MF ts5 v w bo (A.length + B.length) (i + 1) := by
        refine ⟨_, runs Orc.none_ok 40 nobt (by kernel_rfl) (by simp only [go_sem, Nat.reducePow, Nat.reduceDiv, Nat.reduceMod, Nat.reduceAdd, Nat.reduceSub, Nat.reduceMul, Nat.reduceLeDiff, Nat.reduceLT, Nat.reduceEqDiff, reduceCtorEq, reduceIte, reduceDIte, if_pos rfl, Int.reduceLT, Int.reduceLE, Int.reduceEq, Int.reduceNeg, Int.reduceAdd, Int.reduceSub, Int.reduceMul, Int.reduceToNat, nthC, mulC, mulB, loopOf, Option.getD, lget_put, lgetq_put, List.length_set, q6, ql, w1, Try.f54, Try.underlying3, info3, Try.t3, Try.underlying4, info4, Try.t4, Try.underlying112, info112, Try.t112, Try.underlying115, info115, Try.t115, Try.underlying154, info154, Try.t154] <;> rfl), ?_⟩
        constructor <;> simp only [lget_put, List.length_set, q0, q1, q5, q6, ql, Nat.reduceEqDiff, Nat.reduceLT, if_true, if_false]
      have round : DC Try.prog false mulC ⟨ts, []⟩ σ ⟨.norm, ⟨ts5, []⟩, σ4, lg4 ++ []⟩ := DC.seq r1 rfl (DC.seq (DC.block (DC.seq r2 rfl (DC.seq r3 rfl (DC.block (DC.loop d4))))) rfl r5)
      obtain ⟨σ', lg, ts', O', a1, a2, a3, a4, a5, a6, a7⟩ := ih (i + 1) O4 σ4 ts5 (by omega) (by omega) F5 M4.len M4.low (M4.done hk4) S4
      refine ⟨σ', (lg4 ++ []) ++ lg, ts', O', DL.next round rfl a1, a2, a3, a4, a5, a6, fun x hx => ?_⟩
      rw [List.append_nil] at hx
      rcases List.mem_append.1 hx with h | h
      · exact f4 x h
      · exact a7 x h
    · obtain rfl : i = A.length := by omega
      have c1 : ¬ (A.length : Int) < (A.length : Int) := by omega
      obtain ⟨ts1, r1, F1⟩ : ∃ ts1, DC Try.prog false (nthC 0 mulC) ⟨ts, []⟩ σ ⟨.exit 0, ⟨ts1, []⟩, σ, []⟩ ∧ MF ts1 v w bo (A.length + B.length) A.length := by
        refine ⟨_, runs Orc.none_ok 40 nobt (by kernel_rfl) (by simp only [go_sem, Nat.reducePow, Nat.reduceDiv, Nat.reduceMod, Nat.reduceAdd, Nat.reduceSub, Nat.reduceMul, Nat.reduceLeDiff, Nat.reduceLT, Nat.reduceEqDiff, reduceCtorEq, reduceIte, reduceDIte, if_pos rfl, Int.reduceLT, Int.reduceLE, Int.reduceEq, Int.reduceNeg, Int.reduceAdd, Int.reduceSub, Int.reduceMul, Int.reduceToNat, nthC, mulC, mulB, loopOf, Option.getD, lget_put, lgetq_put, List.length_set, q0, q1, q5, q6, ql, oA, c1, Int.lt_irrefl, Try.f54, Try.underlying3, info3, Try.t3, Try.underlying4, info4, Try.t4, Try.underlying112, info112, Try.t112, Try.underlying115, info115, Try.t115, Try.underlying154, info154, Try.t154] <;> rfl), ?_⟩
        constructor <;> simp only [lget_put, List.length_set, q0, q1, q5, q6, ql, Nat.reduceEqDiff, Nat.reduceLT, if_true, if_false]
      have out : DC Try.prog false mulC ⟨ts, []⟩ σ ⟨.exit 0, ⟨ts1, []⟩, σ, []⟩ := DC.seq_out r1 rfl
      exact ⟨σ, [], ts1, O, DL.out out rfl, hO, lO, by rw [vO, List.take_length], F1, S, fun x hx => by simp at hx⟩

theorem mul_call {A B : List Nat} {v w : Value} {σ : St} (bA : BigS σ v A) (bB : BigS σ w B) (hA : Low A) (hB : Low B) (sA : A.length ≤ 100000) (sB : B.length ≤ 100000) :
    ∃ σ' u, DCall Try.prog 54 [v, w] σ (.ret u) σ' [] ∧ BigS σ' u (dig (val A * val B)) ∧ NewBlk σ.next u := by
  obtain ⟨ts0, h0, l0, q0, q1⟩ : ∃ ts0, start [v, w] Try.f54.ntmps = ⟨ts0, []⟩ ∧ ts0.length = 69 ∧ lget ts0 0 = v ∧ lget ts0 1 = w := ⟨(start [v, w] 69).ts, rfl, rfl, rfl, rfl⟩
  have oA := bA.len
  have oB := bB.len
  obtain ⟨ts1, r1, l1, q0, q1⟩ : ∃ ts1, DC Try.prog false (nthC 0 mulB) ⟨ts0, []⟩ σ ⟨.norm, ⟨ts1, []⟩, σ, []⟩ ∧ ts1.length = 69 ∧ lget ts1 0 = v ∧ lget ts1 1 = w := by
    refine ⟨_, runs Orc.none_ok 40 nobt (by kernel_rfl) (by simp only [go_sem, Nat.reducePow, Nat.reduceDiv, Nat.reduceMod, Nat.reduceAdd, Nat.reduceSub, Nat.reduceMul, Nat.reduceLeDiff, Nat.reduceLT, Nat.reduceEqDiff, reduceCtorEq, reduceIte, reduceDIte, if_pos rfl, Int.reduceLT, Int.reduceLE, Int.reduceEq, Int.reduceNeg, Int.reduceAdd, Int.reduceSub, Int.reduceMul, Int.reduceToNat, nthC, mulB, Option.getD, lget_put, lgetq_put, List.length_set, l0, Try.f54, Try.underlying3, info3, Try.t3, Try.underlying4, info4, Try.t4, Try.underlying112, info112, Try.t112, Try.underlying115, info115, Try.t115, Try.underlying154, info154, Try.t154] <;> rfl), ?_, ?_, ?_⟩
    · simp only [List.length_set, l0]
    · simp only [lget_put, List.length_set, q0, l0, Nat.reduceEqDiff, Nat.reduceLT, if_true, if_false]
    · simp only [lget_put, List.length_set, q1, l0, Nat.reduceEqDiff, Nat.reduceLT, if_true, if_false]
  obtain ⟨L, hL⟩ : ∃ L, A.length + B.length = L := ⟨_, rfl⟩
  have w1 : IntKind.i64.wrap ((A.length : Int) + (B.length : Int)) = (L : Int) := by rw [IntKind.wrap_i64]; omega
  have c1 : (0 : Int) ≤ (L : Int) := by omega
  have c2 : (L : Int) < 4294967296 := by omega
  let σ1 := σ.new (.cells (dcells (List.replicate L 0)) false)
  obtain ⟨ts2, r2, l2, q0, q1, q5⟩ : ∃ ts2, DC Try.prog false (nthC 1 mulB) ⟨ts1, []⟩ σ ⟨.norm, ⟨ts2, []⟩, σ1, []⟩ ∧ ts2.length = 69 ∧ lget ts2 0 = v ∧ lget ts2 1 = w ∧ lget ts2 5 = .slice (some ⟨σ.next, 0, some 0⟩) L L := by
    refine ⟨_, runs Orc.none_ok 40 nobt (by kernel_rfl) (by simp only [go_sem, Nat.reducePow, Nat.reduceDiv, Nat.reduceMod, Nat.reduceAdd, Nat.reduceSub, Nat.reduceMul, Nat.reduceLeDiff, Nat.reduceLT, Nat.reduceEqDiff, reduceCtorEq, reduceIte, reduceDIte, if_pos rfl, Int.reduceLT, Int.reduceLE, Int.reduceEq, Int.reduceNeg, Int.reduceAdd, Int.reduceSub, Int.reduceMul, Int.reduceToNat, σ1, nthC, mulB, Option.getD, lget_put, lgetq_put, List.length_set, q0, q1, l1, oA, oB, w1, c1, c2, opMakeSlice, zeros_digits, Int.toNat_natCast, Int.le_refl, Try.f54, Try.underlying3, info3, Try.t3, Try.underlying4, info4, Try.t4, Try.underlying112, info112, Try.t112, Try.underlying115, info115, Try.t115, Try.underlying154, info154, Try.t154] <;> rfl), ?_, ?_, ?_, ?_⟩
    · simp only [List.length_set, l1]
    · simp only [lget_put, List.length_set, q0, l1, Nat.reduceEqDiff, Nat.reduceLT, if_true, if_false]
    · simp only [lget_put, List.length_set, q1, l1, Nat.reduceEqDiff, Nat.reduceLT, if_true, if_false]
    · simp only [lget_put, List.length_set, l1, Nat.reduceEqDiff, Nat.reduceLT, if_true, if_false]
  subst hL
  obtain ⟨ts3, r3, F3⟩ : ∃ ts3, DC Try.prog false (nthC 0 (nthC 2 mulB)) ⟨ts2, []⟩ σ1 ⟨.norm, ⟨ts3, []⟩, σ1, []⟩ ∧ MF ts3 v w σ.next (A.length + B.length) 0 := by
    refine ⟨_, runs Orc.none_ok 40 nobt (by kernel_rfl) (by simp only [go_sem, Nat.reducePow, Nat.reduceDiv, Nat.reduceMod, Nat.reduceAdd, Nat.reduceSub, Nat.reduceMul, Nat.reduceLeDiff, Nat.reduceLT, Nat.reduceEqDiff, reduceCtorEq, reduceIte, reduceDIte, if_pos rfl, Int.reduceLT, Int.reduceLE, Int.reduceEq, Int.reduceNeg, Int.reduceAdd, Int.reduceSub, Int.reduceMul, Int.reduceToNat, nthC, mulB, Option.getD, lget_put, lgetq_put, List.length_set, l2, Try.f54, Try.underlying3, info3, Try.t3, Try.underlying4, info4, Try.t4, Try.underlying112, info112, Try.t112, Try.underlying115, info115, Try.t115, Try.underlying154, info154, Try.t154] <;> rfl), ?_⟩
    constructor <;> simp only [lget_put, List.length_set, q0, q1, q5, l2, Nat.reduceEqDiff, Nat.reduceLT, if_true, if_false, Int.natCast_zero]
  have S1 : MS σ σ1 σ.next (List.replicate (A.length + B.length) 0) := ⟨Nat.le_refl _, Nat.lt_succ_self _, by rw [St.get_new, if_pos rfl], fun c hc => by rw [St.get_new, if_neg (by omega)]⟩
  obtain ⟨σ4, lg4, ts4, O, d4, hO, lO, vO, F4, S4, f4⟩ := mul_outer bA bB hA hB (by omega) (by omega) (A.length + 1) 0 _ σ1 ts3 (by omega) (by omega) F3 (by simp) (fun x hx => by have := List.eq_of_mem_replicate hx; omega) (by rw [val_zeros]; simp [val]) S1
  have hbig : BigS σ4 (.slice (some ⟨σ.next, 0, some 0⟩) (A.length + B.length) (A.length + B.length)) O := .inr ⟨σ.next, 0, A.length + B.length, [], false, by rw [hO], .inl rfl, by omega, S4.nx, by rw [S4.get, List.append_nil]⟩
  obtain ⟨u, dt, bu, nu⟩ := trim_call (by omega) hbig lO
  rw [vO] at bu
  have q5 := F4.t5
  have l4 := F4.len
  obtain ⟨ts5, r5, p4⟩ : ∃ ts5, DC Try.prog false (nthC 3 mulB) ⟨ts4, []⟩ σ4 ⟨.norm, ⟨ts5, []⟩, σ4, []⟩ ∧ lget ts5 4 = u := by
    refine ⟨_, runs (one_ok' Orc.none_ok dt) 40 nobt (by kernel_rfl) (by simp only [go_sem, Nat.reducePow, Nat.reduceDiv, Nat.reduceMod, Nat.reduceAdd, Nat.reduceSub, Nat.reduceMul, Nat.reduceLeDiff, Nat.reduceLT, Nat.reduceEqDiff, reduceCtorEq, reduceIte, reduceDIte, if_pos rfl, Int.reduceLT, Int.reduceLE, Int.reduceEq, Int.reduceNeg, Int.reduceAdd, Int.reduceSub, Int.reduceMul, Int.reduceToNat, nthC, mulB, Option.getD, Orc.one_call, lget_put, lgetq_put, List.length_set, q5, l4, Try.f54, Try.underlying3, info3, Try.t3, Try.underlying4, info4, Try.t4, Try.underlying112, info112, Try.t112, Try.underlying115, info115, Try.t115, Try.underlying154, info154, Try.t154, body85] <;> rfl), ?_⟩
    simp only [lget_put, List.length_set, l4, Nat.reduceEqDiff, Nat.reduceLT, if_true, if_false]
  refine ⟨σ4, u, DCall.fresh (callsD Try.func54 (rfl : Try.f54.body = some mulB) (h0 ▸ DC.seq r1 rfl (DC.seq r2 rfl (DC.seq (DC.seq r3 rfl (DC.block (DC.loop d4))) rfl (DC.seq r5 rfl (DC.ret _ _ _))))) ?_ rfl rfl) (fun c hc => ?_), bu, nu _ fun b o sp len cap e => by cases e; exact Nat.le_refl _⟩
  · simp only [endsA, Try.f54, resA, resList, resOne, p4, Option.map, RR.pre]
  · have : c ∈ lg4 := by simpa [RR.pre] using hc
    have := f4 c this
    omega

end Go.Ab

set_option linter.unusedSimpArgs false
set_option linter.unusedVariables false
namespace Go.Ab
open Go.Proofs

/-- A digit; 0 behind the last one. -/
def at0 (A : List Nat) (i : Nat) : Nat := A[i]?.getD 0

theorem at0_lt {A : List Nat} (h : Low A) (i : Nat) : at0 A i < 65536 := by
  unfold at0
  cases hi : A[i]? with
  | none => simp
  | some a => exact h a (List.mem_of_getElem? hi)
theorem at0_some {A : List Nat} {i : Nat} (h : i < A.length) : A[i]? = some (at0 A i) := by
  unfold at0; rw [List.getElem?_eq_getElem h]; rfl
theorem at0_none {A : List Nat} {i : Nat} (h : A.length ≤ i) : at0 A i = 0 := by
  unfold at0; rw [List.getElem?_eq_none h]; rfl
theorem val_take0 (A : List Nat) (i : Nat) : val (A.take (i + 1)) = val (A.take i) + at0 A i * 65536 ^ i := by
  by_cases h : i < A.length
  · exact val_take (at0_some h)
  · rw [at0_none (by omega), List.take_of_length_le (by omega), List.take_of_length_le (by omega)]; simp

structure AddI (A B D : List Nat) (i c : Nat) : Prop where
  len : D.length = i
  low : Low D
  hc : c ≤ 1
  hi : i ≤ max A.length B.length ∨ (c = 0 ∧ i ≤ max A.length B.length + 1)
  v : val D + c * 65536 ^ i = val (A.take i) + val (B.take i)

theorem AddI.step {A B D : List Nat} {i c : Nat} (h : AddI A B D i c) (hA : Low A) (hB : Low B) (hi : i < A.length ∨ i < B.length ∨ 0 < c) :
    AddI A B (D ++ [(c + at0 A i + at0 B i) % 65536]) (i + 1) ((c + at0 A i + at0 B i) / 65536) where
  len := by simp [h.len]
  low := h.low.append (Low.cons (Nat.mod_lt _ (by omega)) Low.nil)
  hc := by have := at0_lt hA i; have := at0_lt hB i; have := h.hc; omega
  hi := by
    have := h.hc
    rcases h.hi with h1 | h1
    · by_cases h2 : i < max A.length B.length
      · exact .inl (by omega)
      · rw [at0_none (A := A) (by omega), at0_none (A := B) (by omega)]
        exact .inr ⟨by omega, by omega⟩
    · omega
  v := by
    have hv := h.v
    rw [val_append, h.len, val_take0, val_take0]
    simp only [val, Nat.mul_zero, Nat.add_zero]
    generalize at0 A i = a at *
    generalize at0 B i = b at *
    have e1 : (c + a + b) / 65536 * 65536 ^ (i + 1) = ((c + a + b) / 65536 * 65536) * 65536 ^ i := by
      rw [Nat.pow_succ, Nat.mul_assoc, Nat.mul_comm (65536 ^ i) 65536]
    have e2 : ((c + a + b) / 65536 * 65536) * 65536 ^ i + 65536 ^ i * ((c + a + b) % 65536) = c * 65536 ^ i + a * 65536 ^ i + b * 65536 ^ i := by
      rw [Nat.mul_comm (65536 ^ i) _, ← Nat.add_mul, ← Nat.add_mul, ← Nat.add_mul]
      congr 1
      omega
    rw [e1]
    omega

theorem AddI.done {A B D : List Nat} {i : Nat} (h : AddI A B D i 0) (h1 : A.length ≤ i) (h2 : B.length ≤ i) : val D = val A + val B := by
  have hv := h.v
  rw [List.take_of_length_le h1, List.take_of_length_le h2] at hv
  simpa using hv

noncomputable def addB : Code := Try.f128.body.getD .skip
noncomputable def addC : Code := loopOf addB

structure AF (ts : List Value) (v w u : Value) (i c : Nat) : Prop where
  len : ts.length = 53
  t0 : lget ts 0 = v
  t1 : lget ts 1 = w
  t5 : lget ts 5 = u
  t6 : lget ts 6 = .int .u32 c
  t7 : lget ts 7 = .int .i64 i

theorem add_loop {A B : List Nat} {v w : Value} {σ₀ : St} {lo : Nat} (bA : BigS σ₀ v A) (bB : BigS σ₀ w B) (hA : Low A) (hB : Low B) (sA : A.length ≤ 100000) (sB : B.length ≤ 100000) (hlo : σ₀.next ≤ lo) :
    ∀ (n i c : Nat) (D : List Nat) (u : Value) (σ : St) (ts : List Value), max A.length B.length + 2 - i < n → AddI A B D i c → AF ts v w u i c → OutS σ lo u D → (∀ b, b < σ₀.next → σ.get b = σ₀.get b) →
    ∃ σ' lg ts' D' u', DL Try.prog false addC ⟨ts, []⟩ σ ⟨.exit 0, ⟨ts', []⟩, σ', lg⟩ ∧ ts'.length = 53 ∧ lget ts' 5 = u' ∧ Low D' ∧ D'.length ≤ 200000 ∧ val D' = val A + val B ∧ OutS σ' lo u' D' ∧ From lo lg := by
  intro n
  induction n with
  | zero => intro i c D u σ ts hk; omega
  | succ n ih =>
    intro i c D u σ ts hk I F O K
    have q0 := F.t0
    have q1 := F.t1
    have q5 := F.t5
    have q6 := F.t6
    have q7 := F.t7
    have ql := F.len
    have oA := bA.len
    have oB := bB.len
    have hc := I.hc
    have hi := I.hi
    have la := at0_lt hA i
    have lb := at0_lt hB i
    by_cases hgo : i < A.length ∨ i < B.length ∨ 0 < c
    · -- the head
      obtain ⟨ts1, r1, F1⟩ : ∃ ts1, DC Try.prog false (nthC 0 addC) ⟨ts, []⟩ σ ⟨.norm, ⟨ts1, []⟩, σ, []⟩ ∧ AF ts1 v w u i c := by
        by_cases h1 : i < A.length
        · have c1 : (i : Int) < (A.length : Int) := by omega
          refine ⟨_, runs Orc.none_ok 40 nobt (by kernel_rfl) (by simp only [go_sem, Nat.reducePow, Nat.reduceDiv, Nat.reduceMod, Nat.reduceAdd, Nat.reduceSub, Nat.reduceMul, Nat.reduceLeDiff, Nat.reduceLT, Nat.reduceEqDiff, reduceCtorEq, reduceIte, reduceDIte, if_pos rfl, Int.reduceLT, Int.reduceLE, Int.reduceEq, Int.reduceNeg, Int.reduceAdd, Int.reduceSub, Int.reduceMul, Int.reduceToNat, nthC, addC, addB, loopOf, Option.getD, lget_put, lgetq_put, List.length_set, q0, q1, q5, q6, q7, ql, oA, oB, c1, Try.f128, Try.underlying3, info3, Try.t3, Try.underlying4, info4, Try.t4, Try.underlying112, info112, Try.t112, Try.underlying115, info115, Try.t115, Try.underlying154, info154, Try.t154] <;> rfl), ?_⟩
          constructor <;> simp only [lget_put, List.length_set, q0, q1, q5, q6, q7, ql, Nat.reduceEqDiff, Nat.reduceLT, if_true, if_false]
        · have c1 : ¬ (i : Int) < (A.length : Int) := by omega
          by_cases h2 : i < B.length
          · have c2 : (i : Int) < (B.length : Int) := by omega
            refine ⟨_, runs Orc.none_ok 40 nobt (by kernel_rfl) (by simp only [go_sem, Nat.reducePow, Nat.reduceDiv, Nat.reduceMod, Nat.reduceAdd, Nat.reduceSub, Nat.reduceMul, Nat.reduceLeDiff, Nat.reduceLT, Nat.reduceEqDiff, reduceCtorEq, reduceIte, reduceDIte, if_pos rfl, Int.reduceLT, Int.reduceLE, Int.reduceEq, Int.reduceNeg, Int.reduceAdd, Int.reduceSub, Int.reduceMul, Int.reduceToNat, nthC, addC, addB, loopOf, Option.getD, lget_put, lgetq_put, List.length_set, q0, q1, q5, q6, q7, ql, oA, oB, c1, c2, Try.f128, Try.underlying3, info3, Try.t3, Try.underlying4, info4, Try.t4, Try.underlying112, info112, Try.t112, Try.underlying115, info115, Try.t115, Try.underlying154, info154, Try.t154] <;> rfl), ?_⟩
            constructor <;> simp only [lget_put, List.length_set, q0, q1, q5, q6, q7, ql, Nat.reduceEqDiff, Nat.reduceLT, if_true, if_false]
          · have c2 : ¬ (i : Int) < (B.length : Int) := by omega
            have c3 : (0 : Int) < (c : Int) := by omega
            refine ⟨_, runs Orc.none_ok 40 nobt (by kernel_rfl) (by simp only [go_sem, Nat.reducePow, Nat.reduceDiv, Nat.reduceMod, Nat.reduceAdd, Nat.reduceSub, Nat.reduceMul, Nat.reduceLeDiff, Nat.reduceLT, Nat.reduceEqDiff, reduceCtorEq, reduceIte, reduceDIte, if_pos rfl, Int.reduceLT, Int.reduceLE, Int.reduceEq, Int.reduceNeg, Int.reduceAdd, Int.reduceSub, Int.reduceMul, Int.reduceToNat, nthC, addC, addB, loopOf, Option.getD, lget_put, lgetq_put, List.length_set, q0, q1, q5, q6, q7, ql, oA, oB, c1, c2, c3, Try.f128, Try.underlying3, info3, Try.t3, Try.underlying4, info4, Try.t4, Try.underlying112, info112, Try.t112, Try.underlying115, info115, Try.t115, Try.underlying154, info154, Try.t154] <;> rfl), ?_⟩
            constructor <;> simp only [lget_put, List.length_set, q0, q1, q5, q6, q7, ql, Nat.reduceEqDiff, Nat.reduceLT, if_true, if_false]
      have q0 := F1.t0
      have q1 := F1.t1
      have q5 := F1.t5
      have q6 := F1.t6
      have q7 := F1.t7
      have ql := F1.len
      -- the first number's digit
      obtain ⟨ts2, r2, F2⟩ : ∃ ts2, DC Try.prog false (nthC 0 (inBlk (nthC 1 addC))) ⟨ts1, []⟩ σ ⟨.norm, ⟨ts2, []⟩, σ, []⟩ ∧ AF ts2 v w u i (c + at0 A i) := by
        by_cases h1 : i < A.length
        · have c1 : (i : Int) < (A.length : Int) := by omega
          have c2 : (0 : Int) ≤ (i : Int) ∧ (i : Int) < (A.length : Int) := by omega
          obtain ⟨b1, sp1, cap1, vs1, ro1, rfl, hb1, hg1, he1⟩ := bA.at (at0_some h1)
          have g1 : σ.get b1 = some (.cells vs1 ro1) := (K b1 hb1).trans hg1
          have w1 : IntKind.u32.wrap ((c : Int) + (at0 A i : Int)) = ((c + at0 A i : Nat) : Int) := by rw [IntKind.wrap_u32]; omega
          refine ⟨_, runs Orc.none_ok 40 nobt (by kernel_rfl) (by simp only [go_sem, Nat.reducePow, Nat.reduceDiv, Nat.reduceMod, Nat.reduceAdd, Nat.reduceSub, Nat.reduceMul, Nat.reduceLeDiff, Nat.reduceLT, Nat.reduceEqDiff, reduceCtorEq, reduceIte, reduceDIte, if_pos rfl, Int.reduceLT, Int.reduceLE, Int.reduceEq, Int.reduceNeg, Int.reduceAdd, Int.reduceSub, Int.reduceMul, Int.reduceToNat, nthC, inBlk, addC, addB, loopOf, Option.getD, lget_put, lgetq_put, List.length_set, q0, q1, q5, q6, q7, ql, oA, oB, c1, c2, g1, he1, w1, Int.toNat_natCast, Try.f128, Try.underlying3, info3, Try.t3, Try.underlying4, info4, Try.t4, Try.underlying112, info112, Try.t112, Try.underlying115, info115, Try.t115, Try.underlying154, info154, Try.t154] <;> rfl), ?_⟩
          constructor <;> simp only [lget_put, List.length_set, q0, q1, q5, q6, q7, ql, Nat.reduceEqDiff, Nat.reduceLT, if_true, if_false]
        · have c1 : ¬ (i : Int) < (A.length : Int) := by omega
          rw [at0_none (by omega), Nat.add_zero]
          refine ⟨_, runs Orc.none_ok 40 nobt (by kernel_rfl) (by simp only [go_sem, Nat.reducePow, Nat.reduceDiv, Nat.reduceMod, Nat.reduceAdd, Nat.reduceSub, Nat.reduceMul, Nat.reduceLeDiff, Nat.reduceLT, Nat.reduceEqDiff, reduceCtorEq, reduceIte, reduceDIte, if_pos rfl, Int.reduceLT, Int.reduceLE, Int.reduceEq, Int.reduceNeg, Int.reduceAdd, Int.reduceSub, Int.reduceMul, Int.reduceToNat, nthC, inBlk, addC, addB, loopOf, Option.getD, lget_put, lgetq_put, List.length_set, q0, q1, q5, q6, q7, ql, oA, oB, c1, Try.f128, Try.underlying3, info3, Try.t3, Try.underlying4, info4, Try.t4, Try.underlying112, info112, Try.t112, Try.underlying115, info115, Try.t115, Try.underlying154, info154, Try.t154] <;> rfl), ?_⟩
          constructor <;> simp only [lget_put, List.length_set, q0, q1, q5, q6, q7, ql, Nat.reduceEqDiff, Nat.reduceLT, if_true, if_false]
      have q0 := F2.t0
      have q1 := F2.t1
      have q5 := F2.t5
      have q6 := F2.t6
      have q7 := F2.t7
      have ql := F2.len
      obtain ⟨c', hc'⟩ : ∃ c', c + at0 A i = c' := ⟨_, rfl⟩
      rw [hc'] at q6
      -- the second number's digit
      obtain ⟨ts3, r3, F3⟩ : ∃ ts3, DC Try.prog false (nthC 1 (inBlk (nthC 1 addC))) ⟨ts2, []⟩ σ ⟨.norm, ⟨ts3, []⟩, σ, []⟩ ∧ AF ts3 v w u i (c' + at0 B i) := by
        by_cases h1 : i < B.length
        · have c1 : (i : Int) < (B.length : Int) := by omega
          have c2 : (0 : Int) ≤ (i : Int) ∧ (i : Int) < (B.length : Int) := by omega
          obtain ⟨b1, sp1, cap1, vs1, ro1, rfl, hb1, hg1, he1⟩ := bB.at (at0_some h1)
          have g1 : σ.get b1 = some (.cells vs1 ro1) := (K b1 hb1).trans hg1
          have w1 : IntKind.u32.wrap ((c' : Int) + (at0 B i : Int)) = ((c' + at0 B i : Nat) : Int) := by rw [IntKind.wrap_u32]; omega
          refine ⟨_, runs Orc.none_ok 40 nobt (by kernel_rfl) (by simp only [go_sem, Nat.reducePow, Nat.reduceDiv, Nat.reduceMod, Nat.reduceAdd, Nat.reduceSub, Nat.reduceMul, Nat.reduceLeDiff, Nat.reduceLT, Nat.reduceEqDiff, reduceCtorEq, reduceIte, reduceDIte, if_pos rfl, Int.reduceLT, Int.reduceLE, Int.reduceEq, Int.reduceNeg, Int.reduceAdd, Int.reduceSub, Int.reduceMul, Int.reduceToNat, nthC, inBlk, addC, addB, loopOf, Option.getD, lget_put, lgetq_put, List.length_set, q0, q1, q5, q6, q7, ql, oA, oB, c1, c2, g1, he1, w1, Int.toNat_natCast, Try.f128, Try.underlying3, info3, Try.t3, Try.underlying4, info4, Try.t4, Try.underlying112, info112, Try.t112, Try.underlying115, info115, Try.t115, Try.underlying154, info154, Try.t154] <;> rfl), ?_⟩
          constructor <;> simp only [lget_put, List.length_set, q0, q1, q5, q6, q7, ql, Nat.reduceEqDiff, Nat.reduceLT, if_true, if_false]
        · have c1 : ¬ (i : Int) < (B.length : Int) := by omega
          rw [at0_none (A := B) (by omega), Nat.add_zero]
          refine ⟨_, runs Orc.none_ok 40 nobt (by kernel_rfl) (by simp only [go_sem, Nat.reducePow, Nat.reduceDiv, Nat.reduceMod, Nat.reduceAdd, Nat.reduceSub, Nat.reduceMul, Nat.reduceLeDiff, Nat.reduceLT, Nat.reduceEqDiff, reduceCtorEq, reduceIte, reduceDIte, if_pos rfl, Int.reduceLT, Int.reduceLE, Int.reduceEq, Int.reduceNeg, Int.reduceAdd, Int.reduceSub, Int.reduceMul, Int.reduceToNat, nthC, inBlk, addC, addB, loopOf, Option.getD, lget_put, lgetq_put, List.length_set, q0, q1, q5, q6, q7, ql, oA, oB, c1, Try.f128, Try.underlying3, info3, Try.t3, Try.underlying4, info4, Try.t4, Try.underlying112, info112, Try.t112, Try.underlying115, info115, Try.t115, Try.underlying154, info154, Try.t154] <;> rfl), ?_⟩
          constructor <;> simp only [lget_put, List.length_set, q0, q1, q5, q6, q7, ql, Nat.reduceEqDiff, Nat.reduceLT, if_true, if_false]
      have q0 := F3.t0
      have q1 := F3.t1
      have q5 := F3.t5
      have q6 := F3.t6
      have q7 := F3.t7
      have ql := F3.len
      obtain ⟨t, ht⟩ : ∃ t, c' + at0 B i = t := ⟨_, rfl⟩
      rw [ht] at q6
      have I' := I.step hA hB hgo
      rw [hc', ht] at I'
      obtain ⟨σ1, u1, l1, ra, hap, hk1, hf, O1⟩ := O.more (t % 65536) (by rw [I.len]; omega)
      have e1 : (t : Int).tmod 65536 = ((t % 65536 : Nat) : Int) := by rw [Int.tmod_eq_emod_of_nonneg (by omega)]; rfl
      have e2 : (t : Int).tdiv 65536 = ((t / 65536 : Nat) : Int) := by rw [Int.tdiv_eq_ediv_of_nonneg (by omega)]; rfl
      have w1 : IntKind.u32.wrap ((t % 65536 : Nat) : Int) = ((t % 65536 : Nat) : Int) := by rw [IntKind.wrap_u32]; omega
      have w2 : IntKind.u32.wrap ((t / 65536 : Nat) : Int) = ((t / 65536 : Nat) : Int) := by rw [IntKind.wrap_u32]; omega
      obtain ⟨ts4, r4, F4⟩ : ∃ ts4, DC Try.prog false (nthC 2 (inBlk (nthC 1 addC))) ⟨ts3, []⟩ σ ⟨.norm, ⟨ts4, []⟩, σ1, l1⟩ ∧ AF ts4 v w u1 i t := by
        refine ⟨_, runs Orc.none_ok 40 nobt (by kernel_rfl) (by simp only [go_sem, Nat.reducePow, Nat.reduceDiv, Nat.reduceMod, Nat.reduceAdd, Nat.reduceSub, Nat.reduceMul, Nat.reduceLeDiff, Nat.reduceLT, Nat.reduceEqDiff, reduceCtorEq, reduceIte, reduceDIte, if_pos rfl, Int.reduceLT, Int.reduceLE, Int.reduceEq, Int.reduceNeg, Int.reduceAdd, Int.reduceSub, Int.reduceMul, Int.reduceToNat, nthC, inBlk, addC, addB, loopOf, Option.getD, lget_put, lgetq_put, List.length_set, q5, q6, ql, e1, w1, zerosN, hap, hk1, Try.f128, Try.underlying3, info3, Try.t3, Try.underlying4, info4, Try.t4, Try.underlying112, info112, Try.t112, Try.underlying115, info115, Try.t115, Try.underlying154, info154, Try.t154] <;> rfl), ?_⟩
        constructor <;> simp only [lget_put, List.length_set, q0, q1, q5, q6, q7, ql, Nat.reduceEqDiff, Nat.reduceLT, if_true, if_false]
      have q0 := F4.t0
      have q1 := F4.t1
      have q5 := F4.t5
      have q6 := F4.t6
      have q7 := F4.t7
      have ql := F4.len
      obtain ⟨ts5, r5, F5⟩ : ∃ ts5, DC Try.prog false (nthC 3 (inBlk (nthC 1 addC))) ⟨ts4, []⟩ σ1 ⟨.norm, ⟨ts5, []⟩, σ1, []⟩ ∧ AF ts5 v w u1 i (t / 65536) := by
        refine ⟨_, runs Orc.none_ok 40 nobt (by kernel_rfl) (by simp only [go_sem, Nat.reducePow, Nat.reduceDiv, Nat.reduceMod, Nat.reduceAdd, Nat.reduceSub, Nat.reduceMul, Nat.reduceLeDiff, Nat.reduceLT, Nat.reduceEqDiff, reduceCtorEq, reduceIte, reduceDIte, if_pos rfl, Int.reduceLT, Int.reduceLE, Int.reduceEq, Int.reduceNeg, Int.reduceAdd, Int.reduceSub, Int.reduceMul, Int.reduceToNat, nthC, inBlk, addC, addB, loopOf, Option.getD, lget_put, lgetq_put, List.length_set, q6, ql, e2, w2, Try.f128, Try.underlying3, info3, Try.t3, Try.underlying4, info4, Try.t4, Try.underlying112, info112, Try.t112, Try.underlying115, info115, Try.t115, Try.underlying154, info154, Try.t154] <;> rfl), ?_⟩
        constructor <;> simp only [lget_put, List.length_set, q0, q1, q5, q6, q7, ql, Nat.reduceEqDiff, Nat.reduceLT, if_true, if_false]
      have q0 := F5.t0
      have q1 := F5.t1
      have q5 := F5.t5
      have q6 := F5.t6
      have q7 := F5.t7
      have ql := F5.len
      have w3 : IntKind.i64.wrap ((i : Int) + 1) = ((i + 1 : Nat) : Int) := by rw [IntKind.wrap_i64]; omega
      obtain ⟨ts6, r6, F6⟩ : ∃ ts6, DC Try.prog false (nthC 2 addC) ⟨ts5, []⟩ σ1 ⟨.norm, ⟨ts6, []⟩, σ1, []⟩ ∧ AF ts6 v w u1 (i + 1) (t / 65536) := by
        refine ⟨_, runs Orc.none_ok 40 nobt (by kernel_rfl) (by simp only [go_sem, Nat.reducePow, Nat.reduceDiv, Nat.reduceMod, Nat.reduceAdd, Nat.reduceSub, Nat.reduceMul, Nat.reduceLeDiff, Nat.reduceLT, Nat.reduceEqDiff, reduceCtorEq, reduceIte, reduceDIte, if_pos rfl, Int.reduceLT, Int.reduceLE, Int.reduceEq, Int.reduceNeg, Int.reduceAdd, Int.reduceSub, Int.reduceMul, Int.reduceToNat, nthC, addC, addB, loopOf, Option.getD, lget_put, lgetq_put, List.length_set, q7, ql, w3, Try.f128, Try.underlying3, info3, Try.t3, Try.underlying4, info4, Try.t4, Try.underlying112, info112, Try.t112, Try.underlying115, info115, Try.t115, Try.underlying154, info154, Try.t154] <;> rfl), ?_⟩
        constructor <;> simp only [lget_put, List.length_set, q0, q1, q5, q6, q7, ql, Nat.reduceEqDiff, Nat.reduceLT, if_true, if_false]
      have round : DC Try.prog false addC ⟨ts, []⟩ σ ⟨.norm, ⟨ts6, []⟩, σ1, (l1 ++ []) ++ []⟩ := DC.seq r1 rfl (DC.seq (DC.block (DC.seq r2 rfl (DC.seq r3 rfl (DC.seq r4 rfl r5)))) rfl r6)
      have K1 : ∀ b, b < σ₀.next → σ1.get b = σ₀.get b := fun b hb => by
        have h9 := r4.1.2 b (by have := O.1; show b < σ.next; omega) (fun hm => by have := hf b hm; omega)
        exact h9.trans (K b hb)
      obtain ⟨σ', lg, ts', D', u', a1, a2, a3, a4, a5, a6, a7, a8⟩ := ih (i + 1) _ _ u1 σ1 ts6 (by omega) I' F6 O1 K1
      exact ⟨σ', _, ts', D', u', DL.next round rfl a1, a2, a3, a4, a5, a6, a7, ((hf.append From.nil).append From.nil).append a8⟩
    · obtain rfl : c = 0 := by omega
      have c1 : ¬ (i : Int) < (A.length : Int) := by omega
      have c2 : ¬ (i : Int) < (B.length : Int) := by omega
      obtain ⟨ts1, r1, F1⟩ : ∃ ts1, DC Try.prog false (nthC 0 addC) ⟨ts, []⟩ σ ⟨.exit 0, ⟨ts1, []⟩, σ, []⟩ ∧ AF ts1 v w u i 0 := by
        refine ⟨_, runs Orc.none_ok 40 nobt (by kernel_rfl) (by simp only [go_sem, Nat.reducePow, Nat.reduceDiv, Nat.reduceMod, Nat.reduceAdd, Nat.reduceSub, Nat.reduceMul, Nat.reduceLeDiff, Nat.reduceLT, Nat.reduceEqDiff, reduceCtorEq, reduceIte, reduceDIte, if_pos rfl, Int.reduceLT, Int.reduceLE, Int.reduceEq, Int.reduceNeg, Int.reduceAdd, Int.reduceSub, Int.reduceMul, Int.reduceToNat, nthC, addC, addB, loopOf, Option.getD, lget_put, lgetq_put, List.length_set, q0, q1, q5, q6, q7, ql, oA, oB, c1, c2, Int.natCast_zero, Int.lt_irrefl, Try.f128, Try.underlying3, info3, Try.t3, Try.underlying4, info4, Try.t4, Try.underlying112, info112, Try.t112, Try.underlying115, info115, Try.t115, Try.underlying154, info154, Try.t154] <;> rfl), ?_⟩
        constructor <;> simp only [lget_put, List.length_set, q0, q1, q5, q6, q7, ql, Nat.reduceEqDiff, Nat.reduceLT, if_true, if_false]
      have out : DC Try.prog false addC ⟨ts, []⟩ σ ⟨.exit 0, ⟨ts1, []⟩, σ, []⟩ := DC.seq_out r1 rfl
      exact ⟨σ, [], ts1, D, u, DL.out out rfl, F1.len, F1.t5, I.low, by rw [I.len]; omega, I.done (by omega) (by omega), O, From.nil⟩

end Go.Ab

set_option linter.unusedSimpArgs false
set_option linter.unusedVariables false
namespace Go.Ab
open Go.Proofs

theorem add_call {A B : List Nat} {v w : Value} {σ : St} (bA : BigS σ v A) (bB : BigS σ w B) (hA : Low A) (hB : Low B) (sA : A.length ≤ 100000) (sB : B.length ≤ 100000) :
    ∃ σ' u, DCall Try.prog 128 [v, w] σ (.ret u) σ' [] ∧ BigS σ' u (dig (val A + val B)) ∧ NewBlk σ.next u := by
  obtain ⟨ts0, h0, l0, q0, q1⟩ : ∃ ts0, start [v, w] Try.f128.ntmps = ⟨ts0, []⟩ ∧ ts0.length = 53 ∧ lget ts0 0 = v ∧ lget ts0 1 = w := ⟨(start [v, w] 53).ts, rfl, rfl, rfl, rfl⟩
  obtain ⟨ts1, r1, l1, q0, q1⟩ : ∃ ts1, DC Try.prog false (nthC 0 addB) ⟨ts0, []⟩ σ ⟨.norm, ⟨ts1, []⟩, σ, []⟩ ∧ ts1.length = 53 ∧ lget ts1 0 = v ∧ lget ts1 1 = w := by
    refine ⟨_, runs Orc.none_ok 40 nobt (by kernel_rfl) (by simp only [go_sem, Nat.reducePow, Nat.reduceDiv, Nat.reduceMod, Nat.reduceAdd, Nat.reduceSub, Nat.reduceMul, Nat.reduceLeDiff, Nat.reduceLT, Nat.reduceEqDiff, reduceCtorEq, reduceIte, reduceDIte, if_pos rfl, Int.reduceLT, Int.reduceLE, Int.reduceEq, Int.reduceNeg, Int.reduceAdd, Int.reduceSub, Int.reduceMul, Int.reduceToNat, nthC, addB, Option.getD, lget_put, lgetq_put, List.length_set, l0, Try.f128, Try.underlying3, info3, Try.t3, Try.underlying4, info4, Try.t4, Try.underlying112, info112, Try.t112, Try.underlying115, info115, Try.t115, Try.underlying154, info154, Try.t154] <;> rfl), ?_, ?_, ?_⟩
    · simp only [List.length_set, l0]
    · simp only [lget_put, List.length_set, q0, l0, Nat.reduceEqDiff, Nat.reduceLT, if_true, if_false]
    · simp only [lget_put, List.length_set, q1, l0, Nat.reduceEqDiff, Nat.reduceLT, if_true, if_false]
  obtain ⟨ts2, r2, l2, q0, q1, q5⟩ : ∃ ts2, DC Try.prog false (nthC 1 addB) ⟨ts1, []⟩ σ ⟨.norm, ⟨ts2, []⟩, σ, []⟩ ∧ ts2.length = 53 ∧ lget ts2 0 = v ∧ lget ts2 1 = w ∧ lget ts2 5 = .slice none 0 0 := by
    refine ⟨_, runs Orc.none_ok 40 nobt (by kernel_rfl) (by simp only [go_sem, Nat.reducePow, Nat.reduceDiv, Nat.reduceMod, Nat.reduceAdd, Nat.reduceSub, Nat.reduceMul, Nat.reduceLeDiff, Nat.reduceLT, Nat.reduceEqDiff, reduceCtorEq, reduceIte, reduceDIte, if_pos rfl, Int.reduceLT, Int.reduceLE, Int.reduceEq, Int.reduceNeg, Int.reduceAdd, Int.reduceSub, Int.reduceMul, Int.reduceToNat, nthC, addB, Option.getD, lget_put, lgetq_put, List.length_set, l1, Try.f128, Try.underlying3, info3, Try.t3, Try.underlying4, info4, Try.t4, Try.underlying112, info112, Try.t112, Try.underlying115, info115, Try.t115, Try.underlying154, info154, Try.t154] <;> rfl), ?_, ?_, ?_, ?_⟩
    · simp only [List.length_set, l1]
    · simp only [lget_put, List.length_set, q0, l1, Nat.reduceEqDiff, Nat.reduceLT, if_true, if_false]
    · simp only [lget_put, List.length_set, q1, l1, Nat.reduceEqDiff, Nat.reduceLT, if_true, if_false]
    · simp only [lget_put, List.length_set, l1, Nat.reduceEqDiff, Nat.reduceLT, if_true, if_false]
  obtain ⟨ts3, r3, l3, q0, q1, q5, q6⟩ : ∃ ts3, DC Try.prog false (nthC 2 addB) ⟨ts2, []⟩ σ ⟨.norm, ⟨ts3, []⟩, σ, []⟩ ∧ ts3.length = 53 ∧ lget ts3 0 = v ∧ lget ts3 1 = w ∧ lget ts3 5 = .slice none 0 0 ∧ lget ts3 6 = .int .u32 (0 : Nat) := by
    refine ⟨_, runs Orc.none_ok 40 nobt (by kernel_rfl) (by simp only [go_sem, Nat.reducePow, Nat.reduceDiv, Nat.reduceMod, Nat.reduceAdd, Nat.reduceSub, Nat.reduceMul, Nat.reduceLeDiff, Nat.reduceLT, Nat.reduceEqDiff, reduceCtorEq, reduceIte, reduceDIte, if_pos rfl, Int.reduceLT, Int.reduceLE, Int.reduceEq, Int.reduceNeg, Int.reduceAdd, Int.reduceSub, Int.reduceMul, Int.reduceToNat, nthC, addB, Option.getD, lget_put, lgetq_put, List.length_set, l2, Try.f128, Try.underlying3, info3, Try.t3, Try.underlying4, info4, Try.t4, Try.underlying112, info112, Try.t112, Try.underlying115, info115, Try.t115, Try.underlying154, info154, Try.t154] <;> rfl), ?_, ?_, ?_, ?_, ?_⟩
    · simp only [List.length_set, l2]
    · simp only [lget_put, List.length_set, q0, l2, Nat.reduceEqDiff, Nat.reduceLT, if_true, if_false]
    · simp only [lget_put, List.length_set, q1, l2, Nat.reduceEqDiff, Nat.reduceLT, if_true, if_false]
    · simp only [lget_put, List.length_set, q5, l2, Nat.reduceEqDiff, Nat.reduceLT, if_true, if_false]
    · simp only [lget_put, List.length_set, l2, Nat.reduceEqDiff, Nat.reduceLT, if_true, if_false, Int.natCast_zero]
  obtain ⟨ts4, r4, F4⟩ : ∃ ts4, DC Try.prog false (nthC 0 (nthC 3 addB)) ⟨ts3, []⟩ σ ⟨.norm, ⟨ts4, []⟩, σ, []⟩ ∧ AF ts4 v w (.slice none 0 0) 0 0 := by
    refine ⟨_, runs Orc.none_ok 40 nobt (by kernel_rfl) (by simp only [go_sem, Nat.reducePow, Nat.reduceDiv, Nat.reduceMod, Nat.reduceAdd, Nat.reduceSub, Nat.reduceMul, Nat.reduceLeDiff, Nat.reduceLT, Nat.reduceEqDiff, reduceCtorEq, reduceIte, reduceDIte, if_pos rfl, Int.reduceLT, Int.reduceLE, Int.reduceEq, Int.reduceNeg, Int.reduceAdd, Int.reduceSub, Int.reduceMul, Int.reduceToNat, nthC, addB, Option.getD, lget_put, lgetq_put, List.length_set, l3, Try.f128, Try.underlying3, info3, Try.t3, Try.underlying4, info4, Try.t4, Try.underlying112, info112, Try.t112, Try.underlying115, info115, Try.t115, Try.underlying154, info154, Try.t154] <;> rfl), ?_⟩
    constructor <;> simp only [lget_put, List.length_set, q0, q1, q5, q6, l3, Nat.reduceEqDiff, Nat.reduceLT, if_true, if_false, Int.natCast_zero]
  obtain ⟨σ5, lg5, ts5, D, u, d5, l5, q5, lD, sD, vD, O5, f5⟩ := add_loop bA bB hA hB sA sB (Nat.le_refl _) (max A.length B.length + 3) 0 0 [] _ σ ts4 (by omega) ⟨rfl, Low.nil, by omega, .inl (by omega), by simp [val]⟩ F4 ⟨Nat.le_refl _, .inl ⟨rfl, rfl⟩⟩ (fun _ _ => rfl)
  obtain ⟨u', dt, bu, nu⟩ := trim_call (by omega) O5.big lD
  rw [vD] at bu
  obtain ⟨ts6, r6, p4⟩ : ∃ ts6, DC Try.prog false (nthC 4 addB) ⟨ts5, []⟩ σ5 ⟨.norm, ⟨ts6, []⟩, σ5, []⟩ ∧ lget ts6 4 = u' := by
    refine ⟨_, runs (one_ok' Orc.none_ok dt) 40 nobt (by kernel_rfl) (by simp only [go_sem, Nat.reducePow, Nat.reduceDiv, Nat.reduceMod, Nat.reduceAdd, Nat.reduceSub, Nat.reduceMul, Nat.reduceLeDiff, Nat.reduceLT, Nat.reduceEqDiff, reduceCtorEq, reduceIte, reduceDIte, if_pos rfl, Int.reduceLT, Int.reduceLE, Int.reduceEq, Int.reduceNeg, Int.reduceAdd, Int.reduceSub, Int.reduceMul, Int.reduceToNat, nthC, addB, Option.getD, Orc.one_call, lget_put, lgetq_put, List.length_set, q5, l5, Try.f128, Try.underlying3, info3, Try.t3, Try.underlying4, info4, Try.t4, Try.underlying112, info112, Try.t112, Try.underlying115, info115, Try.t115, Try.underlying154, info154, Try.t154, body85] <;> rfl), ?_⟩
    simp only [lget_put, List.length_set, l5, Nat.reduceEqDiff, Nat.reduceLT, if_true, if_false]
  refine ⟨σ5, u', DCall.fresh (callsD Try.func128 (rfl : Try.f128.body = some addB) (h0 ▸ DC.seq r1 rfl (DC.seq r2 rfl (DC.seq r3 rfl (DC.seq (DC.seq r4 rfl (DC.block (DC.loop d5))) rfl (DC.seq r6 rfl (DC.ret _ _ _)))))) ?_ rfl rfl) (fun c hc => ?_), bu, nu _ O5.new⟩
  · simp only [endsA, Try.f128, resA, resList, resOne, p4, Option.map, RR.pre]
  · exact f5 c (by simpa [RR.pre] using hc)

/-! ### Sub -/
structure SubI (A B D : List Nat) (i : Nat) (c : Int) : Prop where
  len : D.length = i
  low : Low D
  hc : c = 0 ∨ c = -1
  v : (val D : Int) + c * ((65536 ^ i : Nat) : Int) = (val (A.take i) : Int) - (val (B.take i) : Int)

theorem SubI.step {A B D : List Nat} {i : Nat} {c c' : Int} {d : Nat} (h : SubI A B D i c) (hd : d < 65536) (hc' : c' = 0 ∨ c' = -1) (he : (d : Int) + 65536 * c' = c + (at0 A i : Int) - (at0 B i : Int)) : SubI A B (D ++ [d]) (i + 1) c' where
  len := by simp [h.len]
  low := h.low.append (Low.cons hd Low.nil)
  hc := hc'
  v := by
    have hv := h.v
    have h1 : val (D ++ [d]) = val D + 65536 ^ i * d := by rw [val_append, h.len]; simp [val]
    have h2 := val_take0 A i
    have h3 := val_take0 B i
    have h4 : 65536 ^ (i + 1) = 65536 ^ i * 65536 := Nat.pow_succ ..
    rw [h1, h2, h3, h4]
    generalize 65536 ^ i = P at *
    generalize at0 A i = a at *
    generalize at0 B i = b at *
    simp only [Int.natCast_add, Int.natCast_mul]
    have e : (P : Int) * ((d : Int) + 65536 * c') = P * (c + a - b) := by rw [he]
    grind

theorem SubI.done {A B D : List Nat} {c : Int} (h : SubI A B D A.length c) (hl : B.length ≤ A.length) (hle : val B ≤ val A) : val D = val A - val B := by
  have hv := h.v
  rw [List.take_length, List.take_of_length_le hl] at hv
  have hb := val_lt D h.low
  rw [h.len] at hb
  rcases h.hc with rfl | rfl <;> omega

noncomputable def subB : Code := Try.f129.body.getD .skip
noncomputable def subC : Code := loopOf subB

structure SF (ts : List Value) (v w u : Value) (i : Nat) (c : Int) : Prop where
  len : ts.length = 45
  t0 : lget ts 0 = v
  t1 : lget ts 1 = w
  t5 : lget ts 5 = u
  t6 : lget ts 6 = .int .i64 c
  t7 : lget ts 7 = .int .i64 i

theorem sub_loop {A B : List Nat} {v w : Value} {σ₀ : St} {lo : Nat} (bA : BigS σ₀ v A) (bB : BigS σ₀ w B) (hA : Low A) (hB : Low B) (sA : A.length ≤ 100000) (sB : B.length ≤ 100000) (hlo : σ₀.next ≤ lo) :
    ∀ (n i : Nat) (c : Int) (D : List Nat) (u : Value) (σ : St) (ts : List Value), A.length - i < n → i ≤ A.length → SubI A B D i c → SF ts v w u i c → OutS σ lo u D → (∀ b, b < σ₀.next → σ.get b = σ₀.get b) →
    ∃ σ' lg ts' D' u' c', DL Try.prog false subC ⟨ts, []⟩ σ ⟨.exit 0, ⟨ts', []⟩, σ', lg⟩ ∧ ts'.length = 45 ∧ lget ts' 5 = u' ∧ SubI A B D' A.length c' ∧ OutS σ' lo u' D' ∧ From lo lg := by
  intro n
  induction n with
  | zero => intro i c D u σ ts hk; omega
  | succ n ih =>
    intro i c D u σ ts hk hi I F O K
    have q0 := F.t0
    have q1 := F.t1
    have q5 := F.t5
    have q6 := F.t6
    have q7 := F.t7
    have ql := F.len
    have oA := bA.len
    have oB := bB.len
    have hc := I.hc
    have la := at0_lt hA i
    have lb := at0_lt hB i
    by_cases hgo : i < A.length
    · have c1 : (i : Int) < (A.length : Int) := by omega
      have c2 : (0 : Int) ≤ (i : Int) ∧ (i : Int) < (A.length : Int) := by omega
      obtain ⟨ts1, r1, F1⟩ : ∃ ts1, DC Try.prog false (nthC 0 subC) ⟨ts, []⟩ σ ⟨.norm, ⟨ts1, []⟩, σ, []⟩ ∧ SF ts1 v w u i c := by
        refine ⟨_, runs Orc.none_ok 40 nobt (by kernel_rfl) (by simp only [go_sem, Nat.reducePow, Nat.reduceDiv, Nat.reduceMod, Nat.reduceAdd, Nat.reduceSub, Nat.reduceMul, Nat.reduceLeDiff, Nat.reduceLT, Nat.reduceEqDiff, reduceCtorEq, reduceIte, reduceDIte, if_pos rfl, Int.reduceLT, Int.reduceLE, Int.reduceEq, Int.reduceNeg, Int.reduceAdd, Int.reduceSub, Int.reduceMul, Int.reduceToNat, nthC, subC, subB, loopOf, Option.getD, lget_put, lgetq_put, List.length_set, q0, q1, q5, q6, q7, ql, oA, oB, c1, Try.f129, Try.underlying2, info2, Try.t2, Try.underlying3, info3, Try.t3, Try.underlying4, info4, Try.t4, Try.underlying112, info112, Try.t112, Try.underlying115, info115, Try.t115, Try.underlying154, info154, Try.t154] <;> rfl), ?_⟩
        constructor <;> simp only [lget_put, List.length_set, q0, q1, q5, q6, q7, ql, Nat.reduceEqDiff, Nat.reduceLT, if_true, if_false]
      have q0 := F1.t0
      have q1 := F1.t1
      have q5 := F1.t5
      have q6 := F1.t6
      have q7 := F1.t7
      have ql := F1.len
      obtain ⟨ts2, r2, F2⟩ : ∃ ts2, DC Try.prog false (nthC 0 (inBlk (nthC 1 subC))) ⟨ts1, []⟩ σ ⟨.norm, ⟨ts2, []⟩, σ, []⟩ ∧ SF ts2 v w u i (c + (at0 A i : Int)) := by
        obtain ⟨b1, sp1, cap1, vs1, ro1, rfl, hb1, hg1, he1⟩ := bA.at (at0_some hgo)
        have g1 : σ.get b1 = some (.cells vs1 ro1) := (K b1 hb1).trans hg1
        have w0 : IntKind.i64.wrap (at0 A i : Int) = (at0 A i : Int) := by rw [IntKind.wrap_i64]; omega
        have w1 : IntKind.i64.wrap (c + (at0 A i : Int)) = c + (at0 A i : Int) := by rw [IntKind.wrap_i64]; omega
        refine ⟨_, runs Orc.none_ok 40 nobt (by kernel_rfl) (by simp only [go_sem, Nat.reducePow, Nat.reduceDiv, Nat.reduceMod, Nat.reduceAdd, Nat.reduceSub, Nat.reduceMul, Nat.reduceLeDiff, Nat.reduceLT, Nat.reduceEqDiff, reduceCtorEq, reduceIte, reduceDIte, if_pos rfl, Int.reduceLT, Int.reduceLE, Int.reduceEq, Int.reduceNeg, Int.reduceAdd, Int.reduceSub, Int.reduceMul, Int.reduceToNat, nthC, inBlk, subC, subB, loopOf, Option.getD, lget_put, lgetq_put, List.length_set, q0, q1, q5, q6, q7, ql, oA, oB, c1, c2, g1, he1, w0, w1, Int.toNat_natCast, Try.f129, Try.underlying2, info2, Try.t2, Try.underlying3, info3, Try.t3, Try.underlying4, info4, Try.t4, Try.underlying112, info112, Try.t112, Try.underlying115, info115, Try.t115, Try.underlying154, info154, Try.t154] <;> rfl), ?_⟩
        constructor <;> simp only [lget_put, List.length_set, q0, q1, q5, q6, q7, ql, Nat.reduceEqDiff, Nat.reduceLT, if_true, if_false]
      have q0 := F2.t0
      have q1 := F2.t1
      have q5 := F2.t5
      have q6 := F2.t6
      have q7 := F2.t7
      have ql := F2.len
      obtain ⟨s, hs⟩ : ∃ s, c + (at0 A i : Int) - (at0 B i : Int) = s := ⟨_, rfl⟩
      obtain ⟨s1, hs1⟩ : ∃ s1, c + (at0 A i : Int) = s1 := ⟨_, rfl⟩
      rw [hs1] at q6
      obtain ⟨ts3, r3, F3⟩ : ∃ ts3, DC Try.prog false (nthC 1 (inBlk (nthC 1 subC))) ⟨ts2, []⟩ σ ⟨.norm, ⟨ts3, []⟩, σ, []⟩ ∧ SF ts3 v w u i s := by
        by_cases h1 : i < B.length
        · have c1 : (i : Int) < (B.length : Int) := by omega
          have c2 : (0 : Int) ≤ (i : Int) ∧ (i : Int) < (B.length : Int) := by omega
          obtain ⟨b1, sp1, cap1, vs1, ro1, rfl, hb1, hg1, he1⟩ := bB.at (at0_some h1)
          have g1 : σ.get b1 = some (.cells vs1 ro1) := (K b1 hb1).trans hg1
          have w0 : IntKind.i64.wrap (at0 B i : Int) = (at0 B i : Int) := by rw [IntKind.wrap_i64]; omega
          have w1 : IntKind.i64.wrap (s1 - (at0 B i : Int)) = s := by rw [IntKind.wrap_i64]; omega
          refine ⟨_, runs Orc.none_ok 40 nobt (by kernel_rfl) (by simp only [go_sem, Nat.reducePow, Nat.reduceDiv, Nat.reduceMod, Nat.reduceAdd, Nat.reduceSub, Nat.reduceMul, Nat.reduceLeDiff, Nat.reduceLT, Nat.reduceEqDiff, reduceCtorEq, reduceIte, reduceDIte, if_pos rfl, Int.reduceLT, Int.reduceLE, Int.reduceEq, Int.reduceNeg, Int.reduceAdd, Int.reduceSub, Int.reduceMul, Int.reduceToNat, nthC, inBlk, subC, subB, loopOf, Option.getD, lget_put, lgetq_put, List.length_set, q0, q1, q5, q6, q7, ql, oA, oB, c1, c2, g1, he1, w0, w1, Int.toNat_natCast, Try.f129, Try.underlying2, info2, Try.t2, Try.underlying3, info3, Try.t3, Try.underlying4, info4, Try.t4, Try.underlying112, info112, Try.t112, Try.underlying115, info115, Try.t115, Try.underlying154, info154, Try.t154] <;> rfl), ?_⟩
          constructor <;> simp only [lget_put, List.length_set, q0, q1, q5, q6, q7, ql, Nat.reduceEqDiff, Nat.reduceLT, if_true, if_false]
        · have c1 : ¬ (i : Int) < (B.length : Int) := by omega
          have : s1 = s := by rw [at0_none (A := B) (by omega)] at hs; omega
          rw [← this]
          refine ⟨_, runs Orc.none_ok 40 nobt (by kernel_rfl) (by simp only [go_sem, Nat.reducePow, Nat.reduceDiv, Nat.reduceMod, Nat.reduceAdd, Nat.reduceSub, Nat.reduceMul, Nat.reduceLeDiff, Nat.reduceLT, Nat.reduceEqDiff, reduceCtorEq, reduceIte, reduceDIte, if_pos rfl, Int.reduceLT, Int.reduceLE, Int.reduceEq, Int.reduceNeg, Int.reduceAdd, Int.reduceSub, Int.reduceMul, Int.reduceToNat, nthC, inBlk, subC, subB, loopOf, Option.getD, lget_put, lgetq_put, List.length_set, q0, q1, q5, q6, q7, ql, oA, oB, c1, Try.f129, Try.underlying2, info2, Try.t2, Try.underlying3, info3, Try.t3, Try.underlying4, info4, Try.t4, Try.underlying112, info112, Try.t112, Try.underlying115, info115, Try.t115, Try.underlying154, info154, Try.t154] <;> rfl), ?_⟩
          constructor <;> simp only [lget_put, List.length_set, q0, q1, q5, q6, q7, ql, Nat.reduceEqDiff, Nat.reduceLT, if_true, if_false]
      have q0 := F3.t0
      have q1 := F3.t1
      have q5 := F3.t5
      have q6 := F3.t6
      have q7 := F3.t7
      have ql := F3.len
      -- the digit, what is borrowed
      obtain ⟨tsa, ra1, la1, q0, q1, q5, q7, q8⟩ : ∃ ts4, DC Try.prog false (nthC 2 (inBlk (nthC 1 subC))) ⟨ts3, []⟩ σ ⟨.norm, ⟨ts4, []⟩, σ, []⟩ ∧ ts4.length = 45 ∧ lget ts4 0 = v ∧ lget ts4 1 = w ∧ lget ts4 5 = u ∧ lget ts4 7 = .int .i64 i ∧ lget ts4 8 = .int .i64 s := by
        refine ⟨_, runs Orc.none_ok 40 nobt (by kernel_rfl) (by simp only [go_sem, Nat.reducePow, Nat.reduceDiv, Nat.reduceMod, Nat.reduceAdd, Nat.reduceSub, Nat.reduceMul, Nat.reduceLeDiff, Nat.reduceLT, Nat.reduceEqDiff, reduceCtorEq, reduceIte, reduceDIte, if_pos rfl, Int.reduceLT, Int.reduceLE, Int.reduceEq, Int.reduceNeg, Int.reduceAdd, Int.reduceSub, Int.reduceMul, Int.reduceToNat, nthC, inBlk, subC, subB, loopOf, Option.getD, lget_put, lgetq_put, List.length_set, q6, ql, Try.f129, Try.underlying2, info2, Try.t2, Try.underlying3, info3, Try.t3, Try.underlying4, info4, Try.t4, Try.underlying112, info112, Try.t112, Try.underlying115, info115, Try.t115, Try.underlying154, info154, Try.t154] <;> rfl), ?_, ?_, ?_, ?_, ?_, ?_⟩ <;> simp only [lget_put, List.length_set, q0, q1, q5, q6, q7, ql, Nat.reduceEqDiff, Nat.reduceLT, if_true, if_false]
      obtain ⟨tsb, rb1, lb1, q0, q1, q5, q6, q7, q8⟩ : ∃ ts4, DC Try.prog false (nthC 3 (inBlk (nthC 1 subC))) ⟨tsa, []⟩ σ ⟨.norm, ⟨ts4, []⟩, σ, []⟩ ∧ ts4.length = 45 ∧ lget ts4 0 = v ∧ lget ts4 1 = w ∧ lget ts4 5 = u ∧ lget ts4 6 = .int .i64 0 ∧ lget ts4 7 = .int .i64 i ∧ lget ts4 8 = .int .i64 s := by
        refine ⟨_, runs Orc.none_ok 40 nobt (by kernel_rfl) (by simp only [go_sem, Nat.reducePow, Nat.reduceDiv, Nat.reduceMod, Nat.reduceAdd, Nat.reduceSub, Nat.reduceMul, Nat.reduceLeDiff, Nat.reduceLT, Nat.reduceEqDiff, reduceCtorEq, reduceIte, reduceDIte, if_pos rfl, Int.reduceLT, Int.reduceLE, Int.reduceEq, Int.reduceNeg, Int.reduceAdd, Int.reduceSub, Int.reduceMul, Int.reduceToNat, nthC, inBlk, subC, subB, loopOf, Option.getD, lget_put, lgetq_put, List.length_set, la1, Try.f129, Try.underlying2, info2, Try.t2, Try.underlying3, info3, Try.t3, Try.underlying4, info4, Try.t4, Try.underlying112, info112, Try.t112, Try.underlying115, info115, Try.t115, Try.underlying154, info154, Try.t154] <;> rfl), ?_, ?_, ?_, ?_, ?_, ?_, ?_⟩ <;> simp only [lget_put, List.length_set, q0, q1, q5, q7, q8, la1, Nat.reduceEqDiff, Nat.reduceLT, if_true, if_false]
      obtain ⟨d, c', hd, hc', he, ts4, r4, l4, p0, p1, p5, p6, p7, p8⟩ : ∃ (d : Nat) (c' : Int), d < 65536 ∧ (c' = 0 ∨ c' = -1) ∧ (d : Int) + 65536 * c' = s ∧
          ∃ ts4, DC Try.prog false (nthC 4 (inBlk (nthC 1 subC))) ⟨tsb, []⟩ σ ⟨.norm, ⟨ts4, []⟩, σ, []⟩ ∧ ts4.length = 45 ∧ lget ts4 0 = v ∧ lget ts4 1 = w ∧ lget ts4 5 = u ∧ lget ts4 6 = .int .i64 c' ∧ lget ts4 7 = .int .i64 i ∧ lget ts4 8 = .int .i64 (d : Int) := by
        by_cases hneg : s < 0
        · have w1 : IntKind.i64.wrap (s + 65536) = (((s + 65536).toNat : Nat) : Int) := by rw [IntKind.wrap_i64]; omega
          refine ⟨(s + 65536).toNat, -1, by omega, .inr rfl, by omega, _, runs Orc.none_ok 40 nobt (by kernel_rfl) (by simp only [go_sem, Nat.reducePow, Nat.reduceDiv, Nat.reduceMod, Nat.reduceAdd, Nat.reduceSub, Nat.reduceMul, Nat.reduceLeDiff, Nat.reduceLT, Nat.reduceEqDiff, reduceCtorEq, reduceIte, reduceDIte, if_pos rfl, Int.reduceLT, Int.reduceLE, Int.reduceEq, Int.reduceNeg, Int.reduceAdd, Int.reduceSub, Int.reduceMul, Int.reduceToNat, nthC, inBlk, subC, subB, loopOf, Option.getD, lget_put, lgetq_put, List.length_set, q8, lb1, hneg, w1, Try.f129, Try.underlying2, info2, Try.t2, Try.underlying3, info3, Try.t3, Try.underlying4, info4, Try.t4, Try.underlying112, info112, Try.t112, Try.underlying115, info115, Try.t115, Try.underlying154, info154, Try.t154] <;> rfl), ?_, ?_, ?_, ?_, ?_, ?_, ?_⟩ <;> simp only [lget_put, List.length_set, q0, q1, q5, q6, q7, q8, lb1, Nat.reduceEqDiff, Nat.reduceLT, if_true, if_false]
        · have w1 : s = ((s.toNat : Nat) : Int) := by omega
          refine ⟨s.toNat, 0, by omega, .inl rfl, by omega, _, runs Orc.none_ok 40 nobt (by kernel_rfl) (by simp only [go_sem, Nat.reducePow, Nat.reduceDiv, Nat.reduceMod, Nat.reduceAdd, Nat.reduceSub, Nat.reduceMul, Nat.reduceLeDiff, Nat.reduceLT, Nat.reduceEqDiff, reduceCtorEq, reduceIte, reduceDIte, if_pos rfl, Int.reduceLT, Int.reduceLE, Int.reduceEq, Int.reduceNeg, Int.reduceAdd, Int.reduceSub, Int.reduceMul, Int.reduceToNat, nthC, inBlk, subC, subB, loopOf, Option.getD, lget_put, lgetq_put, List.length_set, q8, lb1, hneg, Try.f129, Try.underlying2, info2, Try.t2, Try.underlying3, info3, Try.t3, Try.underlying4, info4, Try.t4, Try.underlying112, info112, Try.t112, Try.underlying115, info115, Try.t115, Try.underlying154, info154, Try.t154] <;> rfl), ?_, ?_, ?_, ?_, ?_, ?_, ?_⟩ <;> simp only [lget_put, List.length_set, q0, q1, q5, q6, q7, q8, lb1, Nat.reduceEqDiff, Nat.reduceLT, if_true, if_false, ← w1]
      obtain ⟨σ1, u1, l1, ra, hap, hk1, hf, O1⟩ := O.more d (by rw [I.len]; omega)
      have w2 : IntKind.u32.wrap (d : Int) = (d : Int) := by rw [IntKind.wrap_u32]; omega
      obtain ⟨ts5, r5, F5⟩ : ∃ ts5, DC Try.prog false (nthC 5 (inBlk (nthC 1 subC))) ⟨ts4, []⟩ σ ⟨.norm, ⟨ts5, []⟩, σ1, l1⟩ ∧ SF ts5 v w u1 i c' := by
        refine ⟨_, runs Orc.none_ok 40 nobt (by kernel_rfl) (by simp only [go_sem, Nat.reducePow, Nat.reduceDiv, Nat.reduceMod, Nat.reduceAdd, Nat.reduceSub, Nat.reduceMul, Nat.reduceLeDiff, Nat.reduceLT, Nat.reduceEqDiff, reduceCtorEq, reduceIte, reduceDIte, if_pos rfl, Int.reduceLT, Int.reduceLE, Int.reduceEq, Int.reduceNeg, Int.reduceAdd, Int.reduceSub, Int.reduceMul, Int.reduceToNat, nthC, inBlk, subC, subB, loopOf, Option.getD, lget_put, lgetq_put, List.length_set, p5, p8, l4, w2, zerosN, hap, hk1, Try.f129, Try.underlying2, info2, Try.t2, Try.underlying3, info3, Try.t3, Try.underlying4, info4, Try.t4, Try.underlying112, info112, Try.t112, Try.underlying115, info115, Try.t115, Try.underlying154, info154, Try.t154] <;> rfl), ?_⟩
        constructor <;> simp only [lget_put, List.length_set, p0, p1, p5, p6, p7, l4, Nat.reduceEqDiff, Nat.reduceLT, if_true, if_false]
      have q0 := F5.t0
      have q1 := F5.t1
      have q5 := F5.t5
      have q6 := F5.t6
      have q7 := F5.t7
      have ql := F5.len
      have w3 : IntKind.i64.wrap ((i : Int) + 1) = ((i + 1 : Nat) : Int) := by rw [IntKind.wrap_i64]; omega
      obtain ⟨ts6, r6, F6⟩ : ∃ ts6, DC Try.prog false (nthC 2 subC) ⟨ts5, []⟩ σ1 ⟨.norm, ⟨ts6, []⟩, σ1, []⟩ ∧ SF ts6 v w u1 (i + 1) c' := by
        refine ⟨_, runs Orc.none_ok 40 nobt (by kernel_rfl) (by simp only [go_sem, Nat.reducePow, Nat.reduceDiv, Nat.reduceMod, Nat.reduceAdd, Nat.reduceSub, Nat.reduceMul, Nat.reduceLeDiff, Nat.reduceLT, Nat.reduceEqDiff, reduceCtorEq, reduceIte, reduceDIte, if_pos rfl, Int.reduceLT, Int.reduceLE, Int.reduceEq, Int.reduceNeg, Int.reduceAdd, Int.reduceSub, Int.reduceMul, Int.reduceToNat, nthC, subC, subB, loopOf, Option.getD, lget_put, lgetq_put, List.length_set, q7, ql, w3, Try.f129, Try.underlying2, info2, Try.t2, Try.underlying3, info3, Try.t3, Try.underlying4, info4, Try.t4, Try.underlying112, info112, Try.t112, Try.underlying115, info115, Try.t115, Try.underlying154, info154, Try.t154] <;> rfl), ?_⟩
        constructor <;> simp only [lget_put, List.length_set, q0, q1, q5, q6, q7, ql, Nat.reduceEqDiff, Nat.reduceLT, if_true, if_false]
      have I' := I.step hd hc' (he.trans hs.symm)
      have round : DC Try.prog false subC ⟨ts, []⟩ σ ⟨.norm, ⟨ts6, []⟩, σ1, l1 ++ []⟩ := DC.seq r1 rfl (DC.seq (DC.block (DC.seq r2 rfl (DC.seq r3 rfl (DC.seq ra1 rfl (DC.seq rb1 rfl (DC.seq r4 rfl r5)))))) rfl r6)
      have K1 : ∀ b, b < σ₀.next → σ1.get b = σ₀.get b := fun b hb => by
        have h9 := r5.1.2 b (by have := O.1; show b < σ.next; omega) (fun hm => by have := hf b hm; omega)
        exact h9.trans (K b hb)
      obtain ⟨σ', lg, ts', D', u', c'', a1, a2, a3, a4, a5, a6⟩ := ih (i + 1) _ _ u1 σ1 ts6 (by omega) (by omega) I' F6 O1 K1
      exact ⟨σ', _, ts', D', u', c'', DL.next round rfl a1, a2, a3, a4, a5, (hf.append From.nil).append a6⟩
    · obtain rfl : i = A.length := by omega
      have c1 : ¬ (A.length : Int) < (A.length : Int) := by omega
      obtain ⟨ts1, r1, l1, p5⟩ : ∃ ts1, DC Try.prog false (nthC 0 subC) ⟨ts, []⟩ σ ⟨.exit 0, ⟨ts1, []⟩, σ, []⟩ ∧ ts1.length = 45 ∧ lget ts1 5 = u := by
        refine ⟨_, runs Orc.none_ok 40 nobt (by kernel_rfl) (by simp only [go_sem, Nat.reducePow, Nat.reduceDiv, Nat.reduceMod, Nat.reduceAdd, Nat.reduceSub, Nat.reduceMul, Nat.reduceLeDiff, Nat.reduceLT, Nat.reduceEqDiff, reduceCtorEq, reduceIte, reduceDIte, if_pos rfl, Int.reduceLT, Int.reduceLE, Int.reduceEq, Int.reduceNeg, Int.reduceAdd, Int.reduceSub, Int.reduceMul, Int.reduceToNat, nthC, subC, subB, loopOf, Option.getD, lget_put, lgetq_put, List.length_set, q0, q1, q5, q6, q7, ql, oA, oB, c1, Int.lt_irrefl, Try.f129, Try.underlying2, info2, Try.t2, Try.underlying3, info3, Try.t3, Try.underlying4, info4, Try.t4, Try.underlying112, info112, Try.t112, Try.underlying115, info115, Try.t115, Try.underlying154, info154, Try.t154] <;> rfl), ?_, ?_⟩ <;> simp only [lget_put, List.length_set, q0, q1, q5, q6, q7, ql, Nat.reduceEqDiff, Nat.reduceLT, if_true, if_false]
      have out : DC Try.prog false subC ⟨ts, []⟩ σ ⟨.exit 0, ⟨ts1, []⟩, σ, []⟩ := DC.seq_out r1 rfl
      exact ⟨σ, [], ts1, D, u, c, DL.out out rfl, l1, p5, I, O, From.nil⟩

theorem dig_len_mono {a b : Nat} (h : b ≤ a) : (dig b).length ≤ (dig a).length := by
  rcases Nat.lt_or_ge (dig a).length (dig b).length with h1 | h1
  · have := dig_len_lt h1; omega
  · exact h1

/-- A number less a lesser one. -/
theorem sub_call {a b : Nat} {v w : Value} {σ : St} (bA : BigS σ v (dig a)) (bB : BigS σ w (dig b)) (hle : b ≤ a) (sA : (dig a).length ≤ 100000) :
    ∃ σ' u, DCall Try.prog 129 [v, w] σ (.ret u) σ' [] ∧ BigS σ' u (dig (a - b)) ∧ NewBlk σ.next u := by
  have sB : (dig b).length ≤ 100000 := by have := dig_len_mono hle; omega
  obtain ⟨ts0, h0, l0, q0, q1⟩ : ∃ ts0, start [v, w] Try.f129.ntmps = ⟨ts0, []⟩ ∧ ts0.length = 45 ∧ lget ts0 0 = v ∧ lget ts0 1 = w := ⟨(start [v, w] 45).ts, rfl, rfl, rfl, rfl⟩
  obtain ⟨ts1, r1, l1, q0, q1⟩ : ∃ ts1, DC Try.prog false (nthC 0 subB) ⟨ts0, []⟩ σ ⟨.norm, ⟨ts1, []⟩, σ, []⟩ ∧ ts1.length = 45 ∧ lget ts1 0 = v ∧ lget ts1 1 = w := by
    refine ⟨_, runs Orc.none_ok 40 nobt (by kernel_rfl) (by simp only [go_sem, Nat.reducePow, Nat.reduceDiv, Nat.reduceMod, Nat.reduceAdd, Nat.reduceSub, Nat.reduceMul, Nat.reduceLeDiff, Nat.reduceLT, Nat.reduceEqDiff, reduceCtorEq, reduceIte, reduceDIte, if_pos rfl, Int.reduceLT, Int.reduceLE, Int.reduceEq, Int.reduceNeg, Int.reduceAdd, Int.reduceSub, Int.reduceMul, Int.reduceToNat, nthC, subB, Option.getD, lget_put, lgetq_put, List.length_set, l0, Try.f129, Try.underlying3, info3, Try.t3, Try.underlying4, info4, Try.t4, Try.underlying112, info112, Try.t112, Try.underlying115, info115, Try.t115, Try.underlying154, info154, Try.t154] <;> rfl), ?_, ?_, ?_⟩ <;> simp only [lget_put, List.length_set, q0, q1, l0, Nat.reduceEqDiff, Nat.reduceLT, if_true, if_false]
  obtain ⟨ts2, r2, l2, q0, q1, q5⟩ : ∃ ts2, DC Try.prog false (nthC 1 subB) ⟨ts1, []⟩ σ ⟨.norm, ⟨ts2, []⟩, σ, []⟩ ∧ ts2.length = 45 ∧ lget ts2 0 = v ∧ lget ts2 1 = w ∧ lget ts2 5 = .slice none 0 0 := by
    refine ⟨_, runs Orc.none_ok 40 nobt (by kernel_rfl) (by simp only [go_sem, Nat.reducePow, Nat.reduceDiv, Nat.reduceMod, Nat.reduceAdd, Nat.reduceSub, Nat.reduceMul, Nat.reduceLeDiff, Nat.reduceLT, Nat.reduceEqDiff, reduceCtorEq, reduceIte, reduceDIte, if_pos rfl, Int.reduceLT, Int.reduceLE, Int.reduceEq, Int.reduceNeg, Int.reduceAdd, Int.reduceSub, Int.reduceMul, Int.reduceToNat, nthC, subB, Option.getD, lget_put, lgetq_put, List.length_set, l1, Try.f129, Try.underlying3, info3, Try.t3, Try.underlying4, info4, Try.t4, Try.underlying112, info112, Try.t112, Try.underlying115, info115, Try.t115, Try.underlying154, info154, Try.t154] <;> rfl), ?_, ?_, ?_, ?_⟩ <;> simp only [lget_put, List.length_set, q0, q1, l1, Nat.reduceEqDiff, Nat.reduceLT, if_true, if_false]
  obtain ⟨ts3, r3, l3, q0, q1, q5, q6⟩ : ∃ ts3, DC Try.prog false (nthC 2 subB) ⟨ts2, []⟩ σ ⟨.norm, ⟨ts3, []⟩, σ, []⟩ ∧ ts3.length = 45 ∧ lget ts3 0 = v ∧ lget ts3 1 = w ∧ lget ts3 5 = .slice none 0 0 ∧ lget ts3 6 = .int .i64 0 := by
    refine ⟨_, runs Orc.none_ok 40 nobt (by kernel_rfl) (by simp only [go_sem, Nat.reducePow, Nat.reduceDiv, Nat.reduceMod, Nat.reduceAdd, Nat.reduceSub, Nat.reduceMul, Nat.reduceLeDiff, Nat.reduceLT, Nat.reduceEqDiff, reduceCtorEq, reduceIte, reduceDIte, if_pos rfl, Int.reduceLT, Int.reduceLE, Int.reduceEq, Int.reduceNeg, Int.reduceAdd, Int.reduceSub, Int.reduceMul, Int.reduceToNat, nthC, subB, Option.getD, lget_put, lgetq_put, List.length_set, l2, Try.f129, Try.underlying3, info3, Try.t3, Try.underlying4, info4, Try.t4, Try.underlying112, info112, Try.t112, Try.underlying115, info115, Try.t115, Try.underlying154, info154, Try.t154] <;> rfl), ?_, ?_, ?_, ?_, ?_⟩ <;> simp only [lget_put, List.length_set, q0, q1, q5, l2, Nat.reduceEqDiff, Nat.reduceLT, if_true, if_false]
  obtain ⟨ts4, r4, F4⟩ : ∃ ts4, DC Try.prog false (nthC 0 (nthC 3 subB)) ⟨ts3, []⟩ σ ⟨.norm, ⟨ts4, []⟩, σ, []⟩ ∧ SF ts4 v w (.slice none 0 0) 0 0 := by
    refine ⟨_, runs Orc.none_ok 40 nobt (by kernel_rfl) (by simp only [go_sem, Nat.reducePow, Nat.reduceDiv, Nat.reduceMod, Nat.reduceAdd, Nat.reduceSub, Nat.reduceMul, Nat.reduceLeDiff, Nat.reduceLT, Nat.reduceEqDiff, reduceCtorEq, reduceIte, reduceDIte, if_pos rfl, Int.reduceLT, Int.reduceLE, Int.reduceEq, Int.reduceNeg, Int.reduceAdd, Int.reduceSub, Int.reduceMul, Int.reduceToNat, nthC, subB, Option.getD, lget_put, lgetq_put, List.length_set, l3, Try.f129, Try.underlying3, info3, Try.t3, Try.underlying4, info4, Try.t4, Try.underlying112, info112, Try.t112, Try.underlying115, info115, Try.t115, Try.underlying154, info154, Try.t154] <;> rfl), ?_⟩
    constructor <;> simp only [lget_put, List.length_set, q0, q1, q5, q6, l3, Nat.reduceEqDiff, Nat.reduceLT, if_true, if_false, Int.natCast_zero]
  obtain ⟨σ5, lg5, ts5, D, u, c', d5, l5, q5, I5, O5, f5⟩ := sub_loop bA bB (dig_low a) (dig_low b) sA sB (Nat.le_refl _) ((dig a).length + 1) 0 0 [] _ σ ts4 (by omega) (by omega) ⟨rfl, Low.nil, .inl rfl, by simp [val]⟩ F4 ⟨Nat.le_refl _, .inl ⟨rfl, rfl⟩⟩ (fun _ _ => rfl)
  have vD := I5.done (dig_len_mono hle) (by rw [val_dig, val_dig]; exact hle)
  rw [val_dig, val_dig] at vD
  obtain ⟨u', dt, bu, nu⟩ := trim_call (by rw [I5.len]; omega) O5.big I5.low
  rw [vD] at bu
  obtain ⟨ts6, r6, p4⟩ : ∃ ts6, DC Try.prog false (nthC 4 subB) ⟨ts5, []⟩ σ5 ⟨.norm, ⟨ts6, []⟩, σ5, []⟩ ∧ lget ts6 4 = u' := by
    refine ⟨_, runs (one_ok' Orc.none_ok dt) 40 nobt (by kernel_rfl) (by simp only [go_sem, Nat.reducePow, Nat.reduceDiv, Nat.reduceMod, Nat.reduceAdd, Nat.reduceSub, Nat.reduceMul, Nat.reduceLeDiff, Nat.reduceLT, Nat.reduceEqDiff, reduceCtorEq, reduceIte, reduceDIte, if_pos rfl, Int.reduceLT, Int.reduceLE, Int.reduceEq, Int.reduceNeg, Int.reduceAdd, Int.reduceSub, Int.reduceMul, Int.reduceToNat, nthC, subB, Option.getD, Orc.one_call, lget_put, lgetq_put, List.length_set, q5, l5, Try.f129, Try.underlying3, info3, Try.t3, Try.underlying4, info4, Try.t4, Try.underlying112, info112, Try.t112, Try.underlying115, info115, Try.t115, Try.underlying154, info154, Try.t154, body85] <;> rfl), ?_⟩
    simp only [lget_put, List.length_set, l5, Nat.reduceEqDiff, Nat.reduceLT, if_true, if_false]
  refine ⟨σ5, u', DCall.fresh (callsD Try.func129 (rfl : Try.f129.body = some subB) (h0 ▸ DC.seq r1 rfl (DC.seq r2 rfl (DC.seq r3 rfl (DC.seq (DC.seq r4 rfl (DC.block (DC.loop d5))) rfl (DC.seq r6 rfl (DC.ret _ _ _)))))) ?_ rfl rfl) (fun c hc => ?_), bu, nu _ O5.new⟩
  · simp only [endsA, Try.f129, resA, resList, resOne, p4, Option.map, RR.pre]
  · exact f5 c (by simpa [RR.pre] using hc)

end Go.Ab

set_option linter.unusedSimpArgs false
set_option linter.unusedVariables false
namespace Go.Ab
open Go.Proofs

theorem pow_bits (j : Nat) : 65536 ^ j = 2 ^ (16 * j) := by
  have : (65536 : Nat) = 2 ^ 16 := by decide
  rw [this, ← Nat.pow_mul]

/-- A digit by its place. -/
theorem digit_at : ∀ {Q : List Nat} {j q : Nat}, Low Q → Q[j]? = some q → q = val Q / 65536 ^ j % 65536
  | [], _, _, _, h => by simp at h
  | x :: Q, 0, q, hL, h => by
    simp only [List.getElem?_cons_zero, Option.some.injEq] at h
    subst h
    have := hL x (by simp)
    simp only [val, Nat.pow_zero, Nat.div_one]; omega
  | x :: Q, j + 1, q, hL, h => by
    simp only [List.getElem?_cons_succ] at h
    have ih := digit_at hL.tail h
    have hx := hL x (by simp)
    have e : val (x :: Q) / 65536 ^ (j + 1) = val Q / 65536 ^ j := by
      rw [Nat.pow_succ, Nat.mul_comm, ← Nat.div_div_eq_div_mul]
      congr 1
      simp only [val]; omega
    rw [e]; exact ih

theorem bit_of {n s : Nat} (hs : s < 16) : (n % 65536) / 2 ^ s % 2 = n / 2 ^ s % 2 := by
  have : s = 0 ∨ s = 1 ∨ s = 2 ∨ s = 3 ∨ s = 4 ∨ s = 5 ∨ s = 6 ∨ s = 7 ∨ s = 8 ∨ s = 9 ∨ s = 10 ∨ s = 11 ∨ s = 12 ∨ s = 13 ∨ s = 14 ∨ s = 15 := by omega
  rcases this with rfl | rfl | rfl | rfl | rfl | rfl | rfl | rfl | rfl | rfl | rfl | rfl | rfl | rfl | rfl | rfl <;> (simp only [Nat.reducePow]; omega)

theorem room_of {K s : Nat} (hs : s < 16) : (K * 2 ^ (s + 1)) % 65536 + 2 ^ s < 65536 := by
  have : s = 0 ∨ s = 1 ∨ s = 2 ∨ s = 3 ∨ s = 4 ∨ s = 5 ∨ s = 6 ∨ s = 7 ∨ s = 8 ∨ s = 9 ∨ s = 10 ∨ s = 11 ∨ s = 12 ∨ s = 13 ∨ s = 14 ∨ s = 15 := by omega
  rcases this with rfl | rfl | rfl | rfl | rfl | rfl | rfl | rfl | rfl | rfl | rfl | rfl | rfl | rfl | rfl | rfl <;> (simp only [Nat.reduceAdd, Nat.reducePow]; omega)

/-- The bit of a number's digits. -/
theorem bit_at {A : List Nat} {i x : Nat} (hL : Low A) (hx : A[i / 16]? = some x) : x / 2 ^ (i % 16) % 2 = val A / 2 ^ i % 2 := by
  rw [digit_at hL hx, bit_of (Nat.mod_lt _ (by omega)), pow_bits, Nat.div_div_eq_div_mul, ← Nat.pow_add]
  congr 3
  omega

/-- What stands in the loop of Div, with m bits to come. -/
structure DivI (a b : Nat) (n : Nat) (Q : List Nat) (m r : Nat) : Prop where
  len : Q.length = n
  low : Low Q
  r : r = a / 2 ^ m % b
  q : val Q = a / 2 ^ m / b * 2 ^ m

theorem DivI.bit {a b n : Nat} {Q : List Nat} {i r : Nat} (h : DivI a b n Q (i + 1) r) (hb : 0 < b) : a / 2 ^ i = 2 * (a / 2 ^ (i + 1)) + a / 2 ^ i % 2 := by
  have : a / 2 ^ (i + 1) = a / 2 ^ i / 2 := by rw [Nat.pow_succ, Nat.div_div_eq_div_mul]
  omega

theorem div_is {M b k t : Nat} (hb : 0 < b) (h : M = b * k + t) (ht : t < b) : M / b = k ∧ M % b = t := by
  subst h
  rw [Nat.mul_add_div hb, Nat.div_eq_of_lt ht, Nat.mul_add_mod, Nat.mod_eq_of_lt ht]
  exact ⟨rfl, rfl⟩

theorem DivI.low_step {a b n : Nat} {Q : List Nat} {i r : Nat} (h : DivI a b n Q (i + 1) r) (hb : 0 < b) (hlt : 2 * r + a / 2 ^ i % 2 < b) : DivI a b n Q i (2 * r + a / 2 ^ i % 2) := by
  have e := h.bit hb
  have hr := h.r
  have hq := h.q
  have hp : 2 ^ (i + 1) = 2 ^ i * 2 := Nat.pow_succ ..
  have hdm := Nat.div_add_mod (a / 2 ^ (i + 1)) b
  rw [← hr] at hdm
  obtain ⟨N, hN⟩ : ∃ N, a / 2 ^ (i + 1) = N := ⟨_, rfl⟩
  obtain ⟨M, hM⟩ : ∃ M, a / 2 ^ i = M := ⟨_, rfl⟩
  obtain ⟨k, hk⟩ : ∃ k, N / b = k := ⟨_, rfl⟩
  rw [hM] at hlt
  rw [hN, hM] at e
  rw [hN, hk] at hdm hq
  have h1 : M = b * (2 * k) + (2 * r + M % 2) := by
    rw [Nat.mul_left_comm]; omega
  obtain ⟨d1, d2⟩ := div_is hb h1 hlt
  refine ⟨h.len, h.low, by rw [hM, d2], ?_⟩
  rw [hM, d1, hq, hp, Nat.mul_comm (2 ^ i) 2, ← Nat.mul_assoc, Nat.mul_comm k 2]

theorem DivI.up_step {a b n : Nat} {Q : List Nat} {i r y : Nat} (h : DivI a b n Q (i + 1) r) (hb : 0 < b) (hge : b ≤ 2 * r + a / 2 ^ i % 2) (hy : Q[i / 16]? = some y) :
    y + 2 ^ (i % 16) < 65536 ∧ DivI a b n (Q.set (i / 16) (y + 2 ^ (i % 16))) i (2 * r + a / 2 ^ i % 2 - b) := by
  have e := h.bit hb
  have hr := h.r
  have hq := h.q
  have hp : 2 ^ (i + 1) = 2 ^ i * 2 := Nat.pow_succ ..
  have hrlt : r < b := by rw [hr]; exact Nat.mod_lt _ hb
  have hroom : y + 2 ^ (i % 16) < 65536 := by
    have h1 := digit_at h.low hy
    have h2 : val Q / 65536 ^ (i / 16) = a / 2 ^ (i + 1) / b * 2 ^ (i % 16 + 1) := by
      rw [hq, pow_bits]
      have : 2 ^ (i + 1) = 2 ^ (i % 16 + 1) * 2 ^ (16 * (i / 16)) := by
        rw [← Nat.pow_add]; congr 1; omega
      rw [this, ← Nat.mul_assoc, Nat.mul_div_cancel _ (Nat.two_pow_pos _)]
    rw [h1, h2]
    exact room_of (Nat.mod_lt _ (by omega))
  have hdm := Nat.div_add_mod (a / 2 ^ (i + 1)) b
  rw [← hr] at hdm
  obtain ⟨N, hN⟩ : ∃ N, a / 2 ^ (i + 1) = N := ⟨_, rfl⟩
  obtain ⟨M, hM⟩ : ∃ M, a / 2 ^ i = M := ⟨_, rfl⟩
  obtain ⟨k, hk⟩ : ∃ k, N / b = k := ⟨_, rfl⟩
  rw [hM] at hge
  rw [hN, hM] at e
  rw [hN, hk] at hdm hq
  have h1 : M = b * (2 * k + 1) + (2 * r + M % 2 - b) := by
    rw [Nat.mul_add, Nat.mul_left_comm]; omega
  obtain ⟨d1, d2⟩ := div_is hb h1 (by omega)
  refine ⟨hroom, ⟨by rw [List.length_set]; exact h.len, h.low.set hroom, by rw [hM, d2], ?_⟩⟩
  have hv := val_set Q (i / 16) (y + 2 ^ (i % 16)) y hy
  have hpow : 2 ^ (i % 16) * 65536 ^ (i / 16) = 2 ^ i := by
    rw [pow_bits, ← Nat.pow_add]; congr 1; omega
  rw [Nat.add_mul, hpow] at hv
  rw [hM, d1, Nat.add_mul, Nat.one_mul]
  have : 2 * k * 2 ^ i = k * 2 ^ (i + 1) := by
    rw [hp, Nat.mul_comm (2 ^ i) 2, ← Nat.mul_assoc, Nat.mul_comm k 2]
  omega

end Go.Ab

set_option linter.unusedSimpArgs false
set_option linter.unusedVariables false
namespace Go.Ab
open Go.Proofs

def bt96 : Nat → List Nat
  | 10 => [0, 0, 2, 0, 0, 16, 56, 120, 0, 256, 768, 2040, 4095, 8191]
  | _ => []

noncomputable def divB : Code := Try.f96.body.getD .skip
noncomputable def divC : Code := loopOf divB

structure DF (ts : List Value) (v w u : Value) (bo n : Nat) (m : Int) : Prop where
  len : ts.length = 60
  t0 : lget ts 0 = v
  t1 : lget ts 1 = w
  t6 : lget ts 6 = .slice (some ⟨bo, 0, some 0⟩) n n
  t7 : lget ts 7 = u
  t8 : lget ts 8 = .int .i64 m

theorem NewBlk.ne {lo bo : Nat} {v : Value} (h : NewBlk lo v) (hl : bo < lo) : ∀ b o sp len cap, v = .slice (some ⟨b, o, sp⟩) len cap → b ≠ bo := fun b o sp len cap e => by
  have := h b o sp len cap e; omega

/-- A store into another block. -/
theorem BigS.set {σ : St} {v : Value} {D : List Nat} (h : BigS σ v D) {bo : Nat} (o : AObj) (hne : ∀ b o sp len cap, v = .slice (some ⟨b, o, sp⟩) len cap → b ≠ bo) : BigS (σ.set bo o) v D := by
  rcases h with h | ⟨b, sp, cap, G, ro, h1, h2, h3, h4, h5⟩
  · exact .inl h
  · exact .inr ⟨b, sp, cap, G, ro, h1, h2, h3, h4, by rw [St.get_set, if_neg (fun e => hne _ _ _ _ _ h1 e.symm)]; exact h5⟩

theorem MS.later {σ₀ σ σ' : St} {bo : Nat} {O : List Nat} (h : MS σ₀ σ bo O) (hn : σ.next ≤ σ'.next) (hk : ∀ b, b < σ.next → σ'.get b = σ.get b) : MS σ₀ σ' bo O :=
  ⟨h.lo, by have := h.nx; omega, (hk _ h.nx).trans h.get, fun c hc => (hk c (by have := h.nx; have := h.lo; omega)).trans (h.keep c hc)⟩

theorem same_of {f : FuncId} {args : List Value} {σ σ' : St} {e : AE} (h : DCall Try.prog f args σ e σ' []) : σ.next ≤ σ'.next ∧ ∀ b, b < σ.next → σ'.get b = σ.get b := ⟨h.1.1, fun b hb => h.1.2 b hb (by simp)⟩

/-- One block more that nobody knows. -/
def St.pad (σ : St) : St := { σ with next := σ.next + 1 }
theorem St.get_pad (σ : St) (b : Nat) : σ.pad.get b = σ.get b := rfl
theorem St.next_pad (σ : St) : σ.pad.next = σ.next + 1 := rfl

theorem DCall.pad {P : Program} {f : FuncId} {args : List Value} {σ σ' : St} {e : AE} {lg : Log} (h : DCall P f args σ e σ' lg) : DCall P f args σ e σ'.pad lg :=
  ⟨⟨Nat.le_succ_of_le h.1.1, h.1.2⟩, fun ρ w args' hw ha => (h.2 ρ w args' hw ha).mono fun e' w' ⟨ρ', he, hA⟩ => ⟨ρ', he,
    { ext := hA.ext
      wr := ⟨fun b l hl => ⟨Nat.lt_succ_of_lt (hA.wr.dom b l hl).1, (hA.wr.dom b l hl).2⟩, hA.wr.obj, hA.wr.inj⟩
      size := hA.size, fr := hA.fr, nxt := Nat.le_succ_of_le hA.nxt, kept := hA.kept, dead := hA.dead, fresh := hA.fresh, tape := hA.tape, os := hA.os, out := hA.out }⟩⟩

theorem one_miss {orc : Orc} {f f' : FuncId} {args args' : List Value} {σ σ' : St} {r : AE × St × Log} (h : ¬ σ' = σ) : (orc.one f args σ r).call f' args' σ' = orc.call f' args' σ' := by simp [Orc.one, h]

theorem St.ne_of_next {σ σ' : St} (h : σ.next < σ'.next) : ¬ σ' = σ := fun e => by rw [e] at h; omega

theorem BigS.pad {σ : St} {v : Value} {D : List Nat} (h : BigS σ v D) : BigS σ.pad v D := h.keep (Nat.le_succ _) fun _ _ => rfl

theorem div_loop {a b : Nat} {v w : Value} {σ₀ : St} {bo : Nat} (bA : BigS σ₀ v (dig a)) (bB : BigS σ₀ w (dig b)) (hb : 0 < b) (sA : (dig a).length ≤ 20) (sB : (dig b).length ≤ 20) :
    ∀ (m : Nat) (Q : List Nat) (r : Nat) (u : Value) (σ : St) (ts : List Value), m ≤ 16 * (dig a).length → DivI a b (dig a).length Q m r → DF ts v w u bo (dig a).length ((m : Int) - 1) → MS σ₀ σ bo Q → BigS σ u (dig r) → NewBlk (bo + 1) u →
    ∃ σ' lg ts' Q' u', DL Try.prog false divC ⟨ts, []⟩ σ ⟨.exit 0, ⟨ts', []⟩, σ', lg⟩ ∧ DivI a b (dig a).length Q' 0 (a % b) ∧ (∃ m', DF ts' v w u' bo (dig a).length m') ∧ MS σ₀ σ' bo Q' ∧ BigS σ' u' (dig (a % b)) ∧ NewBlk (bo + 1) u' ∧ (∀ x ∈ lg, x = bo) := by
  intro m
  induction m with
  | zero =>
    intro Q r u σ ts hm I F S bu nu
    have q0 := F.t0
    have q1 := F.t1
    have q6 := F.t6
    have q7 := F.t7
    have q8 := F.t8
    have ql := F.len
    have c1 : ¬ (0 : Int) ≤ ((0 : Nat) : Int) - 1 := by omega
    have hr : r = a % b := by have := I.r; simpa using this
    subst hr
    obtain ⟨ts1, r1, F1⟩ : ∃ ts1, DC Try.prog false (nthC 0 divC) ⟨ts, []⟩ σ ⟨.exit 0, ⟨ts1, []⟩, σ, []⟩ ∧ DF ts1 v w u bo (dig a).length (((0 : Nat) : Int) - 1) := by
      refine ⟨_, runs Orc.none_ok 40 nobt (by kernel_rfl) (by simp only [nadd_le, nadd_lt, nle_add, nlt_add, nadd_eq, neq_add, Nat.add_le_add_iff_left, Nat.add_lt_add_iff_left, Nat.add_left_cancel_iff, Nat.add_assoc, Nat.testBit_eq_decide_div_mod_eq, Nat.reducePow, Nat.reduceDiv, Nat.reduceMod, runOps_nil, runOps_cons, runDrawn_nil, runDrawn_cons, run_loop_job, run_scope_job, run_skip, run_label, run_exit, run_goto, run_ret, run_seq, run_cond, run_block, run_loop, run_scope, run_region, pureK_some, pureO_call, callK_ret, callK_panic, opsK_val, opsK_new, opsK_eff, opsK_panic, opsK_enter, opsK_round, opsK_defer, wantK_true, wantK_false, consD_some, callD_ret, drawnK_val, drawnK_new, drawnK_eff, drawnK_enter, condK_true, condK_false, blockK_some, preO_some, thenR_norm, thenR_exit, thenR_goto, thenR_ret, thenR_panic, jumpK_some, jumpK_none, scopeK_goto, scopeK_norm, scopeK_exit, scopeK_ret, scopeK_panic, regO_some, regD_some, regionR_false, regionR_true, dynOk, loud, quietK, stepOp, stepBuiltin, start, Fr.put, putL, wantedA, yieldedA, lget?, ev, evs, evo, lget, plain, plainL, partsA, cx_und, cx_info, cx_flat, opBin, isShift, intOp, shiftOp, strOp, eqOp, opUn, opConvert, RR.pre, endsA, resA, resList, resOne, opPick, opExtract, opBuild, opBuildSlice, opBuild.lgetP, Nat.le_zero_eq, Nat.zero_le, opBox, opNilCheck, opField, opIndex, opCall, AX.inBlock, findLabel, isAggD, partA, placesA, fillA, opMakeFunc, opMakeIface, opPanic, opDefer, bnd, oneCells, vcells, over, opLoad, opStore, opAlloc, opFieldAddr, opIndexAddr, St.get_new, St.get_set, St.get_put, St.next_new, St.next_set, clash, SK.isFull, SK.lg, SK.rd, List.set_cons_succ, List.set_cons_zero, List.getElem?_cons_succ, List.getElem?_cons_zero, List.length_cons, List.length_nil, List.append_nil, List.nil_append, List.cons_append, List.replicate_succ, List.replicate_zero, List.drop_zero, List.drop_succ_cons, List.take_zero, List.take_succ_cons, List.take_nil, List.drop_nil, Option.map_some, Option.map_none, Bool.and_true, Bool.true_and, Bool.and_false, Bool.false_and, Bool.or_true, Bool.true_or, Bool.or_false, Bool.false_or, Bool.not_true, Bool.not_false, decide_true, decide_false, if_true, if_false, ite_true, ite_false, dite_true, dite_false, List.all_cons, List.all_nil, List.any_cons, List.any_nil, List.contains_cons, List.contains_nil, List.isEmpty_nil, List.isEmpty_cons, Nat.reduceAdd, Nat.reduceSub, Nat.reduceMul, Nat.reduceLeDiff, Nat.reduceLT, Nat.reduceEqDiff, Nat.zero_add, Nat.add_zero, beq_self_eq_true, Bool.true_beq, Bool.false_beq, bne_iff_ne, bne_self_eq_false, reduceCtorEq, List.getD_cons_succ, List.getD_cons_zero, List.getD_nil, and_true, true_and, and_self, not_true_eq_false, not_false_eq_true, eq_self, ne_eq, reduceIte, reduceDIte, Option.some.injEq, if_pos rfl, beq_iff_eq, Int.reduceLT, Int.reduceLE, Int.reduceEq, Int.reduceNeg, Int.reduceAdd, Int.reduceSub, Int.reduceMul, Nat.lt_irrefl, Nat.le_refl, Nat.succ_ne_self, List.size_toArray, Int.cast_ofNat_Int, Int.reduceToNat, Nat.zero_mul, Nat.one_mul, Nat.mul_one, nthC, divC, divB, loopOf, Option.getD, lget_put, lgetq_put, List.length_set, q8, ql, c1, Try.f96, Try.underlying3, info3, Try.t3, Try.underlying4, info4, Try.t4, Try.underlying112, info112, Try.t112, Try.underlying115, info115, Try.t115, Try.underlying154, info154, Try.t154] <;> rfl), ?_⟩
      constructor <;> simp only [lget_put, List.length_set, q0, q1, q6, q7, q8, ql, Nat.reduceEqDiff, Nat.reduceLT, if_true, if_false]
    have out : DC Try.prog false divC ⟨ts, []⟩ σ ⟨.exit 0, ⟨ts1, []⟩, σ, []⟩ := DC.seq_out r1 rfl
    exact ⟨σ, [], ts1, Q, u, DL.out out rfl, I, ⟨_, F1⟩, S, bu, nu, fun x hx => by simp at hx⟩
  | succ i ih =>
    intro Q r u σ ts hm I F S bu nu
    have q0 := F.t0
    have q1 := F.t1
    have q6 := F.t6
    have q7 := F.t7
    have q8 := F.t8
    have ql := F.len
    have e8 : ((i + 1 : Nat) : Int) - 1 = (i : Int) := by omega
    rw [e8] at q8
    have c1 : (0 : Int) ≤ (i : Int) := by omega
    obtain ⟨ts1, r1, l1, q0, q1, q6, q7, q8⟩ : ∃ ts1, DC Try.prog false (nthC 0 divC) ⟨ts, []⟩ σ ⟨.norm, ⟨ts1, []⟩, σ, []⟩ ∧ ts1.length = 60 ∧ lget ts1 0 = v ∧ lget ts1 1 = w ∧ lget ts1 6 = .slice (some ⟨bo, 0, some 0⟩) (dig a).length (dig a).length ∧ lget ts1 7 = u ∧ lget ts1 8 = .int .i64 (i : Int) := by
      refine ⟨_, runs Orc.none_ok 40 nobt (by kernel_rfl) (by simp only [nadd_le, nadd_lt, nle_add, nlt_add, nadd_eq, neq_add, Nat.add_le_add_iff_left, Nat.add_lt_add_iff_left, Nat.add_left_cancel_iff, Nat.add_assoc, Nat.testBit_eq_decide_div_mod_eq, Nat.reducePow, Nat.reduceDiv, Nat.reduceMod, runOps_nil, runOps_cons, runDrawn_nil, runDrawn_cons, run_loop_job, run_scope_job, run_skip, run_label, run_exit, run_goto, run_ret, run_seq, run_cond, run_block, run_loop, run_scope, run_region, pureK_some, pureO_call, callK_ret, callK_panic, opsK_val, opsK_new, opsK_eff, opsK_panic, opsK_enter, opsK_round, opsK_defer, wantK_true, wantK_false, consD_some, callD_ret, drawnK_val, drawnK_new, drawnK_eff, drawnK_enter, condK_true, condK_false, blockK_some, preO_some, thenR_norm, thenR_exit, thenR_goto, thenR_ret, thenR_panic, jumpK_some, jumpK_none, scopeK_goto, scopeK_norm, scopeK_exit, scopeK_ret, scopeK_panic, regO_some, regD_some, regionR_false, regionR_true, dynOk, loud, quietK, stepOp, stepBuiltin, start, Fr.put, putL, wantedA, yieldedA, lget?, ev, evs, evo, lget, plain, plainL, partsA, cx_und, cx_info, cx_flat, opBin, isShift, intOp, shiftOp, strOp, eqOp, opUn, opConvert, RR.pre, endsA, resA, resList, resOne, opPick, opExtract, opBuild, opBuildSlice, opBuild.lgetP, Nat.le_zero_eq, Nat.zero_le, opBox, opNilCheck, opField, opIndex, opCall, AX.inBlock, findLabel, isAggD, partA, placesA, fillA, opMakeFunc, opMakeIface, opPanic, opDefer, bnd, oneCells, vcells, over, opLoad, opStore, opAlloc, opFieldAddr, opIndexAddr, St.get_new, St.get_set, St.get_put, St.next_new, St.next_set, clash, SK.isFull, SK.lg, SK.rd, List.set_cons_succ, List.set_cons_zero, List.getElem?_cons_succ, List.getElem?_cons_zero, List.length_cons, List.length_nil, List.append_nil, List.nil_append, List.cons_append, List.replicate_succ, List.replicate_zero, List.drop_zero, List.drop_succ_cons, List.take_zero, List.take_succ_cons, List.take_nil, List.drop_nil, Option.map_some, Option.map_none, Bool.and_true, Bool.true_and, Bool.and_false, Bool.false_and, Bool.or_true, Bool.true_or, Bool.or_false, Bool.false_or, Bool.not_true, Bool.not_false, decide_true, decide_false, if_true, if_false, ite_true, ite_false, dite_true, dite_false, List.all_cons, List.all_nil, List.any_cons, List.any_nil, List.contains_cons, List.contains_nil, List.isEmpty_nil, List.isEmpty_cons, Nat.reduceAdd, Nat.reduceSub, Nat.reduceMul, Nat.reduceLeDiff, Nat.reduceLT, Nat.reduceEqDiff, Nat.zero_add, Nat.add_zero, beq_self_eq_true, Bool.true_beq, Bool.false_beq, bne_iff_ne, bne_self_eq_false, reduceCtorEq, List.getD_cons_succ, List.getD_cons_zero, List.getD_nil, and_true, true_and, and_self, not_true_eq_false, not_false_eq_true, eq_self, ne_eq, reduceIte, reduceDIte, Option.some.injEq, if_pos rfl, beq_iff_eq, Int.reduceLT, Int.reduceLE, Int.reduceEq, Int.reduceNeg, Int.reduceAdd, Int.reduceSub, Int.reduceMul, Nat.lt_irrefl, Nat.le_refl, Nat.succ_ne_self, List.size_toArray, Int.cast_ofNat_Int, Int.reduceToNat, Nat.zero_mul, Nat.one_mul, Nat.mul_one, nthC, divC, divB, loopOf, Option.getD, lget_put, lgetq_put, List.length_set, q8, ql, c1, Try.f96, Try.underlying3, info3, Try.t3, Try.underlying4, info4, Try.t4, Try.underlying112, info112, Try.t112, Try.underlying115, info115, Try.t115, Try.underlying154, info154, Try.t154] <;> rfl), ?_, ?_, ?_, ?_, ?_, ?_⟩ <;> simp only [lget_put, List.length_set, q0, q1, q6, q7, q8, ql, Nat.reduceEqDiff, Nat.reduceLT, if_true, if_false]
    -- the bit
    have hj : i / 16 < (dig a).length := by omega
    obtain ⟨x, hx⟩ : ∃ x, (dig a)[i / 16]? = some x := ⟨_, List.getElem?_eq_getElem hj⟩
    have hbit := bit_at (dig_low a) hx
    rw [val_dig] at hbit
    have hx' := dig_low a x (List.mem_of_getElem? hx)
    obtain ⟨t, ht⟩ : ∃ t, a / 2 ^ i % 2 = t := ⟨_, rfl⟩
    have ht2 : t < 2 := by omega
    rw [ht] at hbit
    obtain ⟨j, hji⟩ : ∃ j, i / 16 = j := ⟨_, rfl⟩
    obtain ⟨s, hsi⟩ : ∃ s, i % 16 = s := ⟨_, rfl⟩
    rw [hji] at hx hj
    rw [hsi] at hbit
    have hs16 : s < 16 := by omega
    have ej : (i : Int).tdiv 16 = (j : Int) := by rw [Int.tdiv_eq_ediv_of_nonneg (by omega)]; omega
    have es : (i : Int).tmod 16 = (s : Int) := by rw [Int.tmod_eq_emod_of_nonneg (by omega)]; omega
    have wj : IntKind.i64.wrap (j : Int) = (j : Int) := by rw [IntKind.wrap_i64]; omega
    have ws : IntKind.i64.wrap (s : Int) = (s : Int) := by rw [IntKind.wrap_i64]; omega
    have cj : (0 : Int) ≤ (j : Int) ∧ (j : Int) < ((dig a).length : Int) := by omega
    have hn : ¬ (s : Int) < 0 := by omega
    have hmin : min s IntKind.u32.bits = s := by
      show min s 32 = s
      omega
    have hfd : (x : Int).fdiv (2 ^ s) = ((x / 2 ^ s : Nat) : Int) := by
      rw [Int.fdiv_eq_ediv_of_nonneg _ (Int.le_of_lt (Int.pow_pos (by omega)))]
      simp
    have hrem : ((x / 2 ^ s : Nat) : Int).tmod 2 = (t : Int) := by
      rw [Int.tmod_eq_emod_of_nonneg (Int.natCast_nonneg _), ← hbit]
      rfl
    obtain ⟨b1, sp1, cap1, vs1, ro1, rfl, hb1, hg1, he1⟩ := bA.at hx
    have g1 : σ.get b1 = some (.cells vs1 ro1) := (S.keep b1 hb1).trans hg1
    have w32 : IntKind.u32.wrap (t : Int) = (t : Int) := by rw [IntKind.wrap_u32]; omega
    obtain ⟨ts2, r2, l2, q0, q1, q6, q7, q8, q9⟩ : ∃ ts2, DC Try.prog false (nthC 0 (inBlk (nthC 1 divC))) ⟨ts1, []⟩ σ ⟨.norm, ⟨ts2, []⟩, σ, []⟩ ∧ ts2.length = 60 ∧ lget ts2 0 = .slice (some ⟨b1, 0, some sp1⟩) (dig a).length cap1 ∧ lget ts2 1 = w ∧ lget ts2 6 = .slice (some ⟨bo, 0, some 0⟩) (dig a).length (dig a).length ∧ lget ts2 7 = u ∧ lget ts2 8 = .int .i64 (i : Int) ∧ lget ts2 9 = .int .u32 (t : Int) := by
      refine ⟨_, runs Orc.none_ok 40 nobt (by kernel_rfl) (by simp only [nadd_le, nadd_lt, nle_add, nlt_add, nadd_eq, neq_add, Nat.add_le_add_iff_left, Nat.add_lt_add_iff_left, Nat.add_left_cancel_iff, Nat.add_assoc, Nat.testBit_eq_decide_div_mod_eq, Nat.reducePow, Nat.reduceDiv, Nat.reduceMod, runOps_nil, runOps_cons, runDrawn_nil, runDrawn_cons, run_loop_job, run_scope_job, run_skip, run_label, run_exit, run_goto, run_ret, run_seq, run_cond, run_block, run_loop, run_scope, run_region, pureK_some, pureO_call, callK_ret, callK_panic, opsK_val, opsK_new, opsK_eff, opsK_panic, opsK_enter, opsK_round, opsK_defer, wantK_true, wantK_false, consD_some, callD_ret, drawnK_val, drawnK_new, drawnK_eff, drawnK_enter, condK_true, condK_false, blockK_some, preO_some, thenR_norm, thenR_exit, thenR_goto, thenR_ret, thenR_panic, jumpK_some, jumpK_none, scopeK_goto, scopeK_norm, scopeK_exit, scopeK_ret, scopeK_panic, regO_some, regD_some, regionR_false, regionR_true, dynOk, loud, quietK, stepOp, stepBuiltin, start, Fr.put, putL, wantedA, yieldedA, lget?, ev, evs, evo, lget, plain, plainL, partsA, cx_und, cx_info, cx_flat, opBin, isShift, intOp, shiftOp, strOp, eqOp, opUn, opConvert, RR.pre, endsA, resA, resList, resOne, opPick, opExtract, opBuild, opBuildSlice, opBuild.lgetP, Nat.le_zero_eq, Nat.zero_le, opBox, opNilCheck, opField, opIndex, opCall, AX.inBlock, findLabel, isAggD, partA, placesA, fillA, opMakeFunc, opMakeIface, opPanic, opDefer, bnd, oneCells, vcells, over, opLoad, opStore, opAlloc, opFieldAddr, opIndexAddr, St.get_new, St.get_set, St.get_put, St.next_new, St.next_set, clash, SK.isFull, SK.lg, SK.rd, List.set_cons_succ, List.set_cons_zero, List.getElem?_cons_succ, List.getElem?_cons_zero, List.length_cons, List.length_nil, List.append_nil, List.nil_append, List.cons_append, List.replicate_succ, List.replicate_zero, List.drop_zero, List.drop_succ_cons, List.take_zero, List.take_succ_cons, List.take_nil, List.drop_nil, Option.map_some, Option.map_none, Bool.and_true, Bool.true_and, Bool.and_false, Bool.false_and, Bool.or_true, Bool.true_or, Bool.or_false, Bool.false_or, Bool.not_true, Bool.not_false, decide_true, decide_false, if_true, if_false, ite_true, ite_false, dite_true, dite_false, List.all_cons, List.all_nil, List.any_cons, List.any_nil, List.contains_cons, List.contains_nil, List.isEmpty_nil, List.isEmpty_cons, Nat.reduceAdd, Nat.reduceSub, Nat.reduceMul, Nat.reduceLeDiff, Nat.reduceLT, Nat.reduceEqDiff, Nat.zero_add, Nat.add_zero, beq_self_eq_true, Bool.true_beq, Bool.false_beq, bne_iff_ne, bne_self_eq_false, reduceCtorEq, List.getD_cons_succ, List.getD_cons_zero, List.getD_nil, and_true, true_and, and_self, not_true_eq_false, not_false_eq_true, eq_self, ne_eq, reduceIte, reduceDIte, Option.some.injEq, if_pos rfl, beq_iff_eq, Int.reduceLT, Int.reduceLE, Int.reduceEq, Int.reduceNeg, Int.reduceAdd, Int.reduceSub, Int.reduceMul, Nat.lt_irrefl, Nat.le_refl, Nat.succ_ne_self, List.size_toArray, Int.cast_ofNat_Int, Int.reduceToNat, Nat.zero_mul, Nat.one_mul, Nat.mul_one, nthC, inBlk, divC, divB, loopOf, Option.getD, lget_put, lgetq_put, List.length_set, q0, q8, l1, ej, es, wj, ws, cj, hn, hmin, hfd, hrem, g1, he1, Int.toNat_natCast, Try.f96, Try.underlying3, info3, Try.t3, Try.underlying4, info4, Try.t4, Try.underlying112, info112, Try.t112, Try.underlying115, info115, Try.t115, Try.underlying154, info154, Try.t154] <;> rfl), ?_, ?_, ?_, ?_, ?_, ?_, ?_⟩ <;> simp only [lget_put, List.length_set, q0, q1, q6, q7, q8, l1, Nat.reduceEqDiff, Nat.reduceLT, if_true, if_false]
    -- what is left, doubled, and the bit
    have hrlt : r < b := by rw [I.r]; exact Nat.mod_lt _ hb
    have sr : (dig r).length ≤ 20 := Nat.le_trans (dig_len_mono (Nat.le_of_lt hrlt)) sB
    obtain ⟨σa, ua, da, ba, na⟩ := add_call bu bu (dig_low r) (dig_low r) (by omega) (by omega)
    rw [val_dig] at ba
    have da' := da.pad
    have ka := same_of da'
    obtain ⟨σb, ub, db, bb, nb⟩ := of_call (n := t) (by omega) σa.pad
    have db' := db.pad
    have kb := same_of db'
    have s2r : (dig (r + r)).length ≤ 21 := by
      refine dig_length_le ?_
      have := val_lt (dig b) (dig_low b)
      rw [val_dig] at this
      have h2 : 65536 ^ (dig b).length ≤ 65536 ^ 20 := Nat.pow_le_pow_right (by omega) sB
      have h3 : (65536 : Nat) ^ 21 = 65536 ^ 20 * 65536 := Nat.pow_succ ..
      omega
    have st : (dig t).length ≤ 1 := dig_length_le (by omega)
    obtain ⟨σc, uc, dc, bc, nc⟩ := add_call (ba.pad.keep kb.1 kb.2) bb.pad (dig_low _) (dig_low _) (by omega) (by omega)
    rw [val_dig, val_dig] at bc
    have er : r + r + t = 2 * r + t := by omega
    rw [er] at bc
    have kc := same_of dc
    have nba : ¬ σa.pad = σ := St.ne_of_next (by rw [St.next_pad]; have := same_of da; omega)
    have nbb : ¬ σb.pad = σ := St.ne_of_next (by have := kb.1; rw [St.next_pad] at this ⊢; have := same_of da; have := same_of db; rw [St.next_pad] at this; omega)
    have wt : IntKind.u64.wrap (t : Int) = (t : Int) := by rw [IntKind.wrap_u64]; omega
    obtain ⟨ts3, r3, l3, q0, q1, q6, q7, q8⟩ : ∃ ts3, DC Try.prog false (nthC 1 (inBlk (nthC 1 divC))) ⟨ts2, []⟩ σ ⟨.norm, ⟨ts3, []⟩, σc, []⟩ ∧ ts3.length = 60 ∧ lget ts3 0 = .slice (some ⟨b1, 0, some sp1⟩) (dig a).length cap1 ∧ lget ts3 1 = w ∧ lget ts3 6 = .slice (some ⟨bo, 0, some 0⟩) (dig a).length (dig a).length ∧ lget ts3 7 = uc ∧ lget ts3 8 = .int .i64 (i : Int) := by
      refine ⟨_, runs (one_ok' (one_ok' (one_ok' Orc.none_ok dc) db') da') 40 nobt (by kernel_rfl) (by simp only [nadd_le, nadd_lt, nle_add, nlt_add, nadd_eq, neq_add, Nat.add_le_add_iff_left, Nat.add_lt_add_iff_left, Nat.add_left_cancel_iff, Nat.add_assoc, Nat.testBit_eq_decide_div_mod_eq, Nat.reducePow, Nat.reduceDiv, Nat.reduceMod, runOps_nil, runOps_cons, runDrawn_nil, runDrawn_cons, run_loop_job, run_scope_job, run_skip, run_label, run_exit, run_goto, run_ret, run_seq, run_cond, run_block, run_loop, run_scope, run_region, pureK_some, pureO_call, callK_ret, callK_panic, opsK_val, opsK_new, opsK_eff, opsK_panic, opsK_enter, opsK_round, opsK_defer, wantK_true, wantK_false, consD_some, callD_ret, drawnK_val, drawnK_new, drawnK_eff, drawnK_enter, condK_true, condK_false, blockK_some, preO_some, thenR_norm, thenR_exit, thenR_goto, thenR_ret, thenR_panic, jumpK_some, jumpK_none, scopeK_goto, scopeK_norm, scopeK_exit, scopeK_ret, scopeK_panic, regO_some, regD_some, regionR_false, regionR_true, dynOk, loud, quietK, stepOp, stepBuiltin, start, Fr.put, putL, wantedA, yieldedA, lget?, ev, evs, evo, lget, plain, plainL, partsA, cx_und, cx_info, cx_flat, opBin, isShift, intOp, shiftOp, strOp, eqOp, opUn, opConvert, RR.pre, endsA, resA, resList, resOne, opPick, opExtract, opBuild, opBuildSlice, opBuild.lgetP, Nat.le_zero_eq, Nat.zero_le, opBox, opNilCheck, opField, opIndex, opCall, AX.inBlock, findLabel, isAggD, partA, placesA, fillA, opMakeFunc, opMakeIface, opPanic, opDefer, bnd, oneCells, vcells, over, opLoad, opStore, opAlloc, opFieldAddr, opIndexAddr, St.get_new, St.get_set, St.get_put, St.next_new, St.next_set, clash, SK.isFull, SK.lg, SK.rd, List.set_cons_succ, List.set_cons_zero, List.getElem?_cons_succ, List.getElem?_cons_zero, List.length_cons, List.length_nil, List.append_nil, List.nil_append, List.cons_append, List.replicate_succ, List.replicate_zero, List.drop_zero, List.drop_succ_cons, List.take_zero, List.take_succ_cons, List.take_nil, List.drop_nil, Option.map_some, Option.map_none, Bool.and_true, Bool.true_and, Bool.and_false, Bool.false_and, Bool.or_true, Bool.true_or, Bool.or_false, Bool.false_or, Bool.not_true, Bool.not_false, decide_true, decide_false, if_true, if_false, ite_true, ite_false, dite_true, dite_false, List.all_cons, List.all_nil, List.any_cons, List.any_nil, List.contains_cons, List.contains_nil, List.isEmpty_nil, List.isEmpty_cons, Nat.reduceAdd, Nat.reduceSub, Nat.reduceMul, Nat.reduceLeDiff, Nat.reduceLT, Nat.reduceEqDiff, Nat.zero_add, Nat.add_zero, beq_self_eq_true, Bool.true_beq, Bool.false_beq, bne_iff_ne, bne_self_eq_false, reduceCtorEq, List.getD_cons_succ, List.getD_cons_zero, List.getD_nil, and_true, true_and, and_self, not_true_eq_false, not_false_eq_true, eq_self, ne_eq, reduceIte, reduceDIte, Option.some.injEq, if_pos rfl, beq_iff_eq, Int.reduceLT, Int.reduceLE, Int.reduceEq, Int.reduceNeg, Int.reduceAdd, Int.reduceSub, Int.reduceMul, Nat.lt_irrefl, Nat.le_refl, Nat.succ_ne_self, List.size_toArray, Int.cast_ofNat_Int, Int.reduceToNat, Nat.zero_mul, Nat.one_mul, Nat.mul_one, nthC, inBlk, divC, divB, loopOf, Option.getD, Orc.one_call, one_miss nba, one_miss nbb, one_other, lget_put, lgetq_put, List.length_set, q7, q9, l2, wt, Try.f96, Try.underlying3, info3, Try.t3, Try.underlying4, info4, Try.t4, Try.underlying112, info112, Try.t112, Try.underlying115, info115, Try.t115, Try.underlying154, info154, Try.t154, body55, body128] <;> rfl), ?_, ?_, ?_, ?_, ?_, ?_⟩ <;> simp only [lget_put, List.length_set, q0, q1, q6, q7, q8, l2, Nat.reduceEqDiff, Nat.reduceLT, if_true, if_false]
    have keep3 : σ.next ≤ σc.next ∧ ∀ c, c < σ.next → σc.get c = σ.get c := by
      have h1 := ka.1; have h2 := kb.1; have h3 := kc.1
      exact ⟨by omega, fun c hc => (kc.2 c (by omega)).trans ((kb.2 c (by omega)).trans (ka.2 c hc))⟩
    have S3 := S.later keep3.1 keep3.2
    have B3 : BigS σc w (dig b) := bB.keep (by have := S.lo; have := S.nx; omega) S3.keep
    have nuc : NewBlk (bo + 1) uc := fun b o sp len cap e => by
      have := nc b o sp len cap e
      have h1 := ka.1; have h2 := kb.1; have := S.nx; omega
    have dl := less_call' bc B3 (by
      have h1 : 2 * r + t < 65536 ^ 21 := by
        have := val_lt (dig b) (dig_low b)
        rw [val_dig] at this
        have h2 : 65536 ^ (dig b).length ≤ 65536 ^ 20 := Nat.pow_le_pow_right (by omega) sB
        have h3 : (65536 : Nat) ^ 21 = 65536 ^ 20 * 65536 := Nat.pow_succ ..
        omega
      have := dig_length_le h1
      omega) (by omega)
    have w8 : IntKind.i64.wrap ((i : Int) - 1) = (i : Int) - 1 := by rw [IntKind.wrap_i64]; omega
    have fin : ∀ (σ5 : St) (lg5 : Log) (ts5 : List Value) (Q5 : List Nat) (u5 : Value) (r5v : Nat), DC Try.prog false (inBlk (nthC 1 divC)) ⟨ts1, []⟩ σ ⟨.norm, ⟨ts5, []⟩, σ5, lg5⟩ → ts5.length = 60 → lget ts5 0 = .slice (some ⟨b1, 0, some sp1⟩) (dig a).length cap1 → lget ts5 1 = w → lget ts5 6 = .slice (some ⟨bo, 0, some 0⟩) (dig a).length (dig a).length → lget ts5 7 = u5 → lget ts5 8 = .int .i64 (i : Int) →
        DivI a b (dig a).length Q5 i r5v → MS σ₀ σ5 bo Q5 → BigS σ5 u5 (dig r5v) → NewBlk (bo + 1) u5 → (∀ x ∈ lg5, x = bo) →
        ∃ σ' lg ts' Q' u', DL Try.prog false divC ⟨ts, []⟩ σ ⟨.exit 0, ⟨ts', []⟩, σ', lg⟩ ∧ DivI a b (dig a).length Q' 0 (a % b) ∧ (∃ m', DF ts' (.slice (some ⟨b1, 0, some sp1⟩) (dig a).length cap1) w u' bo (dig a).length m') ∧ MS σ₀ σ' bo Q' ∧ BigS σ' u' (dig (a % b)) ∧ NewBlk (bo + 1) u' ∧ (∀ x ∈ lg, x = bo) := by
      intro σ5 lg5 ts5 Q5 u5 r5v d5 l5 p0 p1 p6 p7 p8 I5 S5 B5 N5 f5
      obtain ⟨ts6, r6, F6⟩ : ∃ ts6, DC Try.prog false (nthC 2 divC) ⟨ts5, []⟩ σ5 ⟨.norm, ⟨ts6, []⟩, σ5, []⟩ ∧ DF ts6 (.slice (some ⟨b1, 0, some sp1⟩) (dig a).length cap1) w u5 bo (dig a).length ((i : Int) - 1) := by
        refine ⟨_, runs Orc.none_ok 40 nobt (by kernel_rfl) (by simp only [nadd_le, nadd_lt, nle_add, nlt_add, nadd_eq, neq_add, Nat.add_le_add_iff_left, Nat.add_lt_add_iff_left, Nat.add_left_cancel_iff, Nat.add_assoc, Nat.testBit_eq_decide_div_mod_eq, Nat.reducePow, Nat.reduceDiv, Nat.reduceMod, runOps_nil, runOps_cons, runDrawn_nil, runDrawn_cons, run_loop_job, run_scope_job, run_skip, run_label, run_exit, run_goto, run_ret, run_seq, run_cond, run_block, run_loop, run_scope, run_region, pureK_some, pureO_call, callK_ret, callK_panic, opsK_val, opsK_new, opsK_eff, opsK_panic, opsK_enter, opsK_round, opsK_defer, wantK_true, wantK_false, consD_some, callD_ret, drawnK_val, drawnK_new, drawnK_eff, drawnK_enter, condK_true, condK_false, blockK_some, preO_some, thenR_norm, thenR_exit, thenR_goto, thenR_ret, thenR_panic, jumpK_some, jumpK_none, scopeK_goto, scopeK_norm, scopeK_exit, scopeK_ret, scopeK_panic, regO_some, regD_some, regionR_false, regionR_true, dynOk, loud, quietK, stepOp, stepBuiltin, start, Fr.put, putL, wantedA, yieldedA, lget?, ev, evs, evo, lget, plain, plainL, partsA, cx_und, cx_info, cx_flat, opBin, isShift, intOp, shiftOp, strOp, eqOp, opUn, opConvert, RR.pre, endsA, resA, resList, resOne, opPick, opExtract, opBuild, opBuildSlice, opBuild.lgetP, Nat.le_zero_eq, Nat.zero_le, opBox, opNilCheck, opField, opIndex, opCall, AX.inBlock, findLabel, isAggD, partA, placesA, fillA, opMakeFunc, opMakeIface, opPanic, opDefer, bnd, oneCells, vcells, over, opLoad, opStore, opAlloc, opFieldAddr, opIndexAddr, St.get_new, St.get_set, St.get_put, St.next_new, St.next_set, clash, SK.isFull, SK.lg, SK.rd, List.set_cons_succ, List.set_cons_zero, List.getElem?_cons_succ, List.getElem?_cons_zero, List.length_cons, List.length_nil, List.append_nil, List.nil_append, List.cons_append, List.replicate_succ, List.replicate_zero, List.drop_zero, List.drop_succ_cons, List.take_zero, List.take_succ_cons, List.take_nil, List.drop_nil, Option.map_some, Option.map_none, Bool.and_true, Bool.true_and, Bool.and_false, Bool.false_and, Bool.or_true, Bool.true_or, Bool.or_false, Bool.false_or, Bool.not_true, Bool.not_false, decide_true, decide_false, if_true, if_false, ite_true, ite_false, dite_true, dite_false, List.all_cons, List.all_nil, List.any_cons, List.any_nil, List.contains_cons, List.contains_nil, List.isEmpty_nil, List.isEmpty_cons, Nat.reduceAdd, Nat.reduceSub, Nat.reduceMul, Nat.reduceLeDiff, Nat.reduceLT, Nat.reduceEqDiff, Nat.zero_add, Nat.add_zero, beq_self_eq_true, Bool.true_beq, Bool.false_beq, bne_iff_ne, bne_self_eq_false, reduceCtorEq, List.getD_cons_succ, List.getD_cons_zero, List.getD_nil, and_true, true_and, and_self, not_true_eq_false, not_false_eq_true, eq_self, ne_eq, reduceIte, reduceDIte, Option.some.injEq, if_pos rfl, beq_iff_eq, Int.reduceLT, Int.reduceLE, Int.reduceEq, Int.reduceNeg, Int.reduceAdd, Int.reduceSub, Int.reduceMul, Nat.lt_irrefl, Nat.le_refl, Nat.succ_ne_self, List.size_toArray, Int.cast_ofNat_Int, Int.reduceToNat, Nat.zero_mul, Nat.one_mul, Nat.mul_one, nthC, divC, divB, loopOf, Option.getD, lget_put, lgetq_put, List.length_set, p8, l5, w8, Try.f96, Try.underlying3, info3, Try.t3, Try.underlying4, info4, Try.t4, Try.underlying112, info112, Try.t112, Try.underlying115, info115, Try.t115, Try.underlying154, info154, Try.t154] <;> rfl), ?_⟩
        constructor <;> simp only [lget_put, List.length_set, p0, p1, p6, p7, l5, Nat.reduceEqDiff, Nat.reduceLT, if_true, if_false]
      have round : DC Try.prog false divC ⟨ts, []⟩ σ ⟨.norm, ⟨ts6, []⟩, σ5, lg5 ++ []⟩ := DC.seq r1 rfl (DC.seq (DC.block d5) rfl r6)
      obtain ⟨σ', lg, ts', Q', u', a1, a2, a3, a4, a5, a6, a7⟩ := ih Q5 r5v u5 σ5 ts6 (by omega) I5 F6 S5 B5 N5
      refine ⟨σ', _, ts', Q', u', DL.next round rfl a1, a2, a3, a4, a5, a6, fun x hx => ?_⟩
      rw [List.append_nil] at hx
      rcases List.mem_append.1 hx with h | h
      · exact f5 x h
      · exact a7 x h
    by_cases hlt : 2 * r + t < b
    · have hdec : decide (2 * r + t < b) = true := by simp [hlt]
      rw [hdec] at dl
      obtain ⟨ts4, r4, l4, p0, p1, p6, p7, p8, p40⟩ : ∃ ts4, DC Try.prog false (nthC 2 (inBlk (nthC 1 divC))) ⟨ts3, []⟩ σc ⟨.norm, ⟨ts4, []⟩, σc, []⟩ ∧ ts4.length = 60 ∧ lget ts4 0 = .slice (some ⟨b1, 0, some sp1⟩) (dig a).length cap1 ∧ lget ts4 1 = w ∧ lget ts4 6 = .slice (some ⟨bo, 0, some 0⟩) (dig a).length (dig a).length ∧ lget ts4 7 = uc ∧ lget ts4 8 = .int .i64 (i : Int) ∧ lget ts4 40 = .bool false := by
        refine ⟨_, runs (one_ok' Orc.none_ok dl) 40 nobt (by kernel_rfl) (by simp only [nadd_le, nadd_lt, nle_add, nlt_add, nadd_eq, neq_add, Nat.add_le_add_iff_left, Nat.add_lt_add_iff_left, Nat.add_left_cancel_iff, Nat.add_assoc, Nat.testBit_eq_decide_div_mod_eq, Nat.reducePow, Nat.reduceDiv, Nat.reduceMod, runOps_nil, runOps_cons, runDrawn_nil, runDrawn_cons, run_loop_job, run_scope_job, run_skip, run_label, run_exit, run_goto, run_ret, run_seq, run_cond, run_block, run_loop, run_scope, run_region, pureK_some, pureO_call, callK_ret, callK_panic, opsK_val, opsK_new, opsK_eff, opsK_panic, opsK_enter, opsK_round, opsK_defer, wantK_true, wantK_false, consD_some, callD_ret, drawnK_val, drawnK_new, drawnK_eff, drawnK_enter, condK_true, condK_false, blockK_some, preO_some, thenR_norm, thenR_exit, thenR_goto, thenR_ret, thenR_panic, jumpK_some, jumpK_none, scopeK_goto, scopeK_norm, scopeK_exit, scopeK_ret, scopeK_panic, regO_some, regD_some, regionR_false, regionR_true, dynOk, loud, quietK, stepOp, stepBuiltin, start, Fr.put, putL, wantedA, yieldedA, lget?, ev, evs, evo, lget, plain, plainL, partsA, cx_und, cx_info, cx_flat, opBin, isShift, intOp, shiftOp, strOp, eqOp, opUn, opConvert, RR.pre, endsA, resA, resList, resOne, opPick, opExtract, opBuild, opBuildSlice, opBuild.lgetP, Nat.le_zero_eq, Nat.zero_le, opBox, opNilCheck, opField, opIndex, opCall, AX.inBlock, findLabel, isAggD, partA, placesA, fillA, opMakeFunc, opMakeIface, opPanic, opDefer, bnd, oneCells, vcells, over, opLoad, opStore, opAlloc, opFieldAddr, opIndexAddr, St.get_new, St.get_set, St.get_put, St.next_new, St.next_set, clash, SK.isFull, SK.lg, SK.rd, List.set_cons_succ, List.set_cons_zero, List.getElem?_cons_succ, List.getElem?_cons_zero, List.length_cons, List.length_nil, List.append_nil, List.nil_append, List.cons_append, List.replicate_succ, List.replicate_zero, List.drop_zero, List.drop_succ_cons, List.take_zero, List.take_succ_cons, List.take_nil, List.drop_nil, Option.map_some, Option.map_none, Bool.and_true, Bool.true_and, Bool.and_false, Bool.false_and, Bool.or_true, Bool.true_or, Bool.or_false, Bool.false_or, Bool.not_true, Bool.not_false, decide_true, decide_false, if_true, if_false, ite_true, ite_false, dite_true, dite_false, List.all_cons, List.all_nil, List.any_cons, List.any_nil, List.contains_cons, List.contains_nil, List.isEmpty_nil, List.isEmpty_cons, Nat.reduceAdd, Nat.reduceSub, Nat.reduceMul, Nat.reduceLeDiff, Nat.reduceLT, Nat.reduceEqDiff, Nat.zero_add, Nat.add_zero, beq_self_eq_true, Bool.true_beq, Bool.false_beq, bne_iff_ne, bne_self_eq_false, reduceCtorEq, List.getD_cons_succ, List.getD_cons_zero, List.getD_nil, and_true, true_and, and_self, not_true_eq_false, not_false_eq_true, eq_self, ne_eq, reduceIte, reduceDIte, Option.some.injEq, if_pos rfl, beq_iff_eq, Int.reduceLT, Int.reduceLE, Int.reduceEq, Int.reduceNeg, Int.reduceAdd, Int.reduceSub, Int.reduceMul, Nat.lt_irrefl, Nat.le_refl, Nat.succ_ne_self, List.size_toArray, Int.cast_ofNat_Int, Int.reduceToNat, Nat.zero_mul, Nat.one_mul, Nat.mul_one, nthC, inBlk, divC, divB, loopOf, Option.getD, Orc.one_call, lget_put, lgetq_put, List.length_set, q1, q7, l3, Try.f96, Try.underlying3, info3, Try.t3, Try.underlying4, info4, Try.t4, Try.underlying112, info112, Try.t112, Try.underlying115, info115, Try.t115, Try.underlying154, info154, Try.t154, body57] <;> rfl), ?_, ?_, ?_, ?_, ?_, ?_, ?_⟩ <;> simp only [lget_put, List.length_set, q0, q1, q6, q7, q8, l3, Nat.reduceEqDiff, Nat.reduceLT, if_true, if_false]
      have dcond : DC Try.prog false (nthC 3 (inBlk (nthC 1 divC))) ⟨ts4, []⟩ σc ⟨.norm, ⟨ts4, []⟩, σc, []⟩ := DC.cond (t := false) (by show some (lget ts4 40) = _; rw [p40]) (DC.skip _ _ _)
      have blk : DC Try.prog false (inBlk (nthC 1 divC)) ⟨ts1, []⟩ σ ⟨.norm, ⟨ts4, []⟩, σc, []⟩ := DC.seq r2 rfl (DC.seq r3 rfl (DC.seq r4 rfl dcond))
      rw [← ht] at hlt bc
      exact fin σc [] ts4 Q uc _ blk l4 p0 p1 p6 p7 p8 (I.low_step hb hlt) S3 bc nuc (fun x hx => by simp at hx)
    · have hdec : decide (2 * r + t < b) = false := by simp [hlt]
      rw [hdec] at dl
      obtain ⟨ts4, r4, l4, p0, p1, p6, p7, p8, p40⟩ : ∃ ts4, DC Try.prog false (nthC 2 (inBlk (nthC 1 divC))) ⟨ts3, []⟩ σc ⟨.norm, ⟨ts4, []⟩, σc, []⟩ ∧ ts4.length = 60 ∧ lget ts4 0 = .slice (some ⟨b1, 0, some sp1⟩) (dig a).length cap1 ∧ lget ts4 1 = w ∧ lget ts4 6 = .slice (some ⟨bo, 0, some 0⟩) (dig a).length (dig a).length ∧ lget ts4 7 = uc ∧ lget ts4 8 = .int .i64 (i : Int) ∧ lget ts4 40 = .bool true := by
        refine ⟨_, runs (one_ok' Orc.none_ok dl) 40 nobt (by kernel_rfl) (by simp only [nadd_le, nadd_lt, nle_add, nlt_add, nadd_eq, neq_add, Nat.add_le_add_iff_left, Nat.add_lt_add_iff_left, Nat.add_left_cancel_iff, Nat.add_assoc, Nat.testBit_eq_decide_div_mod_eq, Nat.reducePow, Nat.reduceDiv, Nat.reduceMod, runOps_nil, runOps_cons, runDrawn_nil, runDrawn_cons, run_loop_job, run_scope_job, run_skip, run_label, run_exit, run_goto, run_ret, run_seq, run_cond, run_block, run_loop, run_scope, run_region, pureK_some, pureO_call, callK_ret, callK_panic, opsK_val, opsK_new, opsK_eff, opsK_panic, opsK_enter, opsK_round, opsK_defer, wantK_true, wantK_false, consD_some, callD_ret, drawnK_val, drawnK_new, drawnK_eff, drawnK_enter, condK_true, condK_false, blockK_some, preO_some, thenR_norm, thenR_exit, thenR_goto, thenR_ret, thenR_panic, jumpK_some, jumpK_none, scopeK_goto, scopeK_norm, scopeK_exit, scopeK_ret, scopeK_panic, regO_some, regD_some, regionR_false, regionR_true, dynOk, loud, quietK, stepOp, stepBuiltin, start, Fr.put, putL, wantedA, yieldedA, lget?, ev, evs, evo, lget, plain, plainL, partsA, cx_und, cx_info, cx_flat, opBin, isShift, intOp, shiftOp, strOp, eqOp, opUn, opConvert, RR.pre, endsA, resA, resList, resOne, opPick, opExtract, opBuild, opBuildSlice, opBuild.lgetP, Nat.le_zero_eq, Nat.zero_le, opBox, opNilCheck, opField, opIndex, opCall, AX.inBlock, findLabel, isAggD, partA, placesA, fillA, opMakeFunc, opMakeIface, opPanic, opDefer, bnd, oneCells, vcells, over, opLoad, opStore, opAlloc, opFieldAddr, opIndexAddr, St.get_new, St.get_set, St.get_put, St.next_new, St.next_set, clash, SK.isFull, SK.lg, SK.rd, List.set_cons_succ, List.set_cons_zero, List.getElem?_cons_succ, List.getElem?_cons_zero, List.length_cons, List.length_nil, List.append_nil, List.nil_append, List.cons_append, List.replicate_succ, List.replicate_zero, List.drop_zero, List.drop_succ_cons, List.take_zero, List.take_succ_cons, List.take_nil, List.drop_nil, Option.map_some, Option.map_none, Bool.and_true, Bool.true_and, Bool.and_false, Bool.false_and, Bool.or_true, Bool.true_or, Bool.or_false, Bool.false_or, Bool.not_true, Bool.not_false, decide_true, decide_false, if_true, if_false, ite_true, ite_false, dite_true, dite_false, List.all_cons, List.all_nil, List.any_cons, List.any_nil, List.contains_cons, List.contains_nil, List.isEmpty_nil, List.isEmpty_cons, Nat.reduceAdd, Nat.reduceSub, Nat.reduceMul, Nat.reduceLeDiff, Nat.reduceLT, Nat.reduceEqDiff, Nat.zero_add, Nat.add_zero, beq_self_eq_true, Bool.true_beq, Bool.false_beq, bne_iff_ne, bne_self_eq_false, reduceCtorEq, List.getD_cons_succ, List.getD_cons_zero, List.getD_nil, and_true, true_and, and_self, not_true_eq_false, not_false_eq_true, eq_self, ne_eq, reduceIte, reduceDIte, Option.some.injEq, if_pos rfl, beq_iff_eq, Int.reduceLT, Int.reduceLE, Int.reduceEq, Int.reduceNeg, Int.reduceAdd, Int.reduceSub, Int.reduceMul, Nat.lt_irrefl, Nat.le_refl, Nat.succ_ne_self, List.size_toArray, Int.cast_ofNat_Int, Int.reduceToNat, Nat.zero_mul, Nat.one_mul, Nat.mul_one, nthC, inBlk, divC, divB, loopOf, Option.getD, Orc.one_call, lget_put, lgetq_put, List.length_set, q1, q7, l3, Try.f96, Try.underlying3, info3, Try.t3, Try.underlying4, info4, Try.t4, Try.underlying112, info112, Try.t112, Try.underlying115, info115, Try.t115, Try.underlying154, info154, Try.t154, body57] <;> rfl), ?_, ?_, ?_, ?_, ?_, ?_, ?_⟩ <;> simp only [lget_put, List.length_set, q0, q1, q6, q7, q8, l3, Nat.reduceEqDiff, Nat.reduceLT, if_true, if_false]
      obtain ⟨σd, ud, dd, bd, nd⟩ := sub_call bc B3 (by omega) (by
        have h1 : 2 * r + t < 65536 ^ 21 := by
          have := val_lt (dig b) (dig_low b)
          rw [val_dig] at this
          have h2 : 65536 ^ (dig b).length ≤ 65536 ^ 20 := Nat.pow_le_pow_right (by omega) sB
          have h3 : (65536 : Nat) ^ 21 = 65536 ^ 20 * 65536 := Nat.pow_succ ..
          omega
        have := dig_length_le h1
        omega)
      have kd := same_of dd
      have S4 := S3.later kd.1 kd.2
      -- the quotient's digit
      obtain ⟨y, hy⟩ : ∃ y, Q[j]? = some y := ⟨_, List.getElem?_eq_getElem (by rw [I.len]; exact hj)⟩
      obtain ⟨hroom, I5⟩ := I.up_step hb (by rw [ht]; omega) (by rw [hji]; exact hy)
      rw [hji, hsi] at I5
      rw [hsi] at hroom
      rw [ht] at I5
      obtain ⟨z, hz⟩ : ∃ z, y + 2 ^ s = z := ⟨_, rfl⟩
      rw [hz] at hroom I5
      have gQ := S4.get
      have eQ := dcells_at hy
      have lQ : j + 1 ≤ (dcells Q).length := by rw [dcells_length, I.len]; omega
      have ov := over_digit Q j z (by rw [I.len]; omega)
      have hp2 : 2 ^ s < 65536 := by omega
      have ws1 : IntKind.u32.wrap (1 * 2 ^ s) = ((2 ^ s : Nat) : Int) := by
        rw [IntKind.wrap_u32]
        have : (1 * 2 ^ s : Int) = ((2 ^ s : Nat) : Int) := by simp
        rw [this]
        generalize 2 ^ s = p at hp2
        omega
      have wz : IntKind.u32.wrap ((y : Int) + ((2 ^ s : Nat) : Int)) = (z : Int) := by
        rw [IntKind.wrap_u32]
        generalize 2 ^ s = p at hz
        omega
      have ny : ¬ σd.next ≤ bo := by have := S4.nx; omega
      let σ5 := σd.set bo (.cells (dcells (Q.set j z)) false)
      obtain ⟨ts5, r5, l5, p0, p1, p6, p7, p8⟩ : ∃ ts5, DC Try.prog false (nthC 3 (inBlk (nthC 1 divC))) ⟨ts4, []⟩ σc ⟨.norm, ⟨ts5, []⟩, σ5, [bo]⟩ ∧ ts5.length = 60 ∧ lget ts5 0 = .slice (some ⟨b1, 0, some sp1⟩) (dig a).length cap1 ∧ lget ts5 1 = w ∧ lget ts5 6 = .slice (some ⟨bo, 0, some 0⟩) (dig a).length (dig a).length ∧ lget ts5 7 = ud ∧ lget ts5 8 = .int .i64 (i : Int) := by
        refine ⟨_, runs (one_ok' Orc.none_ok dd) 40 bt96 (by kernel_rfl) (by simp only [nadd_le, nadd_lt, nle_add, nlt_add, nadd_eq, neq_add, Nat.add_le_add_iff_left, Nat.add_lt_add_iff_left, Nat.add_left_cancel_iff, Nat.add_assoc, Nat.testBit_eq_decide_div_mod_eq, Nat.reducePow, Nat.reduceDiv, Nat.reduceMod, runOps_nil, runOps_cons, runDrawn_nil, runDrawn_cons, run_loop_job, run_scope_job, run_skip, run_label, run_exit, run_goto, run_ret, run_seq, run_cond, run_block, run_loop, run_scope, run_region, pureK_some, pureO_call, callK_ret, callK_panic, opsK_val, opsK_new, opsK_eff, opsK_panic, opsK_enter, opsK_round, opsK_defer, wantK_true, wantK_false, consD_some, callD_ret, drawnK_val, drawnK_new, drawnK_eff, drawnK_enter, condK_true, condK_false, blockK_some, preO_some, thenR_norm, thenR_exit, thenR_goto, thenR_ret, thenR_panic, jumpK_some, jumpK_none, scopeK_goto, scopeK_norm, scopeK_exit, scopeK_ret, scopeK_panic, regO_some, regD_some, regionR_false, regionR_true, dynOk, loud, quietK, stepOp, stepBuiltin, start, Fr.put, putL, wantedA, yieldedA, lget?, ev, evs, evo, lget, plain, plainL, partsA, cx_und, cx_info, cx_flat, opBin, isShift, intOp, shiftOp, strOp, eqOp, opUn, opConvert, RR.pre, endsA, resA, resList, resOne, opPick, opExtract, opBuild, opBuildSlice, opBuild.lgetP, Nat.le_zero_eq, Nat.zero_le, opBox, opNilCheck, opField, opIndex, opCall, AX.inBlock, findLabel, isAggD, partA, placesA, fillA, opMakeFunc, opMakeIface, opPanic, opDefer, bnd, oneCells, vcells, over, opLoad, opStore, opAlloc, opFieldAddr, opIndexAddr, St.get_new, St.get_set, St.get_put, St.next_new, St.next_set, clash, SK.isFull, SK.lg, SK.rd, List.set_cons_succ, List.set_cons_zero, List.getElem?_cons_succ, List.getElem?_cons_zero, List.length_cons, List.length_nil, List.append_nil, List.nil_append, List.cons_append, List.replicate_succ, List.replicate_zero, List.drop_zero, List.drop_succ_cons, List.take_zero, List.take_succ_cons, List.take_nil, List.drop_nil, Option.map_some, Option.map_none, Bool.and_true, Bool.true_and, Bool.and_false, Bool.false_and, Bool.or_true, Bool.true_or, Bool.or_false, Bool.false_or, Bool.not_true, Bool.not_false, decide_true, decide_false, if_true, if_false, ite_true, ite_false, dite_true, dite_false, List.all_cons, List.all_nil, List.any_cons, List.any_nil, List.contains_cons, List.contains_nil, List.isEmpty_nil, List.isEmpty_cons, Nat.reduceAdd, Nat.reduceSub, Nat.reduceMul, Nat.reduceLeDiff, Nat.reduceLT, Nat.reduceEqDiff, Nat.zero_add, Nat.add_zero, beq_self_eq_true, Bool.true_beq, Bool.false_beq, bne_iff_ne, bne_self_eq_false, reduceCtorEq, List.getD_cons_succ, List.getD_cons_zero, List.getD_nil, and_true, true_and, and_self, not_true_eq_false, not_false_eq_true, eq_self, ne_eq, reduceIte, reduceDIte, Option.some.injEq, if_pos rfl, beq_iff_eq, Int.reduceLT, Int.reduceLE, Int.reduceEq, Int.reduceNeg, Int.reduceAdd, Int.reduceSub, Int.reduceMul, Nat.lt_irrefl, Nat.le_refl, Nat.succ_ne_self, List.size_toArray, Int.cast_ofNat_Int, Int.reduceToNat, Nat.zero_mul, Nat.one_mul, Nat.mul_one, σ5, bt96, nthC, inBlk, divC, divB, loopOf, Option.getD, Orc.one_call, lget_put, lgetq_put, List.length_set, p1, p6, p7, p8, p40, l4, ej, es, wj, ws, cj, hn, hmin, ws1, wz, gQ, eQ, lQ, ov, ny, Int.toNat_natCast, Try.f96, Try.underlying3, info3, Try.t3, Try.underlying4, info4, Try.t4, Try.underlying112, info112, Try.t112, Try.underlying115, info115, Try.t115, Try.underlying154, info154, Try.t154, body129] <;> rfl), ?_, ?_, ?_, ?_, ?_, ?_⟩ <;> simp only [lget_put, List.length_set, p0, p1, p6, p7, p8, l4, Nat.reduceEqDiff, Nat.reduceLT, if_true, if_false]
      have blk : DC Try.prog false (inBlk (nthC 1 divC)) ⟨ts1, []⟩ σ ⟨.norm, ⟨ts5, []⟩, σ5, [bo]⟩ := DC.seq r2 rfl (DC.seq r3 rfl (DC.seq r4 rfl r5))
      have nud : NewBlk (bo + 1) ud := fun b o sp len cap e => by
        have := nd b o sp len cap e
        have := S3.nx; omega
      exact fin σ5 [bo] ts5 _ ud _ blk l5 p0 p1 p6 p7 p8 I5 ⟨S4.lo, S4.nx, by rw [St.get_set, if_pos rfl], fun c hc => by rw [St.get_set, if_neg (by have := S4.lo; omega)]; exact S4.keep c hc⟩
        (bd.set _ (nud.ne (Nat.lt_succ_self _))) nud (fun x hx => by simpa using hx)

end Go.Ab
