/- The plain law of heaps: the order of items. -/
import Derived.Test.YtlipmhhndhhgdaaTy
set_option linter.unusedSimpArgs false
set_option linter.unusedVariables false
namespace Go.Ab

theorem cross_le {n₁ d₁ n₂ d₂ n₃ d₃ : Int} (h1 : 0 < d₁) (h2 : 0 < d₂) (h3 : 0 < d₃) (a : n₁ * d₂ ≤ n₂ * d₁) (b : n₂ * d₃ ≤ n₃ * d₂) : n₁ * d₃ ≤ n₃ * d₁ := by
  have x := Int.mul_le_mul_of_nonneg_right a (Int.le_of_lt h3)
  have y := Int.mul_le_mul_of_nonneg_right b (Int.le_of_lt h1)
  refine Int.le_of_mul_le_mul_right (a := d₂) ?_ h2
  have e1 : n₁ * d₂ * d₃ = n₁ * d₃ * d₂ := by grind
  have e2 : n₂ * d₁ * d₃ = n₂ * d₃ * d₁ := by grind
  have e3 : n₃ * d₂ * d₁ = n₃ * d₁ * d₂ := by grind
  omega

theorem cmpR_le {n₁ d₁ n₂ d₂ : Int} : cmpR n₁ d₁ n₂ d₂ ≤ 0 ↔ n₁ * d₂ ≤ n₂ * d₁ := by
  unfold cmpR
  split
  · omega
  · split <;> omega
theorem cmpR_zero {n₁ d₁ n₂ d₂ : Int} : cmpR n₁ d₁ n₂ d₂ = 0 ↔ n₁ * d₂ = n₂ * d₁ := by
  unfold cmpR
  split
  · omega
  · split <;> omega
theorem cmpI_le {x y : Int} : cmpI x y ≤ 0 ↔ x ≤ y := by
  unfold cmpI
  split
  · omega
  · split <;> omega

/-- Items with a denominator at least 1. -/
def Item.pos (x : Item) : Prop := 0 < x.d
theorem Item.ok_pos {x : Item} (h : x.ok = true) : x.pos := by
  simp only [Item.ok, okR, Bool.and_eq_true, decide_eq_true_eq] at h
  have := h.1.2.2.1
  show 0 < x.d
  omega

theorem cmpItem_le {x y : Item} : cmpItem x y ≤ 0 ↔ x.n * y.d < y.n * x.d ∨ x.n * y.d = y.n * x.d ∧ x.turn ≤ y.turn := by
  unfold cmpItem
  split
  · rename_i h
    rw [cmpR_zero] at h
    rw [cmpI_le]; omega
  · rename_i h
    have h2 := h
    rw [cmpR_zero] at h2
    rw [cmpR_le]; omega

theorem cmpItem_total (x y : Item) : cmpItem x y ≤ 0 ∨ cmpItem y x ≤ 0 := by
  rw [cmpItem_le, cmpItem_le]; omega

theorem cmpItem_trans {x y z : Item} (hx : x.pos) (hy : y.pos) (hz : z.pos) (a : cmpItem x y ≤ 0) (b : cmpItem y z ≤ 0) : cmpItem x z ≤ 0 := by
  rw [cmpItem_le] at *
  have h1 : x.n * z.d ≤ z.n * x.d := cross_le (n₂ := y.n) hx hy hz (by omega) (by omega)
  by_cases e : x.n * z.d = z.n * x.d
  · refine .inr ⟨e, ?_⟩
    have h2 : y.n * x.d ≤ x.n * y.d := cross_le (n₂ := z.n) hy hz hx (by omega) (by omega)
    have h3 : z.n * y.d ≤ y.n * z.d := cross_le (n₂ := x.n) hz hx hy (by omega) (by omega)
    omega
  · exact .inl (by omega)

end Go.Ab
