/- Plain cells that came in, by their kinds. -/
import Derived.Test.YtlipmhhndhhgdaaOb
import Derived.Test.YtlipmhhndhhgdaaTe
import Derived.DataShut
set_option linter.unusedSimpArgs false
set_option linter.unusedVariables false
namespace Go.Ab

theorem okI_of_wf {n : Int} (h : (Lit.int .i64 n).wf = true) : okI n = true := by
  have h1 := IntKind.min_i64
  have h2 : IntKind.i64.max = 9223372036854775807 := rfl
  simp only [Lit.wf, Bool.and_eq_true, decide_eq_true_eq, h1, h2] at h
  simp only [okI, Bool.and_eq_true, decide_eq_true_eq]
  omega

/-- The cells of one fraction. -/
theorem rat_cells {c : List Value} (h : oks [.int .i64, .int .i64] c) : ∃ kn kd, c = [.int .i64 kn, .int .i64 kd] ∧ okI kn = true ∧ okI kd = true := by
  have hl := oks_length h
  obtain ⟨a, b, rfl⟩ : ∃ a b, c = [a, b] := by
    match c, hl with
    | [a, b], _ => exact ⟨a, b, rfl⟩
  obtain ⟨⟨n, rfl, hn⟩, ⟨d, rfl, hd⟩, _⟩ := h
  exact ⟨n, d, rfl, okI_of_wf hn, okI_of_wf hd⟩

end Go.Ab
