/- The statement: ClockNil returns true, whatever comes in; the arguments read behind the call as they read before. Its code runs alike for all arguments: the runner's answer is worked out by the kernel. -/
import Derived.Test.YtlipmhhndhhgdaaGreatRa
import Derived.Test.YtlipmhhndhhgdaaGreatOb
import Derived.Test.YtlipmhhndhhgdaaGreatRows
import Derived.ChangeOld
import Derived.Carry
import Derived.Below
set_option linter.unusedSimpArgs false
set_option linter.unusedVariables false
namespace Go.Proofs.YtlipmhhndhhgdaaGreat.clockNil
open Go.ChangeShapes Go.WideShapes Go.ChangeAt Go.RowKit Go.Ab

theorem own : ownKnob Tryz.prog.godebug = none := by kernel_rfl
theorem laidOut : laidOutB Tryz.prog = true := by kernel_rfl

theorem cells0 {l : List Value} (h : oks [.int .i64, .int .i64, .int .i64] l) : ∃ x0_0 x0_1 x0_2, l = [.int .i64 x0_0, .int .i64 x0_1, .int .i64 x0_2] := by
  have hl := oks_length h
  obtain ⟨y0, y1, y2, rfl⟩ : ∃ y0 y1 y2, l = [y0, y1, y2] := by
    match l, hl with
    | [y0, y1, y2], _ => exact ⟨y0, y1, y2, rfl⟩
  obtain ⟨⟨z0, rfl, _⟩, ⟨z1, rfl, _⟩, ⟨z2, rfl, _⟩, _⟩ := h
  exact ⟨z0, z1, z2, rfl⟩

theorem flat33 : flatK Tryz.prog 9 33 = some [.int .i64, .int .i64, .int .i64] := by kernel_rfl

set_option maxRecDepth 100000 in
theorem runs_true (x0_0 : Int) (x0_1 : Int) (x0_2 : Int) (a1 : Int) : answers (whole 300 30 4 [.agg ⟨[.int .i64 x0_0, .int .i64 x0_1, .int .i64 x0_2]⟩, .int .i64 a1]) = some (.bool true) := by kernel_rfl

theorem walk (x0_0 : Int) (x0_1 : Int) (x0_2 : Int) (a1 : Int) (w : World) : Calls Tryz.prog 4 #[.agg #[.int .i64 x0_0, .int .i64 x0_1, .int .i64 x0_2], .int .i64 a1] w fun e w' => e = .returned (.bool true) ∧ Below w.heap.size w w' :=
  calls_true (whole_call (runs_true x0_0 x0_1 x0_2 a1) rfl rfl St.nil) (nil_state w).1 (.cons (.agg (.cons (.int _ _) (.cons (.int _ _) (.cons (.int _ _) .nil)))) (.cons (.int _ _) .nil)) (nil_state w).2 fun b hb _ => absurd hb (Nat.not_lt_zero b)

set_option maxRecDepth 100000 in
theorem lifted (os : Os) (started : os.Started) (H : Type) (enc : TypeId × Value → H) :
    ReturnsInHanded {} Tryz.checked os 4 .any (Rows.clockNilSpec.pre6 enc Tryz.prog Tryz.f4 Rows.clockNilRow.domain false) (Rows.clockNilSpec.post enc Tryz.prog Tryz.f4 false true false false) := by
  refine returnsInHanded_of_change (C := Tryz.checked) own started (by kernel_rfl) Tryz.func4
    (ChangeSpec.witness6 (enc := enc) (C := Tryz.checked) false ⟨#[], #[.agg #[.int .i64 0, .int .i64 0, .int .i64 0], .int .i64 0], []⟩ 8 (by kernel_rfl) (by kernel_rfl) (by kernel_rfl) (by kernel_rfl)) ?_
  intro W base args ds gs before hval0 hW hcnd _
  have hval : ∀ (j : Nat) t v, Tryz.f4.params[j]? = some t → args[j]? = some v → Value.okWide Tryz.prog W .any base t v := hval0
  have hW' := hW
  obtain ⟨p, q, hA0, hV, rfl, hfz, hnd⟩ := hW
  have hA : DataW.TrodAll enc Tryz.prog W 0 (fun _ => true) true Tryz.f4.params.toList args.toList ds p := hA0
  rw [Tryz.params4] at hA hval
  obtain ⟨v0, vs0, d0, ds0, p0, q0, hargs, rfl, rfl, h0, r0⟩ := trodAll_cons hA
  obtain ⟨v1, vs1, d1, ds1, p1, q1, rfl, rfl, rfl, h1, r1⟩ := trodAll_cons r0
  obtain ⟨rfl, rfl, rfl⟩ := trodAll_nil r1
  obtain rfl : args = #[v0, v1] := by cases args; simp_all
  obtain ⟨rfl, rfl⟩ := trodVars_none hV
  obtain ⟨cs0, rfl, _⟩ := okWide_struct Tryz.underlying33 (hval 0 33 v0 rfl rfl)
  have k0 := h0
  have lt0 : ∀ x ∈ p0, x.block < W.heap.size := by obtain ⟨m, hm⟩ := k0; exact DataW.trod_lt m _ _ _ hm
  obtain ⟨x0_0, x0_1, x0_2, hc0⟩ : ∃ x0_0 x0_1 x0_2, cs0 = #[.int .i64 x0_0, .int .i64 x0_1, .int .i64 x0_2] := by
    obtain ⟨fuel, hf⟩ := h0
    obtain ⟨x0_0, x0_1, x0_2, hx⟩ := cells0 (flatK_ok 9 fuel 33 _ _ _ flat33 hf)
    refine ⟨x0_0, x0_1, x0_2, ?_⟩
    cases cs0; simpa [Value.cells] using hx
  subst hc0
  obtain ⟨a1, rfl, rfl, rfl, w1⟩ := open_int Tryz.underlying2 (hval 1 2 v1 rfl rfl) h1
  clear hA0 hval0
  refine (walk x0_0 x0_1 x0_2 a1 W).mono fun e W' ⟨he, bel⟩ => ?_
  subst he
  exact ⟨_, rfl, _, _, _, [], _, [], hW', trodAll_mk1 (shut_bool Tryz.underlying4 _), (trodAll_cons_mk (Below.trod laidOut (by kernel_rfl) (of_decide_eq_true (by kernel_rfl)) k0 bel lt0) (trodAll_cons_mk (shut_int Tryz.underlying2 w1) trodAll_mk0)), rfl, bel.frame _, fun h => by cases h⟩

theorem over : Rows.clockNilRow.holds Tryz.pinned (OpenSpec.ofChange Rows.clockNilSpec) :=
  OpenClaim.holds_of_wide 4 Tryz.f4 rfl rfl rfl rfl rfl rfl rfl ⟨rfl, rfl, rfl, rfl, rfl⟩ rfl rfl rfl rfl rfl (by kernel_rfl) Tryz.func4 (by kernel_rfl)
    (of_decide_eq_true (by kernel_rfl)) (by unfold Func.isWrapper; first | (rw [if_pos (by decide +kernel)]; kernel_rfl) | (rw [if_neg (by decide +kernel)]; exact ⟨rfl, rfl⟩))
    (fun os started H enc _ => lifted os started H enc)

/-- The statement. -/
theorem proved : Rows.ClockNilSaid := over
#print axioms proved
end Go.Proofs.YtlipmhhndhhgdaaGreat.clockNil
