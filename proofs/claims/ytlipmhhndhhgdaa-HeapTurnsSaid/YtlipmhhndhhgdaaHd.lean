/- The statement: HeapTurns returns true, for every slice of keys and every last key; the arguments read behind the call as they read before. -/
import Derived.Test.YtlipmhhndhhgdaaHc
import Derived.Test.YtlipmhhndhhgdaaRows
import Derived.ChangeOld
import Derived.Carry
import Derived.Below
set_option linter.unusedSimpArgs false
set_option linter.unusedVariables false
namespace Go.Proofs.Ytlipmhhndhhgdaa
open Go.ChangeShapes Go.WideShapes Go.ChangeAt Go.RowKit Go.Ab

theorem own : ownKnob Try.prog.godebug = none := by kernel_rfl
theorem laidOut : laidOutB Try.prog = true := by kernel_rfl

theorem flat_rat : flatK Try.prog 5 24 = some [.int .i64, .int .i64] := by kernel_rfl

theorem walk (a : Option Addr) (len cap : Nat) (es : List (List Value)) (kn kd : Int) (w : World) (h : IsRow [.int .i64, .int .i64] w a len cap es) (hm : len ≤ 9223372036854775807) (hkn : okI kn = true) (hkd : okI kd = true) :
    Calls Try.prog 3 #[.slice a len cap, .agg #[.int .i64 kn, .int .i64 kd]] w fun e w' => e = .returned (.bool true) ∧ Below w.heap.size w w' := by
  have hes : ∀ i c, es[i]? = some c → ∃ kn kd, okI kn = true ∧ okI kd = true ∧ (es.flatten.drop (i * 2)).take 2 = [.int .i64 kn, .int .i64 kd] ∧ i * 2 + 2 ≤ es.flatten.length := by
    intro i c hi
    have hok : ∀ c ∈ es, oks [.int .i64, .int .i64] c := by
      rcases h with ⟨_, _, _, rfl⟩ | ⟨x, _, _, _, _, h, _⟩
      · intro c hc; simp at hc
      · exact h
    obtain ⟨kn, kd, rfl, h1, h2⟩ := rat_cells (hok c (List.mem_of_getElem? hi))
    obtain ⟨h3, h4⟩ := flatten_take (k := 2) (fun c hc => oks_length (hok c hc)) hi
    exact ⟨kn, kd, h1, h2, h3, h4⟩
  obtain ⟨ρ, σ, v, hw, hro, hv, hs⟩ := row_in h (by simp)
  rcases hs with ⟨rfl, rfl, hv2⟩ | ⟨hl, rfl, rfl⟩
  · have key : ∀ sa : Option Addr, v = .slice sa 0 0 → (∀ σ, opLen (cP Try.prog).T σ 22 (.slice sa 0 0) = some (.val (.int .i64 ((0 : Nat) : Int)) [])) → Calls Try.prog 3 #[.slice a 0 cap, .agg #[.int .i64 kn, .int .i64 kd]] w fun e w' => e = .returned (.bool true) ∧ Below w.heap.size w w' := fun sa e hol => by
      subst e
      obtain ⟨σ', lg, d, f⟩ := turns_call (sa := sa) (len := 0) (cap := 0) (vs := []) (σ := St.nil) hm hkn hkd hol ⟨fun h => absurd h (by omega), fun i hi => absurd hi (by omega)⟩ (fun h => absurd h (by omega))
      exact calls_true d hw (.cons hv (.cons (.agg (.cons (.int _ _) (.cons (.int _ _) .nil))) .nil)) hro fun b hb hbl => by have := f b hbl; omega
    rcases hv2 with hv2 | hv2
    · exact key none hv2 fun σ => by simp only [opLen, cx_und, Try.underlying22]; rfl
    · exact key _ hv2 fun σ => by simp only [opLen, cx_und, Try.underlying22]
  · obtain ⟨σ', lg, d, f⟩ := turns_call (sa := some ⟨0, 0, some 0⟩) (len := len) (cap := cap) (vs := es.flatten) (σ := St.nil.new (.cells es.flatten true)) hm hkn hkd (fun σ => by simp only [opLen, cx_und, Try.underlying22])
      ⟨fun _ => ⟨rfl, by rw [St.get_new]; rfl⟩, fun i hi => hes i es[i] (List.getElem?_eq_getElem (by omega))⟩ (fun _ => Nat.zero_lt_one)
    exact calls_true d hw (.cons hv (.cons (.agg (.cons (.int _ _) (.cons (.int _ _) .nil))) .nil)) hro fun b hb hbl => by have := f b hbl; omega

set_option maxRecDepth 100000 in
theorem lifted (os : Os) (started : os.Started) (H : Type) (enc : TypeId × Value → H) :
    ReturnsInHanded {} Try.checked os 3 .any (Rows.heapTurnsSpec.pre6 enc Try.prog Try.f3 Rows.heapTurnsRow.domain false) (Rows.heapTurnsSpec.post enc Try.prog Try.f3 false true false false) := by
  refine returnsInHanded_of_change (C := Try.checked) own started (by kernel_rfl) Try.func3
    (ChangeSpec.witness6 (enc := enc) (C := Try.checked) false ⟨#[], #[.slice none 0 0, .agg #[.int .i64 0, .int .i64 0]], []⟩ 8 (by kernel_rfl) (by kernel_rfl) (by kernel_rfl) (by kernel_rfl)) ?_
  intro W base args ds gs before hval0 hW hcnd _
  have hval : ∀ (j : Nat) t v, Try.f3.params[j]? = some t → args[j]? = some v → Value.okWide Try.prog W .any base t v := hval0
  have hW' := hW
  obtain ⟨p, q, hA0, hV, rfl, hfz, hnd⟩ := hW
  have hA : DataW.TrodAll enc Try.prog W 0 (fun _ => true) true Try.f3.params.toList args.toList ds p := hA0
  rw [Try.params3] at hA hval
  obtain ⟨v0, vs0, d0, ds0, p0, q0, hargs, rfl, rfl, h0, r0⟩ := trodAll_cons hA
  obtain ⟨v1, vs1, d1, ds1, p1, q1, rfl, rfl, rfl, h1, r1⟩ := trodAll_cons r0
  obtain ⟨rfl, rfl, rfl⟩ := trodAll_nil r1
  obtain rfl : args = #[v0, v1] := by cases args; simp_all
  obtain ⟨rfl, rfl⟩ := trodVars_none hV
  obtain ⟨a0, len0, cap0, rfl⟩ := okWide_slice Try.underlying22 (hval 0 22 v0 rfl rfl)
  obtain ⟨cs, rfl, _⟩ := okWide_struct Try.underlying24 (hval 1 24 v1 rfl rfl)
  have k0 := h0
  have k1 := h1
  have lt0 : ∀ x ∈ p0, x.block < W.heap.size := by obtain ⟨m, hm⟩ := k0; exact DataW.trod_lt m _ _ _ hm
  have lt1 : ∀ x ∈ p1, x.block < W.heap.size := by obtain ⟨m, hm⟩ := k1; exact DataW.trod_lt m _ _ _ hm
  obtain ⟨es, w0, hm⟩ : ∃ es, IsRow [.int .i64, .int .i64] W a0 len0 cap0 es ∧ len0 ≤ 9223372036854775807 := by
    obtain ⟨fuel, hf⟩ := h0
    rcases open_flats Try.underlying22 flat_rat (by kernel_rfl) hf with hcs | ⟨x, l, c, es, hcs, _, hl, hm, hz, hok, hcell⟩
    · simp [Value.cells] at hcs
      obtain ⟨rfl, rfl, rfl⟩ := hcs
      exact ⟨[], .inl ⟨rfl, rfl, rfl, rfl⟩, by omega⟩
    · simp [Value.cells] at hcs
      obtain ⟨rfl, rfl, rfl⟩ := hcs
      exact ⟨es, .inr ⟨_, rfl, hl, hm, hz, hok, hcell⟩, by have := maxLen_is; omega⟩
  obtain ⟨kn, kd, hc, hkn, hkd⟩ : ∃ kn kd, cs = #[.int .i64 kn, .int .i64 kd] ∧ okI kn = true ∧ okI kd = true := by
    obtain ⟨fuel, hf⟩ := h1
    obtain ⟨kn, kd, h, h2⟩ := rat_cells (flatK_ok 5 fuel 24 _ _ _ flat_rat hf)
    refine ⟨kn, kd, ?_, h2⟩
    cases cs; simpa [Value.cells] using h
  subst hc
  clear hA0 hval0
  refine (walk a0 len0 cap0 es kn kd W w0 hm hkn hkd).mono fun e W' ⟨he, bel⟩ => ?_
  subst he
  exact ⟨_, rfl, _, _, _, [], _, [], hW', trodAll_mk1 (shut_bool Try.underlying4 _), (trodAll_cons_mk (Below.trod laidOut (by kernel_rfl) (of_decide_eq_true (by kernel_rfl)) k0 bel lt0) (trodAll_cons_mk (Below.trod laidOut (by kernel_rfl) (of_decide_eq_true (by kernel_rfl)) k1 bel lt1) trodAll_mk0)), rfl, bel.frame _, fun h => by cases h⟩

theorem over : Rows.heapTurnsRow.holds Try.pinned (OpenSpec.ofChange Rows.heapTurnsSpec) :=
  OpenClaim.holds_of_wide 3 Try.f3 rfl rfl rfl rfl rfl rfl rfl ⟨rfl, rfl, rfl, rfl, rfl⟩ rfl rfl rfl rfl rfl (by kernel_rfl) Try.func3 (by kernel_rfl)
    (of_decide_eq_true (by kernel_rfl)) (by unfold Func.isWrapper; first | (rw [if_pos (by decide +kernel)]; kernel_rfl) | (rw [if_neg (by decide +kernel)]; exact ⟨rfl, rfl⟩))
    (fun os started H enc _ => lifted os started H enc)

/-- The statement. -/
theorem heapTurns_proved : Rows.HeapTurnsSaid := over
#print axioms heapTurns_proved
end Go.Proofs.Ytlipmhhndhhgdaa
