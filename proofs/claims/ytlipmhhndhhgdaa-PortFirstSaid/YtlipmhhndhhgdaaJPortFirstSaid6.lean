/- PortFirst answers true. The statement: PortFirst returns true, for every rate, all sizes, any ticks ahead; the argument reads behind the call as it read before. -/
import Derived.Test.YtlipmhhndhhgdaaJPortFirstSaid5
import Derived.Test.YtlipmhhndhhgdaaJPortFirstSaid2
import Derived.Test.YtlipmhhndhhgdaaRows
import Derived.ChangeOld
import Derived.Carry
import Derived.Below

set_option linter.unusedSimpArgs false
set_option linter.unusedVariables false
namespace Go.Ab
open Go.Proofs

theorem pfBody_is : pfBody = (nthC 0 pfBody).seq ((nthC 1 pfBody).seq ((nthC 2 pfBody).seq ((nthC 3 pfBody).seq ((nthC 4 pfBody).seq ((nthC 5 pfBody).seq pfMid))))) := by
  unfold pfMid
  rfl

set_option maxHeartbeats 3200000 in
set_option maxRecDepth 20000 in
theorem pf_good {rate : Int} {sa : Option Addr} {len cap a : Nat} {Z : Nat → Int} {vs : List Value} {σ : St} (hol : ∀ σ, opLen (cP Try.prog).T σ 73 (.slice sa len cap) = some (.val (.int .i64 (len : Int)) []))
    (hr : 1 ≤ rate ∧ rate ≤ 3000) (hlen : len ≤ 20) (ha : a ≤ 5) (hsa : 0 < len → sa = some ⟨0, 0, some 0⟩) (hg : 0 < len → σ.get 0 = some (.cells vs true)) (h0 : 0 < len → 0 < σ.next) (hZ : ∀ i, i < len → lget? vs i = some (.int .u8 (Z i)) ∧ 0 ≤ Z i ∧ Z i ≤ 255) :
    callX Try.prog 9 [.int .i64 rate, .slice sa len cap, .int .i64 (a : Nat)] σ (True9 σ) := by
  have c1 : ¬ (20 : Int) < (len : Int) := by omega
  have c2 : ¬ (a : Int) < 0 := by omega
  have c3 : ¬ (5 : Int) < (a : Int) := by omega
  refine enter (p := q8) (c := pfBody) Try.func9 rfl stat9 ?_
  rw [pfBody_is]
  simp only [go_sem, Nat.reducePow, Nat.reduceDiv, Nat.reduceMod, Nat.reduceAdd, Nat.reduceSub, Nat.reduceMul, Nat.reduceLeDiff, Nat.reduceLT, Nat.reduceEqDiff, reduceCtorEq, reduceIte, reduceDIte, if_pos rfl, Int.reduceLT, Int.reduceLE, Int.reduceEq, Int.reduceNeg, Int.reduceAdd, Int.reduceSub, Int.reduceMul, Int.reduceToNat, undef, pfBody, nthC, Try.f9, Option.getD, body31, body32, body33, body34]
  refine callX.hidE (pnew_call (by omega) (by omega) (by omega) (by omega)) ?_
  intro e σ1 lg1 hlg1 hA
  obtain ⟨B, rfl, hB1, P1, hf1⟩ := hA
  have nx1 := hlg1.1
  refine ⟨?_⟩
  simp only [go_sem, Nat.reducePow, Nat.reduceDiv, Nat.reduceMod, Nat.reduceAdd, Nat.reduceSub, Nat.reduceMul, Nat.reduceLeDiff, Nat.reduceLT, Nat.reduceEqDiff, reduceCtorEq, reduceIte, reduceDIte, if_pos rfl, Int.reduceLT, Int.reduceLE, Int.reduceEq, Int.reduceNeg, Int.reduceAdd, Int.reduceSub, Int.reduceMul, Int.reduceToNat, undef, body31, body32, body33, body34]
  refine .of (small_call _ _) ?_
  simp only [go_sem, Nat.reducePow, Nat.reduceDiv, Nat.reduceMod, Nat.reduceAdd, Nat.reduceSub, Nat.reduceMul, Nat.reduceLeDiff, Nat.reduceLT, Nat.reduceEqDiff, reduceCtorEq, reduceIte, reduceDIte, if_pos rfl, Int.reduceLT, Int.reduceLE, Int.reduceEq, Int.reduceNeg, Int.reduceAdd, Int.reduceSub, Int.reduceMul, Int.reduceToNat, undef, hr.1, hr.2, hol, c1, c2, c3, body31, body32, body33, body34]
  refine callX.hid (padd_call P1 1 1 1000000 (by omega) (by show 0 ≤ (0 : Int) ∧ (0 : Int) ≤ 2147483647; omega) rfl (by show 0 < 32; omega)) ?_
  intro σ2 lg2 hlg2 hA
  obtain ⟨hB2, blk, hblk, P2⟩ := hA
  have nx2 := hlg2.1
  have hz2 : ∀ z ∈ lg2, σ.next ≤ z := fun z hz => by
    rcases hB2 z hz with h | h
    · exact hf1 z h
    · omega
  have W2 : W9 σ2 B { P0 rate 2000 0 1000000 with Q := Q1 blk } σ.next rate := ⟨P2, fun c hc => by
    rcases hc with h | h | h | h | h
    · exact hf1 c (.inl h)
    · exact hf1 c (.inr (.inl h))
    · exact hf1 c (.inr (.inr (.inl h)))
    · exact hf1 c (.inr (.inr (.inr (.inl h))))
    · rcases h with h | ⟨k, z, hz, rfl⟩
      · exact hf1 c (.inr (.inr (.inr (.inr (.inl h)))))
      · by_cases hk : k = 1
        · subst hk
          have e : updF Q0.F 1 (some ⟨blk, 1, 1000000, 0, 0, 1⟩) 1 = some z := hz
          rw [updF_same] at e
          cases e
          show σ.next ≤ blk
          omega
        · have e : updF Q0.F 1 (some ⟨blk, 1, 1000000, 0, 0, 1⟩) k = some z := hz
          rw [updF_other _ _ hk] at e
          exact absurd e (by simp [Q0]), by omega, rfl, rfl, rfl⟩
  have g2 : ∀ c, c < σ.next → σ2.get c = σ.get c := fun c hc => (hlg2.2 c (by omega) fun hm => by have := hz2 c hm; omega).trans (hlg1.2 c hc fun hm => by have := hB1 c hm; omega)
  refine ⟨?_⟩
  simp only [go_sem, Nat.reducePow, Nat.reduceDiv, Nat.reduceMod, Nat.reduceAdd, Nat.reduceSub, Nat.reduceMul, Nat.reduceLeDiff, Nat.reduceLT, Nat.reduceEqDiff, reduceCtorEq, reduceIte, reduceDIte, if_pos rfl, Int.reduceLT, Int.reduceLE, Int.reduceEq, Int.reduceNeg, Int.reduceAdd, Int.reduceSub, Int.reduceMul, Int.reduceToNat, undef, hol, body31, body32, body33, body34]
  refine loop_then (pf_puts (sa := sa) (len := len) (cap := cap) (ahead := (a : Nat)) (Z := Z) (rate := rate) (lo := σ.next) (vs := vs) (g0 := σ2.get 0) hol hlen hsa (fun h => (g2 0 (h0 h)).trans (hg h)) h0 hZ len _ _ ⟨_, B, _, blk, 0, rfl, ⟨rfl, rfl, rfl, rfl⟩, rfl, by omega, W2, rfl, rfl, rfl, rfl, rfl⟩) ?_
  intro x fr' σ3 lg3 hlg3 hB3 h
  obtain ⟨rfl, ts, B', S', blk', rfl, F, W3, hon, hnow, hQ, hL, _⟩ := h
  have e1 := F.t1
  have e2 := F.t2
  have e7 := F.t7
  have el := F.size
  have hS : Sizes S'.on [] S'.V.L := ⟨fun x hx => (by rw [hon] at hx; cases hx), fun x hx => absurd hx (by simp), fun y hy => by
    rw [hL] at hy
    obtain ⟨j, hj, rfl⟩ := pksOf_mem hy
    have := (hZ j hj).2
    show 1 ≤ Z j + 1 ∧ Z j + 1 ≤ 2000
    omega⟩
  have hno : NoC S'.on S'.V.L := ⟨fun x hx => (by rw [hon] at hx; cases hx), fun y hy => by
    rw [hL] at hy
    obtain ⟨j, hj, rfl⟩ := pksOf_mem hy
    show ((j : Nat) : Int) ≠ 100
    omega⟩
  simp only [go_sem, Nat.reducePow, Nat.reduceDiv, Nat.reduceMod, Nat.reduceAdd, Nat.reduceSub, Nat.reduceMul, Nat.reduceLeDiff, Nat.reduceLT, Nat.reduceEqDiff, reduceCtorEq, reduceIte, reduceDIte, if_pos rfl, Int.reduceLT, Int.reduceLE, Int.reduceEq, Int.reduceNeg, Int.reduceAdd, Int.reduceSub, Int.reduceMul, Int.reduceToNat, undef, e1, e2, e7, el, body31, body32, body33, body34]
  refine loop_then (pf_ahead (sa := sa) (len := len) (cap := cap) (a := a) (rate := rate) (lo := σ.next) ha hr a _ _ ⟨_, B', S', blk', 0, rfl, ⟨by simp only [List.length_set, el], by simp only [go_sem, Nat.reducePow, Nat.reduceDiv, Nat.reduceMod, Nat.reduceAdd, Nat.reduceSub, Nat.reduceMul, Nat.reduceLeDiff, Nat.reduceLT, Nat.reduceEqDiff, reduceCtorEq, reduceIte, reduceDIte, if_pos rfl, Int.reduceLT, Int.reduceLE, Int.reduceEq, Int.reduceNeg, Int.reduceAdd, Int.reduceSub, Int.reduceMul, Int.reduceToNat, el, e1], by simp only [go_sem, Nat.reducePow, Nat.reduceDiv, Nat.reduceMod, Nat.reduceAdd, Nat.reduceSub, Nat.reduceMul, Nat.reduceLeDiff, Nat.reduceLT, Nat.reduceEqDiff, reduceCtorEq, reduceIte, reduceDIte, if_pos rfl, Int.reduceLT, Int.reduceLE, Int.reduceEq, Int.reduceNeg, Int.reduceAdd, Int.reduceSub, Int.reduceMul, Int.reduceToNat, el, e2], by simp only [go_sem, Nat.reducePow, Nat.reduceDiv, Nat.reduceMod, Nat.reduceAdd, Nat.reduceSub, Nat.reduceMul, Nat.reduceLeDiff, Nat.reduceLT, Nat.reduceEqDiff, reduceCtorEq, reduceIte, reduceDIte, if_pos rfl, Int.reduceLT, Int.reduceLE, Int.reduceEq, Int.reduceNeg, Int.reduceAdd, Int.reduceSub, Int.reduceMul, Int.reduceToNat, el, e7]⟩, by simp only [go_sem, Nat.reducePow, Nat.reduceDiv, Nat.reduceMod, Nat.reduceAdd, Nat.reduceSub, Nat.reduceMul, Nat.reduceLeDiff, Nat.reduceLT, Nat.reduceEqDiff, reduceCtorEq, reduceIte, reduceDIte, if_pos rfl, Int.reduceLT, Int.reduceLE, Int.reduceEq, Int.reduceNeg, Int.reduceAdd, Int.reduceSub, Int.reduceMul, Int.reduceToNat, el], by omega, W3, hnow, hQ, hS, hno⟩) ?_
  intro x fr' σ4 lg4 hlg4 hB4 h
  obtain ⟨rfl, ts', B4, S4, blk4, rfl, F4, W4, hnow4, hQ4, hS4, hno4⟩ := h
  simp only [go_sem, Nat.reducePow, Nat.reduceDiv, Nat.reduceMod, Nat.reduceAdd, Nat.reduceSub, Nat.reduceMul, Nat.reduceLeDiff, Nat.reduceLT, Nat.reduceEqDiff, reduceCtorEq, reduceIte, reduceDIte, if_pos rfl, Int.reduceLT, Int.reduceLE, Int.reduceEq, Int.reduceNeg, Int.reduceAdd, Int.reduceSub, Int.reduceMul, Int.reduceToNat, undef, body31, body32, body33, body34]
  refine pf_mid hr ha F4 W4 hnow4 hQ4 hS4 hno4 ?_
  intro ts5 σ5 lg5 h1 h2 h3
  simp only [go_sem, Nat.reducePow, Nat.reduceDiv, Nat.reduceMod, Nat.reduceAdd, Nat.reduceSub, Nat.reduceMul, Nat.reduceLeDiff, Nat.reduceLT, Nat.reduceEqDiff, reduceCtorEq, reduceIte, reduceDIte, if_pos rfl, Int.reduceLT, Int.reduceLE, Int.reduceEq, Int.reduceNeg, Int.reduceAdd, Int.reduceSub, Int.reduceMul, Int.reduceToNat, undef, h1, h2, body31, body32, body33, body34]
  refine ⟨rfl, fun c hc => ?_⟩
  simp only [List.mem_append] at hc
  rcases hc with hc | hc | hc | hc | hc
  · exact hB1 c hc
  · exact hz2 c hc
  · exact hB3 c hc
  · exact hB4 c hc
  · exact h3 c hc

/-- PortFirst, whatever comes in. -/
theorem pf_call {rate ahead : Int} {sa : Option Addr} {len cap : Nat} {Z : Nat → Int} {vs : List Value} {σ : St} (hol : ∀ σ, opLen (cP Try.prog).T σ 73 (.slice sa len cap) = some (.val (.int .i64 (len : Int)) []))
    (hin : 0 < len → sa = some ⟨0, 0, some 0⟩ ∧ σ.get 0 = some (.cells vs true) ∧ 0 < σ.next) (hZ : ∀ i, i < len → lget? vs i = some (.int .u8 (Z i)) ∧ 0 ≤ Z i ∧ Z i ≤ 255) :
    callX Try.prog 9 [.int .i64 rate, .slice sa len cap, .int .i64 ahead] σ (True9 σ) := by
  by_cases h : 1 ≤ rate ∧ rate ≤ 3000
  · by_cases h1 : len ≤ 20 ∧ 0 ≤ ahead ∧ ahead ≤ 5
    · obtain ⟨a, rfl⟩ : ∃ a : Nat, ahead = a := ⟨ahead.toNat, by omega⟩
      exact pf_good hol h h1.1 (by omega) (fun h => (hin h).1) (fun h => (hin h).2.1) (fun h => (hin h).2.2) hZ
    · exact pf_many hol h h1
  · exact pf_big h

end Go.Ab

set_option linter.unusedSimpArgs false
set_option linter.unusedVariables false
namespace Go.Proofs.Ytlipmhhndhhgdaa.portFirst
open Go.ChangeShapes Go.WideShapes Go.ChangeAt Go.RowKit Go.Ab

theorem own : ownKnob Try.prog.godebug = none := by kernel_rfl
theorem laidOut : laidOutB Try.prog = true := by kernel_rfl

theorem flat_byte : flatK Try.prog 5 5 = some [.int .u8] := by kernel_rfl

theorem byte_of_wf {n : Int} (h : (Lit.int .u8 n).wf = true) : 0 ≤ n ∧ n ≤ 255 := by
  have h1 : IntKind.u8.min = 0 := rfl
  have h2 : IntKind.u8.max = 255 := rfl
  simp only [Lit.wf, Bool.and_eq_true, decide_eq_true_eq, h1, h2] at h
  omega

theorem byte_cells {c : List Value} (h : oks [.int .u8] c) : ∃ z, c = [.int .u8 z] ∧ 0 ≤ z ∧ z ≤ 255 := by
  have hl := oks_length h
  obtain ⟨a, rfl⟩ : ∃ a, c = [a] := by
    match c, hl with
    | [a], _ => exact ⟨a, rfl⟩
  obtain ⟨⟨k, rfl, hk⟩, _⟩ := h
  exact ⟨k, rfl, byte_of_wf hk⟩

theorem walk (a0 a2 : Int) (a : Option Addr) (len cap : Nat) (es : List (List Value)) (w : World) (h : IsRow [.int .u8] w a len cap es) :
    Calls Try.prog 9 #[.int .i64 a0, .slice a len cap, .int .i64 a2] w fun e w' => e = .returned (.bool true) ∧ Below w.heap.size w w' := by
  obtain ⟨Z, hes⟩ : ∃ Z : Nat → Int, ∀ i, i < es.length → lget? es.flatten i = some (.int .u8 (Z i)) ∧ 0 ≤ Z i ∧ Z i ≤ 255 := by
    have hok : ∀ c ∈ es, oks [.int .u8] c := by
      rcases h with ⟨_, _, _, rfl⟩ | ⟨x, _, _, _, _, h, _⟩
      · intro c hc; simp at hc
      · exact h
    have key : ∀ i, ∃ x : Int, i < es.length → lget? es.flatten i = some (.int .u8 x) ∧ 0 ≤ x ∧ x ≤ 255 := fun i => by
      by_cases hi : i < es.length
      · obtain ⟨z, hc, h1⟩ := byte_cells (hok es[i] (List.getElem_mem hi))
        obtain ⟨h3, h4⟩ := flatten_take (k := 1) (fun c hc => oks_length (hok c hc)) (List.getElem?_eq_getElem hi)
        rw [hc] at h3
        have e0 := congrArg (fun l : List Value => l[0]?) h3
        simp only [List.getElem?_take, List.getElem?_drop, Nat.add_zero, Nat.zero_lt_succ, if_true, List.getElem?_cons_zero, Nat.mul_one] at e0
        exact ⟨z, fun _ => ⟨by rw [lget?_eq]; exact e0, h1⟩⟩
      · exact ⟨0, fun h => absurd h hi⟩
    exact ⟨fun i => Classical.choose (key i), fun i hi => Classical.choose_spec (key i) hi⟩
  obtain ⟨ρ, σ, v, hw, hro, hv, hs⟩ := row_in h (by simp)
  rcases hs with ⟨rfl, rfl, hv2⟩ | ⟨hl, rfl, rfl⟩
  · have key : ∀ sa : Option Addr, v = .slice sa 0 0 → (∀ σ, opLen (cP Try.prog).T σ 73 (.slice sa 0 0) = some (.val (.int .i64 ((0 : Nat) : Int)) [])) → Calls Try.prog 9 #[.int .i64 a0, .slice a 0 cap, .int .i64 a2] w fun e w' => e = .returned (.bool true) ∧ Below w.heap.size w w' := fun sa e hol => by
      subst e
      obtain ⟨e', σ', lg, d, rfl, f⟩ := pf_call (rate := a0) (ahead := a2) (sa := sa) (len := 0) (cap := 0) (vs := []) (Z := Z) (σ := St.nil) hol (fun h => absurd h (by omega)) (fun i hi => absurd hi (by omega))
      exact calls_true d hw (.cons (.int _ _) (.cons hv (.cons (.int _ _) .nil))) hro fun b hb hbl => by have := f b hbl; omega
    rcases hv2 with hv2 | hv2
    · exact key none hv2 fun σ => by simp only [opLen, cx_und, Try.underlying73]; rfl
    · exact key _ hv2 fun σ => by simp only [opLen, cx_und, Try.underlying73]
  · obtain ⟨e', σ', lg, d, rfl, f⟩ := pf_call (rate := a0) (ahead := a2) (sa := some ⟨0, 0, some 0⟩) (len := len) (cap := cap) (vs := es.flatten) (Z := Z) (σ := St.nil.new (.cells es.flatten true)) (fun σ => by simp only [opLen, cx_und, Try.underlying73])
      (fun _ => ⟨rfl, by rw [St.get_new]; rfl, Nat.zero_lt_one⟩) (fun i hi => hes i (by omega))
    exact calls_true d hw (.cons (.int _ _) (.cons hv (.cons (.int _ _) .nil))) hro fun b hb hbl => by have := f b hbl; omega

set_option maxRecDepth 100000 in
theorem lifted (os : Os) (started : os.Started) (H : Type) (enc : TypeId × Value → H) :
    ReturnsInHanded {} Try.checked os 9 .any (Rows.portFirstSpec.pre6 enc Try.prog Try.f9 Rows.portFirstRow.domain false) (Rows.portFirstSpec.post enc Try.prog Try.f9 false true false false) := by
  refine returnsInHanded_of_change (C := Try.checked) own started (by kernel_rfl) Try.func9
    (ChangeSpec.witness6 (enc := enc) (C := Try.checked) false ⟨#[], #[.int .i64 0, .slice none 0 0, .int .i64 0], []⟩ 8 (by kernel_rfl) (by kernel_rfl) (by kernel_rfl) (by kernel_rfl)) ?_
  intro W base args ds gs before hval0 hW hcnd _
  have hval : ∀ (j : Nat) t v, Try.f9.params[j]? = some t → args[j]? = some v → Value.okWide Try.prog W .any base t v := hval0
  have hW' := hW
  obtain ⟨p, q, hA0, hV, rfl, hfz, hnd⟩ := hW
  have hA : DataW.TrodAll enc Try.prog W 0 (fun _ => true) true Try.f9.params.toList args.toList ds p := hA0
  rw [Try.params9] at hA hval
  obtain ⟨v0, vs0, d0, ds0, p0, q0, hargs, rfl, rfl, h0, r0⟩ := trodAll_cons hA
  obtain ⟨v1, vs1, d1, ds1, p1, q1, rfl, rfl, rfl, h1, r1⟩ := trodAll_cons r0
  obtain ⟨v2, vs2, d2, ds2, p2, q2, rfl, rfl, rfl, h2, r2⟩ := trodAll_cons r1
  obtain ⟨rfl, rfl, rfl⟩ := trodAll_nil r2
  obtain rfl : args = #[v0, v1, v2] := by cases args; simp_all
  obtain ⟨rfl, rfl⟩ := trodVars_none hV
  obtain ⟨a0, rfl, rfl, rfl, w0⟩ := open_int Try.underlying2 (hval 0 2 v0 rfl rfl) h0
  obtain ⟨a2, rfl, rfl, rfl, w2⟩ := open_int Try.underlying3 (hval 2 3 v2 rfl rfl) h2
  obtain ⟨a1, len1, cap1, rfl⟩ := okWide_slice Try.underlying73 (hval 1 73 v1 rfl rfl)
  have k1 := h1
  have lt1 : ∀ x ∈ p1, x.block < W.heap.size := by obtain ⟨m, hm⟩ := k1; exact DataW.trod_lt m _ _ _ hm
  obtain ⟨es, w1⟩ : ∃ es, IsRow [.int .u8] W a1 len1 cap1 es := by
    obtain ⟨fuel, hf⟩ := h1
    rcases open_flats Try.underlying73 flat_byte (by kernel_rfl) hf with hcs | ⟨x, l, c, es, hcs, _, hl, hm, hz, hok, hcell⟩
    · simp [Value.cells] at hcs
      obtain ⟨rfl, rfl, rfl⟩ := hcs
      exact ⟨[], .inl ⟨rfl, rfl, rfl, rfl⟩⟩
    · simp [Value.cells] at hcs
      obtain ⟨rfl, rfl, rfl⟩ := hcs
      exact ⟨es, .inr ⟨_, rfl, hl, hm, hz, hok, hcell⟩⟩
  clear hA0 hval0
  refine (walk a0 a2 a1 len1 cap1 es W w1).mono fun e W' ⟨he, bel⟩ => ?_
  subst he
  exact ⟨_, rfl, _, _, _, [], _, [], hW', trodAll_mk1 (shut_bool Try.underlying4 _), (trodAll_cons_mk (shut_int Try.underlying2 w0) (trodAll_cons_mk (Below.trod laidOut (by kernel_rfl) (of_decide_eq_true (by kernel_rfl)) k1 bel lt1) (trodAll_cons_mk (shut_int Try.underlying3 w2) trodAll_mk0))), rfl, bel.frame _, fun h => by cases h⟩

theorem over : Rows.portFirstRow.holds Try.pinned (OpenSpec.ofChange Rows.portFirstSpec) :=
  OpenClaim.holds_of_wide 9 Try.f9 rfl rfl rfl rfl rfl rfl rfl ⟨rfl, rfl, rfl, rfl, rfl⟩ rfl rfl rfl rfl rfl (by kernel_rfl) Try.func9 (by kernel_rfl)
    (of_decide_eq_true (by kernel_rfl)) (by unfold Func.isWrapper; first | (rw [if_pos (by decide +kernel)]; kernel_rfl) | (rw [if_neg (by decide +kernel)]; exact ⟨rfl, rfl⟩))
    (fun os started H enc _ => lifted os started H enc)

/-- The statement. -/
theorem proved : Rows.PortFirstSaid := over
#print axioms proved
end Go.Proofs.Ytlipmhhndhhgdaa.portFirst
