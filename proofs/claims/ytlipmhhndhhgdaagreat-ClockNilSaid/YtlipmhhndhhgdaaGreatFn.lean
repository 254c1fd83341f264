/- Regions whose order is drawn: the law. -/
import Derived.Test.YtlipmhhndhhgdaaGreatFm
set_option linter.unusedSimpArgs false
set_option linter.unusedVariables false
namespace Go.Ab

variable {P : Program} {X : Tab} {F : Fence} {ops : Array Oper} {Q : Exit → Act → World → Prop}
  {ρ₀ : Ren} {w₀ : World} {ds : List Deferred} {S : Nat → Prop} {g : Nat → Option AObj} {ρ : Ren} {w : World} {a : Act} {i : Nat}

theorem Inv.of_eq {S' : Nat → Prop} (h : Inv X ρ₀ w₀ ds S g ρ w a) (e : S = S') : Inv X ρ₀ w₀ ds S' g ρ w a := e ▸ h

theorem listed_set {listed : Array Bool} (hi : i < listed.size) : (fun k => listed.getD k false = true ∨ k = i) = fun k => (listed.setIfInBounds i true).getD k false = true := by
  funext k
  apply propext
  rw [Array.getD_eq_getD_getElem?, Array.getD_eq_getD_getElem?, Array.getElem?_setIfInBounds]
  by_cases e : i = k
  · subst e; simp [hi]
  · rw [if_neg e]
    constructor
    · rintro (h | h)
      · exact h
      · exact absurd h.symm e
    · exact .inl

def left (n : Nat) (listed : Array Bool) : Nat := (List.range n).countP fun i => !listed.getD i false

theorem left_set {n : Nat} {listed : Array Bool} (hn : i < n) (hs : listed.size = n) (hl : listed.getD i false = false) : left n (listed.setIfInBounds i true) < left n listed := by
  unfold left
  have hi : i < listed.size := by omega
  have key : ∀ (l : List Nat), i ∈ l → (l.countP fun k => !(listed.setIfInBounds i true).getD k false) < l.countP fun k => !listed.getD k false := by
    have le : ∀ (l : List Nat), (l.countP fun k => !(listed.setIfInBounds i true).getD k false) ≤ l.countP fun k => !listed.getD k false := fun l =>
      List.countP_mono_left fun k _ h => by
        have := congrFun (listed_set (i := i) hi) k
        cases hk : listed.getD k false with
        | false => rfl
        | true =>
          have h2 : (listed.setIfInBounds i true).getD k false = true := by rw [← this]; exact .inl hk
          rw [h2] at h; cases h
    intro l
    induction l with
    | nil => intro h; cases h
    | cons x l ih =>
      intro h
      rw [List.countP_cons, List.countP_cons]
      by_cases e : x = i
      · subst e
        have h1 : (listed.setIfInBounds x true).getD x false = true := by
          have := congrFun (listed_set (i := x) hi) x
          rw [← this]; exact .inr rfl
        rw [h1, hl]
        have := le l
        simp only [Bool.not_true, Bool.not_false, if_true, Bool.false_eq_true, if_false]
        omega
      · have := ih (by simpa [Ne.symm e] using h)
        have h1 : (listed.setIfInBounds i true).getD x false = listed.getD x false := by
          rw [Array.getD_eq_getD_getElem?, Array.getD_eq_getD_getElem?, Array.getElem?_setIfInBounds, if_neg (Ne.symm e)]
        rw [h1]; omega
  exact key _ (List.mem_range.2 hn)

theorem left_zero {n : Nat} {listed : Array Bool} (h : left n listed = 0) : ∀ i, i < n → listed.getD i false = true := fun i hi => by
  have := List.countP_eq_zero.1 h i (List.mem_range.2 hi)
  simpa using this

theorem any_of_inv (hX : X.Ok F P ops Q) (hend : ∀ (S : Nat → Prop) g ρ w a, (∀ i, i < X.n → S i) → Inv X ρ₀ w₀ ds S g ρ w a → Q .normal a w) :
    ∀ (fuel : Nat) (listed : Array Bool) (g : Nat → Option AObj) (ρ : Ren) (w : World) (a : Act), listed.size = X.n → left X.n listed ≤ fuel →
      (∀ j k, k < X.n → listed.getD k false = true → X.bf j k = true → listed.getD j false = true) →
      Inv X ρ₀ w₀ ds (fun k => listed.getD k false = true) g ρ w a → wpAnyIn F 0 P .any ops Q fuel listed a w := by
  intro fuel
  induction fuel with
  | zero =>
    intro listed g ρ w a hs hl hc h
    have hall := left_zero (by omega : left X.n listed = 0)
    refine ⟨?_, hend _ g ρ w a hall h⟩
    unfold Region.ready
    rw [List.filter_eq_nil_iff]
    intro i hi
    rw [List.mem_range] at hi
    have h2 := hall i (by rw [← hX.size]; exact hi)
    have hil : i < listed.size := by rw [hs, ← hX.size]; exact hi
    rw [Array.getD_eq_getD_getElem?, Array.getElem?_eq_getElem hil] at h2
    simp only [Option.getD_some] at h2
    simp [Array.getD_eq_getD_getElem?, Array.getElem?_eq_getElem hil, h2]
  | succ fuel ih =>
    intro listed g ρ w a hs hl hc h
    refine ⟨fun hr => hend _ g ρ w a (hX.done listed hs hr) h, fun i hi => ?_⟩
    have hpre := hX.ready listed i hc hi
    have hi' := hi
    unfold Region.ready at hi'
    rw [List.mem_filter, List.mem_range] at hi'
    obtain ⟨hlt, hi2⟩ := hi'
    have hin : i < X.n := by rw [← hX.size]; exact hlt
    have hil : i < listed.size := by omega
    have hnot : listed.getD i false = false := by
      rw [Bool.and_eq_true] at hi2
      have := hi2.1
      rw [Array.getD_eq_getD_getElem?, Array.getElem?_eq_getElem hil] at this ⊢
      simpa using this
    have turn : Turn X (fun k => listed.getD k false = true) i := ⟨hin, by simp only [hnot]; simp, hpre, hc⟩
    have next : ∀ g' ρ' w' a', Inv X ρ₀ w₀ ds (fun k => listed.getD k false = true ∨ k = i) g' ρ' w' a' → wpAnyIn F 0 P .any ops Q fuel (listed.setIfInBounds i true) a' w' := fun g' ρ' w' a' h' => by
      refine ih _ g' ρ' w' a' (by simp [hs]) ?_ ?_ (h'.of_eq (listed_set hil))
      · have := left_set hin hs hnot; omega
      · intro j k hk hlk hb
        have e := listed_set (i := i) hil
        have hk' := (congrFun e k).symm ▸ hlk
        rw [← congrFun e j]
        rcases hk' with h1 | h1
        · exact .inl (hc j k hk h1 hb)
        · subst h1; exact .inl (hpre j hb)
    have hsem := hX.sem i hin
    have hlen : a.tmps.size = (X.ts i).length := by rw [hX.ts_len (Nat.le_of_lt hin)]; exact h.len
    have hsl := h.slot_at hX turn
    have := hsem (ρ.below (X.σ i).next) w a (wpAnyIn F 0 P .any ops Q fuel (listed.setIfInBounds i true)) hlen hsl
    cases hk : X.kd i with
    | pure rd =>
      rw [hk] at this
      simp only at this
      refine this ?_ fun v' hv => next _ _ _ _ (h.step_pure hX turn hk hv)
      have hrd := h.reads hX turn
      rw [hk] at hrd
      exact hrd
    | alloc ob rd =>
      rw [hk] at this
      simp only at this
      refine this ?_ fun v' w' obj sz h1 h2 h3 h4 h5 => next _ _ _ _ (h.step_alloc hX turn hk h1 h2 h3 h4 h5)
      have hrd := h.reads hX turn
      rw [hk] at hrd
      exact hrd
    | full lg =>
      rw [hk] at this
      simp only at this
      have hf : (X.kd i).isFull = true := by rw [hk]; rfl
      exact this (h.wr hX turn hf) fun ρ' v' w' hv hA => next _ _ _ _ (h.step_full hX turn hf hv hA)

theorem inv_start (hX : X.Ok F P ops Q) (hw : WR ρ₀ (X.σ 0) w₀.heap) (ht : VRL ρ₀ (X.ts 0) a.tmps.toList) (hd : DRL ρ₀ ds a.defers) (hS : ∀ k, k < X.n → ¬ S k) : Inv X ρ₀ w₀ ds S (X.σ 0).get ρ₀ w₀ a := by
  have below : (ρ₀.below (X.σ 0).next) = ρ₀ := funext fun b => by
    unfold Ren.below
    split
    · rfl
    · cases hb : ρ₀ b with
      | none => rfl
      | some l => exact absurd (hw.dom b l hb).1 (by assumption)
  have low : ∀ {c m : Nat}, X.at S (X.tch c) m → c < (X.σ m).next → c < (X.σ 0).next := fun {c m} hat hc => by
    induction m with
    | zero => exact hc
    | succ m ih =>
      by_cases e : c < (X.σ m).next
      · exact ih ⟨by have := hat.1; omega, fun k hk hk' => hat.2.1 k (by omega) hk', fun k _ hkn _ => hS k hkn⟩ e
      · exact absurd (hat.2.1 m (by omega) (.inl ⟨by omega, hc⟩)) (hS m (by have := hat.1; omega))
  have same : ∀ {c m : Nat}, X.at S (X.tch c) m → c < (X.σ m).next → (X.σ m).get c = (X.σ 0).get c := fun {c m} hat hc =>
    hX.between (Nat.zero_le _) hat.1 (low hat hc) fun k _ hk hk' => hS k (by have := hat.1; omega) (hat.2.1 k hk hk')
  refine { len := by have := ht.length; simpa using this.symm, slot := ?_, ds := by rw [below]; exact hd, cont := fun c m hat hc => (same hat hc).symm, dom := fun c l hl => ⟨(hw.dom c l hl).2, .inl (hw.dom c l hl).1⟩, obj := ?_, inj := hw.inj,
           ext := fun _ _ => rfl, size := Nat.le_refl _, fr := fun _ _ _ => rfl, kept := fun _ _ _ => rfl, dead := fun _ _ h => h,
           fresh := fun b l hb hl => absurd (hw.dom b l hl).1 (by omega), tape := rfl, os := rfl, out := rfl }
  · intro t m hat
    rw [hX.between_slot (Nat.zero_le _) hat.1 fun k _ hk hk' => hS k (by have := hat.1; omega) (hat.2.1 k hk hk')]
    have h1 := lget_VR ht t
    rw [show a.tmps.toList.getD t undef = lget a.tmps.toList t by rw [lget_eq, List.getD_eq_getElem?_getD]] at h1
    refine h1.mono ?_
    rw (occs := .pos [1]) [← below]
    exact Ren.below_mono (Ren.le_refl _) (hX.next_mono (Nat.zero_le _) hat.1)
  · intro c m l o hat hc hl ho
    refine (hw.obj c l o hl ho).mono ?_
    rw (occs := .pos [1]) [← below]
    exact Ren.below_mono (Ren.le_refl _) (hX.next_mono (Nat.zero_le _) hat.1)

theorem inv_end (hX : X.Ok F P ops Q) (h : Inv X ρ₀ w₀ ds S g ρ w a) (hS : ∀ k, k < X.n → S k) :
    VRL ρ (X.ts X.n) a.tmps.toList ∧ DRL ρ ds a.defers ∧ Aft ρ₀ (X.σ 0) w₀ ρ (X.σ X.n) w := by
  have hat : ∀ (tc : Nat → Prop), X.at S tc X.n := fun tc => ⟨Nat.le_refl _, fun k hk _ => hS k hk, fun k hk hkn _ => absurd hkn (by omega)⟩
  have hn := hX.next_mono (Nat.zero_le X.n) (Nat.le_refl _)
  have dom : ∀ {c : Nat} {l : Loc}, ρ c = some l → c < (X.σ X.n).next := fun {c l} hl => by
    rcases (h.dom c l hl).2 with h1 | ⟨k, hk, _, _, h2⟩
    · omega
    · have := hX.next_mono (by omega : k + 1 ≤ X.n) (Nat.le_refl _); omega
  have cont : ∀ {c : Nat}, c < (X.σ X.n).next → g c = (X.σ X.n).get c := fun hc => h.cont _ X.n (hat _) hc
  refine ⟨?_, h.ds.mono (Ren.below_le _ _), ?_⟩
  · refine VRL.of_get (by rw [hX.ts_len (Nat.le_refl _), ← h.len]; simp) fun i v hv => ?_
    have := (h.slot i X.n (hat _)).mono (Ren.below_le ρ _)
    rw [lget_eq, lget_eq, hv] at this
    have hi : i < a.tmps.toList.length := by
      have h1 := (List.getElem?_eq_some_iff.1 hv).1
      rw [hX.ts_len (Nat.le_refl _), ← h.len] at h1
      simpa using h1
    rw [List.getElem?_eq_getElem hi] at this ⊢
    exact ⟨_, rfl, this⟩
  · refine { ext := h.ext, wr := ⟨fun b l hl => ⟨dom hl, (h.dom b l hl).1⟩, fun b l o hl ho => ?_, fun b b' l l' hl hl' hg hg' => ?_⟩, size := h.size, fr := h.fr, nxt := hn, kept := ?_, dead := ?_, fresh := h.fresh, tape := h.tape, os := h.os, out := h.out }
    · exact (h.obj b X.n l o (hat _) (dom hl) hl (by rw [cont (dom hl)]; exact ho)).mono (Ren.below_le _ _)
    · exact h.inj b b' l l' hl hl' (by rw [cont (dom hl)]; exact hg) (by rw [cont (dom hl')]; exact hg')
    · intro b hb hr; rw [← cont (by omega)]; exact h.kept b hb hr
    · intro b hb hr; rw [← cont (by omega)]; exact h.dead b hb hr

/-- A drawn region. -/
theorem runDrawn_wp {C : Cx} {orc : Orc} (hC : C.Ok P) (hO : orc.Ok P) (hm : P.follows .mixedOrders = true) {id : Nat} {ops : Array Oper} {B : List Nat} {ro : Option Nat} {fr : Fr} {σ : St} {r : Dr} (hst : statOk ops B = true)
    (hr : runDrawn C orc ops.toList ops.toList fr.ts σ = some r) (hdy : dynOk B r = true) {ρ : Ren} {w : World} {a : Act} (hw : WR ρ σ w.heap) (hf : FR ρ fr a) :
    (Code.region id ops true).wpIn (fence ro) 0 P (fun e a' w' => ∃ ρ', XR ρ' .norm e ∧ FR ρ' { fr with ts := r.ts } a' ∧ Aft ρ σ w ρ' r.σ w') a w := by
  have hch := runDrawn_chain hC hO _ _ _ _ hr
  have hX : (tab ops B r).Ok (fence ro) P ops (fun e a' w' => ∃ ρ', XR ρ' .norm e ∧ FR ρ' { fr with ts := r.ts } a' ∧ Aft ρ σ w ρ' r.σ w') := tab_ok hC hO hch hst hdy
  have e0 : (tab ops B r).σ 0 = σ := hch.σ0
  have e1 : (tab ops B r).ts 0 = fr.ts := hch.ts0
  have hlen : r.st[ops.size]? = none := by
    rw [List.getElem?_eq_none_iff, hch.len]; simp
  have e2 : (tab ops B r).σ ops.size = r.σ := by show r.σAt ops.size = r.σ; unfold Dr.σAt; rw [hlen]
  have e3 : (tab ops B r).ts ops.size = r.ts := by show r.tsAt ops.size = r.ts; unfold Dr.tsAt; rw [hlen]
  refine wpIn_region_any hm ?_
  have hw' : WR ρ ((tab ops B r).σ 0) ({ w with drawn := w.drawn + 1 } : World).heap := by rw [e0]; exact hw
  refine any_of_inv (ρ₀ := ρ) (w₀ := { w with drawn := w.drawn + 1 }) (ds := fr.ds) hX ?_ ops.size _ _ ρ _ a (by simp [hX.size]) ?_ ?_ (inv_start hX hw' (by rw [e1]; exact hf.ts) hf.ds ?_)
  · intro S g ρ' w' a' hS h
    obtain ⟨h1, h2, h3⟩ := inv_end hX h hS
    have hn : (tab ops B r).n = ops.size := rfl
    rw [hn, e3] at h1
    rw [hn, e2, e0] at h3
    refine ⟨ρ', trivial, ⟨h1, h2⟩, { h3 with tape := h3.tape, os := h3.os, out := h3.out, size := h3.size, fr := h3.fr, fresh := h3.fresh }⟩
  · unfold left
    exact Nat.le_trans (List.countP_le_length) (by simp [tab])
  · intro j k hk hl
    simp [Array.getD_eq_getD_getElem?] at hl
    have : k < ops.size := hk
    simp [this] at hl
  · intro k hk
    have : k < ops.size := hk
    simp [Array.getD_eq_getD_getElem?, this]

end Go.Ab
