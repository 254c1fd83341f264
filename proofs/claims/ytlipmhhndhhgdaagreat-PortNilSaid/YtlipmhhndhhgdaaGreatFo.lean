/- Code: how pieces are put together. -/
import Derived.Test.YtlipmhhndhhgdaaGreatFn
set_option linter.unusedSimpArgs false
set_option linter.unusedVariables false
namespace Go.Ab

variable {P : Program}

/-! ### two laws of the calculus: a loop's rounds one by one; a scope with its jumps -/
section rules
variable {F : Fence} {n : Nat} {Q : Exit → Act → World → Prop} {a : Act} {w : World}

def LoopIn (F : Fence) (n : Nat) (P : Program) (c : Code) (Q : Exit → Act → World → Prop) (a : Act) (w : World) : Prop :=
  ∀ (b : Frame) (k : List Item) (cs : List Frame), b.roundOf = F.round → F.fn b.fn → F.room (cs.length + 1 + n) →
    ∃ e a' w', Q e a' w' ∧ ArrivesIn (Machine.fenced P F) P (lone (b.atR a (.code c :: .inLoop c :: k)) cs w) b k cs e a' w'

theorem loopIn_step {c : Code} (h : c.wpIn F n P (Exit.then (LoopIn F n P c Q) Q) a w) : LoopIn F n P c Q a w := by
  intro b k cs hro hb hr
  obtain ⟨e, a₁, w₁, hq, harr⟩ := h b (.inLoop c :: k) cs hro hb hr
  cases e with
  | normal =>
    obtain ⟨e₂, a₂, w₂, hq₂, harr₂⟩ := hq b k cs hro hb hr
    exact ⟨e₂, a₂, w₂, hq₂, .of_steps (StepsIn.trans harr (.one (fenced_calm hb hr rfl) stepR_inLoop)) harr₂⟩
  | exit id => exact ⟨_, a₁, w₁, hq, .pass (x := .inLoop c) rfl (fun _ _ => .inl (by simp)) harr⟩
  | goto l => exact ⟨_, a₁, w₁, hq, .pass (x := .inLoop c) rfl (fun _ _ => .inl (by simp)) harr⟩
  | ret => exact ⟨_, a₁, w₁, hq, .pass (x := .inLoop c) rfl (fun _ _ => .inl (by simp)) harr⟩
  | panic ch => exact ⟨_, a₁, w₁, hq, .pass (x := .inLoop c) rfl (fun _ _ => .inl (by simp)) harr⟩
  | outgrown => exact ⟨_, a₁, w₁, hq, .pass (x := .inLoop c) rfl (fun _ _ => .inl (by simp)) harr⟩

theorem wpIn_of_loopIn {c : Code} (h : LoopIn F n P c Q a w) : (Code.loop c).wpIn F n P Q a w := fun b k cs hro hb hr =>
  let ⟨e, a', w', hq, harr⟩ := h b k cs hro hb hr
  ⟨e, a', w', hq, .of_steps (.one (fenced_calm hb hr rfl) stepR_loop) harr⟩

def ScopeIn (F : Fence) (n : Nat) (P : Program) (body c : Code) (Q : Exit → Act → World → Prop) (a : Act) (w : World) : Prop :=
  ∀ (b : Frame) (k : List Item) (cs : List Frame), b.roundOf = F.round → F.fn b.fn → F.room (cs.length + 1 + n) →
    ∃ e a' w', Q e a' w' ∧ ArrivesIn (Machine.fenced P F) P (lone (b.atR a (.code c :: .inScope body :: k)) cs w) b k cs e a' w'

theorem stepR_scope' {b : Frame} {k : List Item} {cs : List Frame} {c : Code} :
    step P (lone (b.atR a (.code (.scope c) :: k)) cs w) = .next (lone (b.atR a (.code c :: .inScope c :: k)) cs w) :=
  step_lone_go (by simp [stepG, stepG.exec, Frame.atR])
theorem stepR_inScope' {b : Frame} {k : List Item} {cs : List Frame} {c : Code} :
    step P (lone (b.atR a (.inScope c :: k)) cs w) = .next (lone (b.atR a k) cs w) :=
  step_lone_go (by simp [stepG, stepG.exec, Frame.atR])

def Exit.inScope (body : Code) (J : Code → Act → World → Prop) (Q : Exit → Act → World → Prop) : Exit → Act → World → Prop
  | .goto l, a, w => match findLabel body l with
    | some rest => J rest a w
    | none => Q (.goto l) a w
  | e, a, w => Q e a w

theorem scopeIn_step {body c : Code} (h : c.wpIn F n P (Exit.inScope body (fun rest => ScopeIn F n P body rest Q) Q) a w) : ScopeIn F n P body c Q a w := by
  intro b k cs hro hb hr
  obtain ⟨e, a₁, w₁, hq, harr⟩ := h b (.inScope body :: k) cs hro hb hr
  cases e with
  | normal => exact ⟨.normal, a₁, w₁, hq, StepsIn.trans harr (.one (fenced_calm hb hr rfl) stepR_inScope')⟩
  | exit id =>
    have hx : exitTo id (.inScope body :: k) = exitTo id k := by simp [exitTo]
    exact ⟨.exit id, a₁, w₁, hq, fun k' hk => harr.1 k' (by rw [hx]; exact hk), fun hr' hk => harr.2 hr' (by rw [hx]; exact hk)⟩
  | goto l =>
    simp only [Exit.inScope] at hq
    split at hq
    · rename_i rest hf
      have hg : gotoIn l (.inScope body :: k) = some (.code rest :: .inScope body :: k) := by simp [gotoIn, hf]
      obtain ⟨e₂, a₂, w₂, hq₂, harr₂⟩ := hq b k cs hro hb hr
      exact ⟨e₂, a₂, w₂, hq₂, .of_steps (harr.1 _ hg) harr₂⟩
    · rename_i hf
      have hx : gotoIn l (.inScope body :: k) = gotoIn l k := by simp [gotoIn, hf]
      exact ⟨.goto l, a₁, w₁, hq, fun k' hk => harr.1 k' (by rw [hx]; exact hk), fun hr' hk => harr.2 hr' (by rw [hx]; exact hk)⟩
  | ret => exact ⟨_, a₁, w₁, hq, harr⟩
  | panic ch => exact ⟨_, a₁, w₁, hq, harr⟩
  | outgrown => exact ⟨_, a₁, w₁, hq, harr⟩

theorem wpIn_of_scopeIn {c : Code} (h : ScopeIn F n P c c Q a w) : (Code.scope c).wpIn F n P Q a w := fun b k cs hro hb hr =>
  let ⟨e, a', w', hq, harr⟩ := h b k cs hro hb hr
  ⟨e, a', w', hq, .of_steps (.one (fenced_calm hb hr rfl) stepR_scope') harr⟩
end rules

/-! ### what is said of a piece of code, whatever the form -/
abbrev WT := Fence → (Exit → Act → World → Prop) → Act → World → Prop

/-- What a run is: how it is left, the frame, the state, the blocks of old that it has turned. -/
structure RR where
  x : AX
  fr : Fr
  σ : St
  lg : Log

def after (ρ : Ren) (σ : St) (w : World) (r : RR) : Exit → Act → World → Prop := fun e a' w' => ∃ ρ', XR ρ' r.x e ∧ FR ρ' r.fr a' ∧ Aft ρ σ w ρ' r.σ w'

def DG (W : WT) (rnd : Bool) (fr : Fr) (σ : St) (r : RR) : Prop :=
  Logged σ r.σ r.lg ∧ ∀ (ro : Option Nat), (rnd = false → ro = none) → ∀ (ρ : Ren) (w : World) (a : Act), WR ρ σ w.heap → FR ρ fr a → W (fence ro) (after ρ σ w r) a w

def DC (P : Program) (rnd : Bool) (c : Code) (fr : Fr) (σ : St) (r : RR) : Prop := DG (fun F Q => c.wpIn F 0 P Q) rnd fr σ r
def DL (P : Program) (rnd : Bool) (c : Code) (fr : Fr) (σ : St) (r : RR) : Prop := DG (fun F Q => LoopIn F 0 P c Q) rnd fr σ r
def DS (P : Program) (rnd : Bool) (body c : Code) (fr : Fr) (σ : St) (r : RR) : Prop := DG (fun F Q => ScopeIn F 0 P body c Q) rnd fr σ r

def WT.Mono (W : WT) : Prop := ∀ F Q Q' a w, W F Q a w → (∀ e a w, Q e a w → Q' e a w) → W F Q' a w
theorem code_mono (c : Code) : WT.Mono fun F Q => c.wpIn F 0 P Q := fun _ _ _ _ _ h hq => wpIn_mono h hq
theorem loop_mono (c : Code) : WT.Mono fun F Q => LoopIn F 0 P c Q := fun _ _ _ _ _ h hq b k cs hro hb hr => let ⟨e, a', w', q, r⟩ := h b k cs hro hb hr; ⟨e, a', w', hq _ _ _ q, r⟩
theorem scope_mono (body c : Code) : WT.Mono fun F Q => ScopeIn F 0 P body c Q := fun _ _ _ _ _ h hq b k cs hro hb hr => let ⟨e, a', w', q, r⟩ := h b k cs hro hb hr; ⟨e, a', w', hq _ _ _ q, r⟩

def RR.pre (l : Log) (r : RR) : RR := { r with lg := l ++ r.lg }

theorem after_trans {ρ₀ ρ : Ren} {σ₀ σ : St} {w₀ w : World} {r : RR} {l : Log} (h : Aft ρ₀ σ₀ w₀ ρ σ w) {e : Exit} {a' : Act} {w' : World} (k : after ρ σ w r e a' w') : after ρ₀ σ₀ w₀ (r.pre l) e a' w' :=
  let ⟨ρ', h1, h2, h3⟩ := k
  ⟨ρ', h1, h2, h.trans h3⟩

/-- Nothing but a step of control. -/
theorem DG.still {W : WT} {rnd : Bool} {fr : Fr} {σ : St} {x : AX} {e : Exit} (hx : ∀ ρ, XR ρ x e) (h : ∀ F Q a w, Q e a w → W F Q a w) : DG W rnd fr σ ⟨x, fr, σ, []⟩ :=
  ⟨logged_self _ _, fun _ _ _ _ a hw hf => h _ _ _ _ ⟨_, hx _, hf, Aft.refl hw⟩⟩

/-- One piece, then another one. -/
theorem DG.bind {W W' V : WT} {rnd : Bool} {fr : Fr} {σ : St} {r r' : RR} {e : Exit} (hV : WT.Mono V) (he : ∀ ρ e', XR ρ r.x e' → e' = e) (h : DG V rnd fr σ r) (k : DG W' rnd r.fr r.σ r')
    (hW : ∀ F Q a w, V F (fun e' a' w' => e' = e ∧ W' F Q a' w') a w → W F Q a w) (hW' : WT.Mono W') : DG W rnd fr σ (r'.pre r.lg) := by
  refine ⟨h.1.trans k.1, fun ro hro ρ w a hw hf => hW _ _ _ _ (hV _ _ _ _ _ (h.2 ro hro ρ w a hw hf) ?_)⟩
  rintro e' a' w' ⟨ρ', h1, h2, h3⟩
  refine ⟨he _ _ h1, hW' _ _ _ _ _ (k.2 ro hro ρ' w' a' h3.wr h2) fun _ _ _ => after_trans h3⟩

def AX.isNorm : AX → Bool
  | .norm => true
  | _ => false

theorem XR.norm_iff {ρ : Ren} {e : Exit} (h : XR ρ .norm e) : e = .normal := by cases e <;> first | rfl | exact h.elim
theorem XR.not_norm {ρ : Ren} {x : AX} {e : Exit} (h : XR ρ x e) (hx : x.isNorm = false) : e ≠ .normal := by
  rintro rfl
  cases x <;> first | exact False.elim h | cases hx

theorem then_of_not {K : Act → World → Prop} {Q : Exit → Act → World → Prop} {e : Exit} {a : Act} {w : World} (he : e ≠ .normal) (h : Q e a w) : Exit.then K Q e a w := by
  cases e <;> first | exact h | exact absurd rfl he

theorem DC.skip (rnd : Bool) (fr : Fr) (σ : St) : DC P rnd .skip fr σ ⟨.norm, fr, σ, []⟩ := DG.still (e := .normal) (fun _ => trivial) fun _ _ _ _ h => wpIn_skip h
theorem DC.label (l : Nat) (rnd : Bool) (fr : Fr) (σ : St) : DC P rnd (.label l) fr σ ⟨.norm, fr, σ, []⟩ := DG.still (e := .normal) (fun _ => trivial) fun _ _ _ _ h => wpIn_label h
theorem DC.exit (i : Nat) (rnd : Bool) (fr : Fr) (σ : St) : DC P rnd (.exit i) fr σ ⟨.exit i, fr, σ, []⟩ := DG.still (e := .exit i) (fun _ => rfl) fun _ _ _ _ h => wpIn_exit h
theorem DC.goto (i : Nat) (rnd : Bool) (fr : Fr) (σ : St) : DC P rnd (.goto i) fr σ ⟨.goto i, fr, σ, []⟩ := DG.still (e := .goto i) (fun _ => rfl) fun _ _ _ _ h => wpIn_goto h
theorem DC.ret (rnd : Bool) (fr : Fr) (σ : St) : DC P rnd .ret fr σ ⟨.ret, fr, σ, []⟩ := DG.still (e := .ret) (fun _ => trivial) fun _ _ _ _ h => wpIn_ret h

theorem DC.seq {c d : Code} {rnd : Bool} {fr : Fr} {σ : St} {r r' : RR} (h : DC P rnd c fr σ r) (hx : r.x = .norm) (k : DC P rnd d r.fr r.σ r') : DC P rnd (.seq c d) fr σ (r'.pre r.lg) :=
  DG.bind (code_mono c) (e := .normal) (fun _ _ h => XR.norm_iff (hx ▸ h)) h k (fun _ _ _ _ h => wpIn_seq (wpIn_mono h fun _ _ _ ⟨he, hq⟩ => by subst he; exact hq)) (code_mono d)

theorem DC.seq_out {c d : Code} {rnd : Bool} {fr : Fr} {σ : St} {r : RR} (h : DC P rnd c fr σ r) (hx : r.x.isNorm = false) : DC P rnd (.seq c d) fr σ r :=
  ⟨h.1, fun ro hro ρ w a hw hf => wpIn_seq (wpIn_mono (h.2 ro hro ρ w a hw hf) fun e _ _ ⟨ρ', h1, h2⟩ => then_of_not (h1.not_norm hx) ⟨ρ', h1, h2⟩)⟩

theorem DC.cond {c : Operand} {x y : Code} {t rnd : Bool} {fr : Fr} {σ : St} {r : RR} (hc : ev fr.ts c = some (.bool t)) (h : DC P rnd (if t then x else y) fr σ r) : DC P rnd (.cond c x y) fr σ r :=
  ⟨h.1, fun ro hro ρ w a hw hf => by
    have hv := ev_VR hf.ts hc
    generalize he : a.eval c = v at hv
    cases hv
    exact wpIn_cond he (h.2 ro hro ρ w a hw hf)⟩

def AX.inBlock (id : Nat) : AX → AX
  | .exit i => if i = id then .norm else .exit i
  | x => x

theorem DC.block {id : Nat} {c : Code} {rnd : Bool} {fr : Fr} {σ : St} {r : RR} (h : DC P rnd c fr σ r) : DC P rnd (.block id c) fr σ { r with x := r.x.inBlock id } :=
  ⟨h.1, fun ro hro ρ w a hw hf => wpIn_block (wpIn_mono (h.2 ro hro ρ w a hw hf) fun e a' w' ⟨ρ', h1, h2⟩ => by
    cases e with
    | exit i =>
      simp only [Exit.inBlock]
      generalize r.x = x at h1
      cases x <;> try exact h1.elim
      rename_i j
      have : j = i := h1
      subst this
      by_cases hj : j = id
      · rw [if_pos hj]; exact ⟨ρ', by simp only [AX.inBlock, if_pos hj]; trivial, h2⟩
      · rw [if_neg hj]; exact ⟨ρ', by simp only [AX.inBlock, if_neg hj]; rfl, h2⟩
    | normal => refine ⟨ρ', ?_, h2⟩; generalize r.x = x at h1; cases x <;> first | exact h1.elim | exact h1
    | goto l => refine ⟨ρ', ?_, h2⟩; generalize r.x = x at h1; cases x <;> first | exact h1.elim | exact h1
    | ret => refine ⟨ρ', ?_, h2⟩; generalize r.x = x at h1; cases x <;> first | exact h1.elim | exact h1
    | panic ch => refine ⟨ρ', ?_, h2⟩; generalize r.x = x at h1; cases x <;> first | exact h1.elim | exact h1
    | outgrown => generalize r.x = x at h1; cases x <;> exact h1.elim)⟩

theorem DL.next {c : Code} {rnd : Bool} {fr : Fr} {σ : St} {r r' : RR} (h : DC P rnd c fr σ r) (hx : r.x = .norm) (k : DL P rnd c r.fr r.σ r') : DL P rnd c fr σ (r'.pre r.lg) :=
  DG.bind (code_mono c) (e := .normal) (fun _ _ h => XR.norm_iff (hx ▸ h)) h k (fun _ _ _ _ h => loopIn_step (wpIn_mono h fun _ _ _ ⟨he, hq⟩ => by subst he; exact hq)) (loop_mono c)
theorem DL.out {c : Code} {rnd : Bool} {fr : Fr} {σ : St} {r : RR} (h : DC P rnd c fr σ r) (hx : r.x.isNorm = false) : DL P rnd c fr σ r :=
  ⟨h.1, fun ro hro ρ w a hw hf => loopIn_step (wpIn_mono (h.2 ro hro ρ w a hw hf) fun e _ _ ⟨ρ', h1, h2⟩ => then_of_not (h1.not_norm hx) ⟨ρ', h1, h2⟩)⟩
theorem DC.loop {c : Code} {rnd : Bool} {fr : Fr} {σ : St} {r : RR} (h : DL P rnd c fr σ r) : DC P rnd (.loop c) fr σ r :=
  ⟨h.1, fun ro hro ρ w a hw hf => wpIn_of_loopIn (h.2 ro hro ρ w a hw hf)⟩

theorem DS.jump {body c rest : Code} {l : Nat} {rnd : Bool} {fr : Fr} {σ : St} {r r' : RR} (h : DC P rnd c fr σ r) (hx : r.x = .goto l) (hf : findLabel body l = some rest) (k : DS P rnd body rest r.fr r.σ r') : DS P rnd body c fr σ (r'.pre r.lg) :=
  DG.bind (code_mono c) (e := .goto l) (fun _ e h => by rw [hx] at h; cases e <;> first | exact h.elim | (have h2 : l = _ := h; rw [h2])) h k
    (fun _ _ _ _ h => scopeIn_step (wpIn_mono h fun _ _ _ ⟨he, hq⟩ => by subst he; simp only [Exit.inScope, hf]; exact hq)) (scope_mono body rest)
theorem DS.out {body c : Code} {rnd : Bool} {fr : Fr} {σ : St} {r : RR} (h : DC P rnd c fr σ r) (hx : ∀ l, r.x = .goto l → findLabel body l = none) : DS P rnd body c fr σ r :=
  ⟨h.1, fun ro hro ρ w a hw hf => scopeIn_step (wpIn_mono (h.2 ro hro ρ w a hw hf) fun e _ _ ⟨ρ', h1, h2⟩ => by
    cases e with
    | goto l =>
      simp only [Exit.inScope]
      have : r.x = .goto l := by
        generalize r.x = x at h1
        cases x <;> try exact h1.elim
        have h3 : _ = l := h1
        rw [h3]
      rw [hx l this]
      exact ⟨ρ', h1, h2⟩
    | _ => exact ⟨ρ', h1, h2⟩)⟩
theorem DC.scope {c : Code} {rnd : Bool} {fr : Fr} {σ : St} {r : RR} (h : DS P rnd c c fr σ r) : DC P rnd (.scope c) fr σ r :=
  ⟨h.1, fun ro hro ρ w a hw hf => wpIn_of_scopeIn (h.2 ro hro ρ w a hw hf)⟩

theorem DC.region {C : Cx} {orc : Orc} (hC : C.Ok P) (hO : orc.Ok P) {rnd : Bool} {id : Nat} {ops : Array Oper} {fr fr' : Fr} {σ σ' : St} {x : AX} {lg : Log}
    (h : runOps C orc rnd ops.toList ops.toList fr σ [] = some (x, fr', σ', lg)) : DC P rnd (.region id ops false) fr σ ⟨x, fr', σ', lg⟩ := by
  obtain ⟨l2, h1, h2⟩ := runOps_logged hC hO _ _ _ _ _ _ _ _ h
  rw [List.nil_append] at h1
  subst h1
  refine ⟨h2, fun ro hro ρ w a hw hf => wpIn_region ?_⟩
  have := runOps_wp hC hO (ops := ops) hro ops.toList 0 rfl fr σ [] x fr' σ' lg h ρ w a (Aft.refl hw) hf
  rw [List.range_eq_range']
  show wpOpsIn (fence ro) 0 P ops (fun e a' w' => ∃ ρ', XR ρ' x e ∧ FR ρ' fr' a' ∧ Aft ρ σ w ρ' σ' w') _ a w
  simpa using this

theorem DC.drawn {C : Cx} {orc : Orc} (hC : C.Ok P) (hO : orc.Ok P) (hm : P.follows .mixedOrders = true) {rnd : Bool} {id : Nat} {ops : Array Oper} {B : List Nat} {fr : Fr} {σ : St} {r : Dr} (hst : statOk ops B = true)
    (hr : runDrawn C orc ops.toList ops.toList fr.ts σ = some r) (hdy : dynOk B r = true) : DC P rnd (.region id ops true) fr σ ⟨.norm, { fr with ts := r.ts }, r.σ, r.lg⟩ :=
  ⟨(runDrawn_chain hC hO _ _ _ _ hr).log, fun _ _ _ _ _ hw hf => runDrawn_wp hC hO hm hst hr hdy hw hf⟩

end Go.Ab
