/- Code, run; blocks that nobody knows any more, forgotten. -/
import Derived.Test.YtlipmhhndhhgdaaGreatFs
set_option linter.unusedSimpArgs false
set_option linter.unusedVariables false
namespace Go.Ab

variable {P : Program}

inductive Job where
  | code (c : Code)
  | loop (c : Code)
  | scope (body c : Code)

def statAll (bt : Nat → List Nat) : Code → Bool
  | .region id ops true => statOk ops (bt id)
  | .seq a b => statAll bt a && statAll bt b
  | .cond _ a b => statAll bt a && statAll bt b
  | .block _ b => statAll bt b
  | .loop b => statAll bt b
  | .scope b => statAll bt b
  | .rangeFunc _ _ a b => statAll bt a && statAll bt b
  | _ => true

def Job.stat (bt : Nat → List Nat) : Job → Bool
  | .code c => statAll bt c
  | .loop c => statAll bt c
  | .scope b c => statAll bt b && statAll bt c

def preO (l : Log) : Option RR → Option RR
  | some r => some (r.pre l)
  | none => none

/-- A branch on the mode in which a piece has ended. -/
def thenR (r : Option RR) (k : Fr → St → Option RR) : Option RR :=
  match r with
  | some ⟨.norm, fr, σ, lg⟩ => preO lg (k fr σ)
  | r => r

def regionR (C : Cx) (orc : Orc) (B : List Nat) (rnd draw : Bool) (ops : Array Oper) (fr : Fr) (σ : St) : Option RR :=
  match draw with
  | false => match runOps C orc rnd ops.toList ops.toList fr σ [] with
    | some (x, fr', σ', lg) => some ⟨x, fr', σ', lg⟩
    | none => none
  | true => match runDrawn C orc ops.toList ops.toList fr.ts σ with
    | some r => if dynOk B r then some ⟨.norm, { fr with ts := r.ts }, r.σ, r.lg⟩ else none
    | none => none

def condK (k₁ k₂ : Fr → St → Option RR) (fr : Fr) (σ : St) : Option Value → Option RR
  | some (.bool true) => k₁ fr σ
  | some (.bool false) => k₂ fr σ
  | _ => none

def blockK (id : Nat) : Option RR → Option RR
  | some ⟨x, fr', σ', lg⟩ => some ⟨x.inBlock id, fr', σ', lg⟩
  | none => none

def jumpK (k : Job → Fr → St → Option RR) (b : Code) (l : Nat) (fr : Fr) (σ : St) (lg : Log) : Option Code → Option RR
  | some rest => preO lg (k (.scope b rest) fr σ)
  | none => some ⟨.goto l, fr, σ, lg⟩

def scopeK (k : Job → Fr → St → Option RR) (b : Code) (r : Option RR) : Option RR :=
  match r with
  | some ⟨.goto l, fr', σ', lg⟩ => jumpK k b l fr' σ' lg (findLabel b l)
  | r => r

/-- The number of the function whose tables these are. -/
def meOf (bt : Nat → List Nat) : Nat :=
  match bt 1000000 with
  | [n] => n
  | _ => 0

def rangeQ (C : Cx) (orc : Orc) (bt : Nat → List Nat) (rnd : Bool) (g : Operand) (ps : Array Tmp) (assign body : Code) (fr : Fr) (σ : St) : Option RR :=
  match rnd with
  | true => none
  | false => rangeR C.bodies orc (meOf bt) g ps assign body fr σ

def run (C : Cx) (orc : Orc) (bt : Nat → List Nat) (rnd : Bool) : Nat → Job → Fr → St → Option RR
  | 0, _, _, _ => none
  | n + 1, .loop c, fr, σ => thenR (run C orc bt rnd n (.code c) fr σ) (run C orc bt rnd n (.loop c))
  | n + 1, .scope b c, fr, σ => scopeK (run C orc bt rnd n) b (run C orc bt rnd n (.code c) fr σ)
  | n + 1, .code c, fr, σ => match c with
    | .skip => some ⟨.norm, fr, σ, []⟩
    | .label _ => some ⟨.norm, fr, σ, []⟩
    | .exit i => some ⟨.exit i, fr, σ, []⟩
    | .goto i => some ⟨.goto i, fr, σ, []⟩
    | .ret => some ⟨.ret, fr, σ, []⟩
    | .seq a b => thenR (run C orc bt rnd n (.code a) fr σ) (run C orc bt rnd n (.code b))
    | .cond c a b => condK (run C orc bt rnd n (.code a)) (run C orc bt rnd n (.code b)) fr σ (ev fr.ts c)
    | .block id b => blockK id (run C orc bt rnd n (.code b) fr σ)
    | .loop b => run C orc bt rnd n (.loop b) fr σ
    | .scope b => run C orc bt rnd n (.scope b b) fr σ
    | .region id ops draw => regionR C orc (bt id) rnd draw ops fr σ
    | .rangeFunc g ps assign body => rangeQ C orc bt rnd g ps assign body fr σ
    | _ => none

def DJ (P : Program) (rnd : Bool) : Job → Fr → St → RR → Prop
  | .code c => DC P rnd c
  | .loop c => DL P rnd c
  | .scope b c => DS P rnd b c

theorem statAll_find {bt : Nat → List Nat} {l : Nat} : ∀ {c rest : Code}, findLabel c l = some rest → statAll bt c = true → statAll bt rest = true := by
  intro c
  induction c with
  | seq a b iha ihb =>
    intro rest h hs
    simp only [statAll, Bool.and_eq_true] at hs
    simp only [findLabel] at h
    split at h
    · rename_i r hr
      cases h
      simp only [statAll, Bool.and_eq_true]
      exact ⟨iha hr hs.1, hs.2⟩
    · exact ihb h hs.2
  | label l' =>
    intro rest h _
    simp only [findLabel] at h
    split at h
    · cases h; rfl
    · cases h
  | _ => intro rest h; simp [findLabel] at h

theorem regionR_sound {bt : Nat → List Nat} {C : Cx} {orc : Orc} (hC : C.Ok P) (hO : orc.Ok P) (hm : P.follows .mixedOrders = true) {rnd draw : Bool} {id : Nat} {ops : Array Oper} {fr : Fr} {σ : St} {r : RR} (hs : statAll bt (.region id ops draw) = true)
    (h : regionR C orc (bt id) rnd draw ops fr σ = some r) : DC P rnd (.region id ops draw) fr σ r := by
  cases draw with
  | false =>
    simp only [regionR] at h
    split at h
    · rename_i hr; cases h; exact DC.region hC hO hr
    · cases h
  | true =>
    simp only [regionR] at h
    split at h
    · rename_i r' hr
      split at h
      · rename_i hd; cases h; exact DC.drawn hC hO hm (by simpa [statAll] using hs) hr hd
      · cases h
    · cases h

theorem run_sound {C : Cx} {orc : Orc} (hC : C.Ok P) (hO : orc.Ok P) (hm : P.follows .mixedOrders = true) {bt : Nat → List Nat} {rnd : Bool} : ∀ (n : Nat) (j : Job) (fr : Fr) (σ : St) (r : RR), j.stat bt = true → run C orc bt rnd n j fr σ = some r → DJ P rnd j fr σ r := by
  intro n
  induction n with
  | zero => intro j fr σ r _ h; simp [run] at h
  | succ n ih =>
    intro j fr σ r hs h
    cases j with
    | loop c =>
      simp only [run] at h
      unfold thenR at h
      split at h
      · rename_i fr' σ' lg hr
        have h1 : DC P rnd c fr σ _ := ih (.code c) _ _ _ hs hr
        unfold preO at h
        split at h
        · rename_i r' hr'; cases h
          exact DL.next h1 rfl (ih (.loop c) _ _ _ hs hr')
        · cases h
      · rename_i hne
        have h1 : DC P rnd c fr σ r := ih (.code c) _ _ _ hs h
        refine DL.out h1 ?_
        cases hx : r.x <;> first | rfl | skip
        exact (hne r.fr r.σ r.lg (by rw [h, ← hx])).elim
    | scope b c =>
      simp only [run] at h
      simp only [Job.stat, Bool.and_eq_true] at hs
      unfold scopeK at h
      split at h
      · rename_i l fr' σ' lg hr
        have h1 : DC P rnd c fr σ _ := ih (.code c) _ _ _ hs.2 hr
        unfold jumpK at h
        split at h
        · rename_i rest hf
          unfold preO at h
          split at h
          · rename_i r' hr'; cases h
            exact DS.jump h1 rfl hf (ih (.scope b rest) _ _ _ (by simp [Job.stat, hs.1, statAll_find hf hs.1]) hr')
          · cases h
        · rename_i hf
          cases h
          exact DS.out h1 fun l' hl' => by cases hl'; exact hf
      · rename_i hne
        have h1 : DC P rnd c fr σ r := ih (.code c) _ _ _ hs.2 h
        exact DS.out h1 fun l hl => (hne l r.fr r.σ r.lg (by rw [h, ← hl])).elim
    | code c =>
      cases c with
      | skip => simp only [run, Option.some.injEq] at h; subst h; exact DC.skip _ _ _
      | label l => simp only [run, Option.some.injEq] at h; subst h; exact DC.label _ _ _ _
      | exit i => simp only [run, Option.some.injEq] at h; subst h; exact DC.exit _ _ _ _
      | goto i => simp only [run, Option.some.injEq] at h; subst h; exact DC.goto _ _ _ _
      | ret => simp only [run, Option.some.injEq] at h; subst h; exact DC.ret _ _ _
      | seq a b =>
        simp only [Job.stat, statAll, Bool.and_eq_true] at hs
        simp only [run] at h
        unfold thenR at h
        split at h
        · rename_i fr' σ' lg hr
          have h1 : DC P rnd a fr σ _ := ih (.code a) _ _ _ hs.1 hr
          unfold preO at h
          split at h
          · rename_i r' hr'; cases h
            exact DC.seq h1 rfl (ih (.code b) _ _ _ hs.2 hr')
          · cases h
        · rename_i hne
          have h1 : DC P rnd a fr σ r := ih (.code a) _ _ _ hs.1 h
          refine DC.seq_out h1 ?_
          cases hx : r.x <;> first | rfl | skip
          exact (hne r.fr r.σ r.lg (by rw [h, ← hx])).elim
      | cond c a b =>
        simp only [Job.stat, statAll, Bool.and_eq_true] at hs
        simp only [run] at h
        unfold condK at h
        split at h
        · rename_i hc; exact DC.cond (t := true) hc (ih (.code a) _ _ _ hs.1 h)
        · rename_i hc; exact DC.cond (t := false) hc (ih (.code b) _ _ _ hs.2 h)
        · cases h
      | block id b =>
        simp only [run] at h
        unfold blockK at h
        split at h
        · rename_i hr; cases h; exact DC.block (ih (.code b) _ _ _ hs hr)
        · cases h
      | loop b => simp only [run] at h; exact DC.loop (ih (.loop b) _ _ _ hs h)
      | scope b => simp only [run] at h; exact DC.scope (ih (.scope b b) _ _ _ (by simpa [Job.stat, statAll] using hs) h)
      | region id ops draw => simp only [run] at h; exact regionR_sound hC hO hm hs h
      | rangeFunc g ps assign body =>
        simp only [run] at h
        unfold rangeQ at h
        split at h
        · cases h
        · exact DC.rangeFunc hC hO h
      | _ => simp [run] at h

/-! ### forgetting -/
/-- A value that names no block. -/
theorem VR.forget {ρ ρ₁ : Ren} {v v₁ v' : Value} (h : VR ρ₁ v v₁) (k : VR ρ v v') (he : ∀ b l, ρ₁ b = some l → ∀ l', ρ b = some l' → ρ₁ b = some l') : VR ρ₁ v v' :=
  (h.meet k).mono fun b l hb => by
    unfold Ren.on at hb
    split at hb
    · cases hb
    · rename_i hne
      cases h1 : ρ₁ b with
      | none => exact absurd h1 hne
      | some l₁ => rw [← h1]; exact he b l₁ h1 l hb

/-- What a call has made, and nobody can reach, need not be told of. -/
theorem DCall.forget {f : FuncId} {args : List Value} {σ σ' : St} {v : Value} (h : DCall P f args σ (.ret v) σ' []) (hv : plain v = true) : DCall P f args σ (.ret v) σ [] :=
  ⟨logged_self _ _, fun ρ w args' hw ha => by
    obtain ⟨h1, h2⟩ := h.2 ρ w args' hw ha
    refine ⟨h1, fun cs hr => ?_⟩
    obtain ⟨e, w', fr, ⟨ρ', he, hA⟩, rest⟩ := h2 cs hr
    refine ⟨e, w', fr, ⟨ρ, ?_, ?_⟩, rest⟩
    · cases e with
      | returned v' => exact VR.forget (plain_VR ρ v hv) he fun b l hb l' hb' => by rw [← hb']; exact (hA.ext b (hw.dom b l hb).1).symm
      | panicked c => exact False.elim he
      | outgrown => exact False.elim he
    · exact Aft.forget hw hA fun b hb => h.1.2 b hb (by simp)⟩
where
  Aft.forget {ρ ρ' : Ren} {σ σ' : St} {w w' : World} (hw : WR ρ σ w.heap) (hA : Aft ρ σ w ρ' σ' w') (hs : ∀ b, b < σ.next → σ'.get b = σ.get b) : Aft ρ σ w ρ σ w' :=
    { ext := fun _ _ => rfl
      wr := ⟨fun b l hl => ⟨(hw.dom b l hl).1, Nat.lt_of_lt_of_le (hw.dom b l hl).2 hA.size⟩, fun b l o hl ho => by
          have hb := (hw.dom b l hl).1
          have h1 := hw.obj b l o hl ho
          have h2 := hA.wr.obj b l o (by rw [hA.ext b hb]; exact hl) (by rw [hs b hb]; exact ho)
          refine (h1.meet h2).mono fun c lc hc => ?_
          unfold Ren.on at hc
          split at hc
          · cases hc
          · rename_i hne
            cases h3 : ρ c with
            | none => exact absurd h3 hne
            | some l₃ => rw [← h3, ← hA.ext c (hw.dom c l₃ h3).1]; exact hc,
        hw.inj⟩
      size := hA.size
      fr := hA.fr
      nxt := Nat.le_refl _
      kept := fun _ _ _ => rfl
      dead := fun _ _ h => h
      fresh := fun b l hb hl => absurd (hw.dom b l hl).1 (by omega)
      tape := hA.tape
      os := hA.os
      out := hA.out }

/-- One more call that is answered. -/
noncomputable def Orc.one (orc : Orc) (f : FuncId) (args : List Value) (σ : St) (r : AE × St × Log) : Orc :=
  open Classical in { orc with call := fun f' args' σ' => if f' = f ∧ args' = args ∧ σ' = σ then some r else orc.call f' args' σ' }

theorem Orc.one_call (orc : Orc) (f : FuncId) (args : List Value) (σ : St) (r : AE × St × Log) : (orc.one f args σ r).call f args σ = some r := by simp [Orc.one]
theorem Orc.one_ok {orc : Orc} (h : orc.Ok P) {f : FuncId} {args : List Value} {σ : St} {r : AE × St × Log} (hr : DCall P f args σ r.1 r.2.1 r.2.2) : (orc.one f args σ r).Ok P where
  call := fun f' args' σ' e σ'' lg hc => by
    simp only [Orc.one] at hc
    split at hc
    · rename_i he
      obtain ⟨rfl, rfl, rfl⟩ := he
      cases hc
      exact hr
    · exact h.call _ _ _ _ _ _ hc
  round := h.round

def Orc.none : Orc := ⟨fun _ _ _ => .none, fun _ _ _ => .none⟩
theorem Orc.none_ok : Orc.none.Ok P where
  call := fun f args σ e σ' lg h => by simp [Orc.none] at h
  round := fun l args σ e σ' lg h => by simp [Orc.none] at h

end Go.Ab
