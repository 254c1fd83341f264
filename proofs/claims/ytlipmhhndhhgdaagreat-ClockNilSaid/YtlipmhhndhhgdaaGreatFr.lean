/- A runner of whole calls, by depth; a call that knows no block runs alike in every state. -/
import Derived.Test.YtlipmhhndhhgdaaGreatFq
set_option linter.unusedSimpArgs false
set_option linter.unusedVariables false
namespace Go.Ab

variable {P : Program}

/-- A first region that recovers. -/
def recHead : Code → Option (Oper × Code)
  | .seq (.region _ ⟨[o]⟩ false) c => match o.op, o.guard with
    | .call { callee := .builtin .recover, args := ⟨[]⟩, argTypes := _ }, none => some (o, c)
    | _, _ => none
  | _ => none

/-- A function's number, itself, its body: the tables of its drawn regions are right. -/
structure FnRow (P : Program) (bt : FuncId → Nat → List Nat) where
  num : FuncId
  fn : Func
  code : Code
  at' : P.funcs[num]? = some fn
  body : fn.body = some code
  stat : statAll (bt num) code = true
  has : HasBody P num

def endR (C : Cx) (fn : Func) (u : AM) : Option RR → Option (AE × AM × St × Log)
  | some r => match endsA C.T fn.results.toList r with
    | some e => some (e, u, r.σ, r.lg)
    | none => none
  | none => none

def deferF (C : Cx) (orc : Orc) (bt : FuncId → Nat → List Nat) (n : Nat) (g : FnRow P bt) (args : List Value) (u : AM) (σ : St) : Option (AE × AM × St × Log) :=
  match recHead g.code with
  | some (o, c) => endR C g.fn (recoverA u).2 (run C orc (bt g.num) false n (.code c) ((start args g.fn.ntmps).put o.dst (recoverA u).1) σ)
  | none => endR C g.fn u (run C orc (bt g.num) false n (.code g.code) (start args g.fn.ntmps) σ)

def leaveEnd (T : TT) (fn : Func) (ts : List Value) (u : AM) (σ : St) : Option (AE × St × Log) :=
  match u with
  | .returning => match resA T σ ts fn.results.toList with
    | some v => some (.ret v, σ, [])
    | none => none
  | .panicking c => some (.panic c, σ, [])

def leaveStep (k : AM → St → Option (AE × St × Log)) : Option (AE × AM × St × Log) → Option (AE × St × Log)
  | some (e, u₁, σ₁, l₁) => match nextMode e u₁ with
    | some u₂ => match k u₂ σ₁ with
      | some (e₂, σ₂, l₂) => some (e₂, σ₂, l₁ ++ l₂)
      | none => none
    | none => none
  | none => none

def leavePre (l : Log) : Option (AE × St × Log) → Option (AE × St × Log)
  | some (e, σ, lg) => some (e, σ, l ++ lg)
  | none => none

def leaveA (C : Cx) (orc : Orc) (bt : FuncId → Nat → List Nat) (funcs : FuncId → Option (FnRow P bt)) (n : Nat) (fn : Func) (ts : List Value) : List Deferred → AM → St → Option (AE × St × Log)
  | [], u, σ => leaveEnd C.T fn ts u σ
  | d :: ds, u, σ => match d.target, d.args with
    | .fn (.func f) cap, args => match funcs f with
      | some g => match Nat.beq g.num f with
        | true => leaveStep (leaveA C orc bt funcs n fn ts ds) (deferF C orc bt n g (args.toList ++ cap.toList) u σ)
        | false => none
      | none => none
    | .collected r, ⟨[]⟩ => match σ.get r with
      | some (.deferred false) => leavePre [r] (leaveA C orc bt funcs n fn ts ds u (σ.set r (.deferred true)))
      | _ => none
    | _, _ => none

def modeOf : AX → Option AM
  | .norm => some .returning
  | .ret => some .returning
  | .panic c => some (.panicking c)
  | _ => none

def leaveR (C : Cx) (orc : Orc) (bt : FuncId → Nat → List Nat) (funcs : FuncId → Option (FnRow P bt)) (n : Nat) (fn : Func) : Option RR → Option (AE × St × Log)
  | some r => match modeOf r.x with
    | some u => match leaveA C orc bt funcs n fn r.fr.ts r.fr.ds u r.σ with
      | some (e, σ', lg) => some (e, σ', r.lg ++ lg)
      | none => none
    | none => none
  | none => none

/-- A round, run. -/
def roundBody (C : Cx) (orc : Orc) (bt : Nat → List Nat) (n : Nat) (l : Nat) (body : Code) (fr : Fr) (lg : Log) (σ : St) : Option AObj → Option (AE × St × Log)
  | some (.loop L) => match L.state with
    | .ready => match run C orc bt true n (.code body) fr (σ.set l (.loop { L with state := .busy, pending := L.pending })) with
      | some ⟨x, _, σ₃, lg₃⟩ => match σ₃.get l, jumpOf x with
        | some (.loop L₃), some j => some (.ret (.bool j.isNone), σ₃.set l (.loop { L₃ with state := readyIf j, pending := j }), lg ++ ([l] ++ (lg₃ ++ [l])))
        | _, _ => none
      | none => none
    | _ => none
  | _ => none

def roundL (C : Cx) (orc : Orc) (bt : Nat → List Nat) (n : Nat) (l : Nat) (args : List Value) (σ : St) (L : Loop) : Option (AE × St × Log) :=
  match Nat.beq args.length L.params.size && statAll bt L.assign && statAll bt L.body with
  | true => match run C orc bt true n (.code L.assign) ⟨roundTs L.tmps.toList L.params.toList args, []⟩ σ with
    | some ⟨.norm, fr₁, σ₁, lg₁⟩ => roundBody C orc bt n l L.body fr₁ lg₁ σ₁ (σ₁.get l)
    | _ => none
  | false => none

def roundR (C : Cx) (orc : Orc) (bt : FuncId → Nat → List Nat) (n : Nat) (l : Nat) (args : List Value) (σ : St) : Option (AE × St × Log) :=
  match σ.get l with
  | some (.loop L) => roundL C orc (bt L.fn) n l args σ L
  | _ => none

def callR (C : Cx) (orc : Orc) (bt : FuncId → Nat → List Nat) (funcs : FuncId → Option (FnRow P bt)) (n : Nat) (f : FuncId) (args : List Value) (σ : St) : Option (AE × St × Log) :=
  match funcs f with
  | some g => match Nat.beq g.num f with
    | true => leaveR C orc bt funcs n g.fn (run C orc (bt g.num) false n (.code g.code) (start args g.fn.ntmps) σ)
    | false => none
  | none => none

/-- Calls by depth. -/
def orcN (C : Cx) (bt : FuncId → Nat → List Nat) (funcs : FuncId → Option (FnRow P bt)) (n : Nat) : Nat → Orc
  | 0 => ⟨fun _ _ _ => none, fun _ _ _ => none⟩
  | d + 1 => ⟨fun f args σ => callR C (orcN C bt funcs n d) bt funcs n f args σ, fun l args σ => roundR C (orcN C bt funcs n d) bt n l args σ⟩

theorem deferF_sound {C : Cx} {orc : Orc} (hC : C.Ok P) (hO : orc.Ok P) (hm : P.follows .mixedOrders = true) {bt : FuncId → Nat → List Nat} {n : Nat} {g : FnRow P bt} {args : List Value} {u : AM} {σ : St} {e : AE} {u' : AM} {σ' : St} {lg : Log}
    (h : deferF C orc bt n g args u σ = some (e, u', σ', lg)) : DDefer P g.num args u σ e u' σ' lg := by
  obtain ⟨num, fn, code, hf, hb, hs, _⟩ := g
  unfold deferF at h
  simp only at h
  split at h
  · rename_i o c hr
    unfold recHead at hr
    split at hr
    · rename_i id o' c'
      split at hr
      · rename_i tys hop hg
        cases hr
        unfold endR at h
        split at h
        · rename_i r hrun
          split at h
          · rename_i e' he
            cases h
            simp only [statAll, Bool.and_eq_true] at hs
            exact DDefer.of_recover hC.T ⟨hf, hb⟩ hop hg (run_sound hC hO hm n (.code c) _ _ r hs.2 hrun) he
          · cases h
        · cases h
      · cases hr
    · cases hr
  · unfold endR at h
    split at h
    · rename_i r hrun
      split at h
      · rename_i e' he
        cases h
        exact DDefer.of_code hC.T ⟨hf, hb⟩ u (run_sound hC hO hm n (.code code) _ _ r hs hrun) he
      · cases h
    · cases h

theorem leaveA_sound {C : Cx} {orc : Orc} (hC : C.Ok P) (hO : orc.Ok P) (hm : P.follows .mixedOrders = true) {bt : FuncId → Nat → List Nat} {funcs : FuncId → Option (FnRow P bt)} {n : Nat} {fn : Func} {ts : List Value} :
    ∀ (ds : List Deferred) (u : AM) (σ : St) (e : AE) (σ' : St) (lg : Log), leaveA C orc bt funcs n fn ts ds u σ = some (e, σ', lg) → DLeave P fn ts ds u σ e σ' lg
  | [], u, σ, e, σ', lg, h => by
    simp only [leaveA, leaveEnd] at h
    split at h
    · split at h
      · rename_i v hv
        cases h
        exact DLeave.returned hC.T hv
      · cases h
    · cases h
      exact DLeave.panicked
  | d :: ds, u, σ, e, σ', lg, h => by
    obtain ⟨tgt, dargs⟩ := d
    simp only [leaveA] at h
    split at h
    · rename_i f cap args
      split at h
      · rename_i g hg
        split at h
        · rename_i hbeq
          have := Nat.eq_of_beq_eq_true hbeq
          subst this
          unfold leaveStep at h
          split at h
          · rename_i e₁ u₁ σ₁ l₁ hd
            split at h
            · rename_i u₂ hn
              split at h
              · rename_i e₂ σ₂ l₂ hk
                cases h
                exact DLeave.cons rfl g.has (deferF_sound hC hO hm hd) hn (leaveA_sound hC hO hm ds u₂ σ₁ _ _ _ hk)
              · cases h
            · cases h
          · cases h
        · cases h
      · cases h
    · rename_i r
      split at h
      · rename_i hr
        unfold leavePre at h
        split at h
        · rename_i e₂ σ₂ l₂ hk
          cases h
          exact DLeave.collected hr (leaveA_sound hC hO hm ds u _ _ _ _ hk)
        · cases h
      · cases h
    · cases h

theorem callR_sound {C : Cx} {orc : Orc} (hC : C.Ok P) (hO : orc.Ok P) (hm : P.follows .mixedOrders = true) {bt : FuncId → Nat → List Nat} {funcs : FuncId → Option (FnRow P bt)} {n : Nat} {f : FuncId} {args : List Value} {σ : St} {e : AE} {σ' : St} {lg : Log}
    (h : callR C orc bt funcs n f args σ = some (e, σ', lg)) : DCall P f args σ e σ' lg := by
  unfold callR at h
  split at h
  · rename_i g hf
    split at h
    · rename_i hbeq
      have := Nat.eq_of_beq_eq_true hbeq
      subst this
      unfold leaveR at h
      split at h
      · rename_i r hr
        split at h
        · rename_i u hu
          split at h
          · rename_i e' σ'' lg' hl
            cases h
            refine DCall.of_code_defers ⟨g.at', g.body⟩ (run_sound hC hO hm n (.code g.code) _ _ r g.stat hr) ?_ (leaveA_sound hC hO hm _ _ _ _ _ _ hl)
            unfold modeOf at hu
            split at hu <;> cases hu <;> simp_all
          · cases h
        · cases h
      · cases h
    · cases h
  · cases h

theorem roundR_sound {C : Cx} {orc : Orc} (hC : C.Ok P) (hO : orc.Ok P) (hm : P.follows .mixedOrders = true) {bt : FuncId → Nat → List Nat} {n : Nat} {l : Nat} {args : List Value} {σ : St} {e : AE} {σ' : St} {lg : Log}
    (h : roundR C orc bt n l args σ = some (e, σ', lg)) : DRound P l args σ e σ' lg := by
  unfold roundR at h
  split at h
  · rename_i L hg
    unfold roundL at h
    split at h
    · rename_i hchk
      simp only [Bool.and_eq_true] at hchk
      split at h
      · rename_i fr₁ σ₁ lg₁ hr₁
        unfold roundBody at h
        split at h
        · rename_i _ L₁ hg₁
          split at h
          · rename_i hst
            split at h
            · rename_i x fr₃ σ₃ lg₃ hr₃
              split at h
              · rename_i L₃ j hg₃ hj
                cases h
                exact DRound.of_code hg (Nat.eq_of_beq_eq_true hchk.1.1) (run_sound hC hO hm n (.code L.assign) _ _ _ hchk.1.2 hr₁) hg₁ hst (run_sound hC hO hm n (.code L.body) _ _ _ hchk.2 hr₃) hg₃ hj
              · cases h
            · cases h
          · cases h
        · cases h
      · cases h
    · cases h
  · cases h

theorem orcN_ok {C : Cx} (hC : C.Ok P) (hm : P.follows .mixedOrders = true) {bt : FuncId → Nat → List Nat} {funcs : FuncId → Option (FnRow P bt)} {n : Nat} : ∀ d : Nat, (orcN C bt funcs n d).Ok P
  | 0 => ⟨fun _ _ _ _ _ _ h => (by cases h), fun _ _ _ _ _ _ h => (by cases h)⟩
  | d + 1 => ⟨fun _ _ _ _ _ _ h => callR_sound hC (orcN_ok hC hm d) hm h, fun _ _ _ _ _ _ h => roundR_sound hC (orcN_ok hC hm d) hm h⟩

/-- The state that speaks of nothing. -/
def St.nil : St := ⟨.leaf, 0⟩
theorem St.get_nil (b : Nat) : St.nil.get b = none := Tr.get_leaf _

theorem plainL_forget {ρ ρ₀ : Ren} (h0 : ∀ b, ρ₀ b = none) : ∀ {vs vs' : List Value}, plainL vs = true → VRL ρ vs vs' → VRL ρ₀ vs vs'
  | [], _, _, h => by cases h; exact .nil
  | v :: vs, _, hp, h => by
    simp only [plainL, Bool.and_eq_true] at hp
    cases h with
    | cons h t => exact .cons (VR.forget (plain_VR ρ₀ v hp.1) h fun b l hb => by rw [h0] at hb; cases hb) (plainL_forget h0 hp.2 t)

/-- A call that is handed no block runs alike beside all that is there. -/
theorem DCall.alone {f : FuncId} {args : List Value} {σ' : St} {v : Value} {lg : Log} (h : DCall P f args St.nil (.ret v) σ' lg) (ha : plainL args = true) (hv : plain v = true) (σ : St) : DCall P f args σ (.ret v) σ [] :=
  ⟨logged_self _ _, fun ρ w args' hw hargs => by
    let ρ₀ : Ren := fun _ => none
    have hw0 : WR ρ₀ St.nil w.heap := ⟨fun b l hl => (by cases hl), fun b l o hl => (by cases hl), fun b b' l l' hl => (by cases hl)⟩
    obtain ⟨h1, h2⟩ := h.2 ρ₀ w args' hw0 (plainL_forget (fun _ => rfl) ha hargs)
    refine ⟨h1, fun cs hr => ?_⟩
    obtain ⟨e, w', fr, ⟨ρ', he, hA⟩, rest⟩ := h2 cs hr
    have hsame : ∀ k, k < w.heap.size → w'.heap[k]? = w.heap[k]? := fun k hk => hA.fr k hk fun b l hl => (by cases hl)
    refine ⟨e, w', fr, ⟨ρ, ?_, ?_⟩, rest⟩
    · cases e with
      | returned v' =>
        exact (VR.forget (plain_VR ρ₀ v hv) he fun b l hb => by cases hb).mono fun b l hb => by cases hb
      | panicked c => exact False.elim he
      | outgrown => exact False.elim he
    · exact { ext := fun _ _ => rfl
              wr := ⟨fun b l hl => ⟨(hw.dom b l hl).1, Nat.lt_of_lt_of_le (hw.dom b l hl).2 hA.size⟩, fun b l o hl ho => (hw.obj b l o hl ho).of_block (hsame _ (hw.dom b l hl).2), hw.inj⟩
              size := hA.size
              fr := fun k hk _ => hsame k hk
              nxt := Nat.le_refl _
              kept := fun _ _ _ => rfl
              dead := fun _ _ h => h
              fresh := fun b l hb hl => absurd (hw.dom b l hl).1 (by omega)
              tape := hA.tape
              os := hA.os
              out := hA.out }⟩

end Go.Ab
