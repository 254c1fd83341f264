/- Functions: what they hand back, their deferred calls, entered as a call or as a deferred call. -/
import Derived.Test.YtlipmhhndhhgdaaGreatFo
import Derived.RangeFuncLeaves
set_option linter.unusedSimpArgs false
set_option linter.unusedVariables false
namespace Go.Ab

variable {P : Program} {T : TT}

/-! ### results -/
def resOne (T : TT) (σ : St) (ts : List Value) : ResultVar → Option Value
  | .tmp t => some (lget ts t)
  | .cell a t => match opLoad T σ t (lget ts a) with
    | some (.val v _) => some v
    | _ => none

def resList (T : TT) (σ : St) (ts : List Value) : List ResultVar → Option (List Value)
  | [] => some []
  | r :: rs => match resOne T σ ts r, resList T σ ts rs with
    | some v, some vs => some (v :: vs)
    | _, _ => none

def resA (T : TT) (σ : St) (ts : List Value) (rs : List ResultVar) : Option Value :=
  match resList T σ ts rs with
  | some [v] => some v
  | some vs => some (.tuple ⟨vs⟩)
  | none => none

def readR (tmps : Array Value) (r : ResultVar) : Sem Value :=
  match r with
  | .tmp t => pure (tmps.getD t undef)
  | .cell a t => do loadVar t (← asAddr (tmps.getD a undef))

theorem resOne_sound (hT : T.Ok P) {σ : St} {ts : List Value} {r : ResultVar} {v : Value} (h : resOne T σ ts r = some v) {ρ : Ren} {w : World} {tmps : Array Value} (hw : WR ρ σ w.heap) (ht : VRL ρ ts tmps.toList) :
    ∃ v', (readR tmps r).run P w = .ok v' w ∧ VR ρ v v' := by
  have get : ∀ t : Nat, VR ρ (lget ts t) (tmps.getD t undef) := fun t => by
    have := lget_VR ht t
    simpa [Array.getD_eq_getD_getElem?] using this
  cases r with
  | tmp t =>
    simp only [resOne, Option.some.injEq] at h
    subst h
    exact ⟨_, rfl, get t⟩
  | cell a t =>
    simp only [resOne] at h
    split at h
    · rename_i v₀ rd hl
      cases h
      let o : Oper := { dst := none, op := .load t (.tmp a), type := 0, pos := default, after := #[], guard := none }
      have hs := load_sound (P := P) hT (o := o) (ts := ts) (x := .tmp a) rfl rfl hl
      obtain ⟨v', h1, h2⟩ := (hs : SimVal P o ts σ _ rd) ρ w { tmps := tmps, defers := [] } ht (hw.reads rd)
      refine ⟨v', ?_, h2⟩
      simp only [readR]
      have e : (({ tmps := tmps, defers := [] } : Act).eval (.tmp a)) = tmps.getD a undef := rfl
      generalize hx : tmps.getD a undef = x at e ⊢
      have h1' : (execOp ({ tmps := tmps, defers := [] } : Act).eval o).run P w = .ok (.value v') w := h1
      simp only [execOp, o, Instr.loadAt, Instr.sureAddr, e] at h1'
      cases x with
      | pointer p =>
        cases p with
        | none => simp at h1'
        | some ad =>
          simp only [asAddr]
          simp only [pure_bind] at h1' ⊢
          cases hr : (loadVar t ad).run P w with
          | ok u w' => simp [hr] at h1' ⊢; exact h1'
          | halt x w' => simp [hr] at h1'
      | _ => simp at h1'
    · cases h

theorem resList_sound (hT : T.Ok P) {σ : St} {ts : List Value} {ρ : Ren} {w : World} {tmps : Array Value} (hw : WR ρ σ w.heap) (ht : VRL ρ ts tmps.toList) : ∀ {rs : List ResultVar} {vs : List Value}, resList T σ ts rs = some vs →
    ∃ vs' : List Value, (rs.mapM (readR tmps)).run P w = .ok vs' w ∧ VRL ρ vs vs'
  | [], vs, h => by
    simp only [resList, Option.some.injEq] at h
    subst h
    exact ⟨[], by simp, .nil⟩
  | r :: rs, vs, h => by
    simp only [resList] at h
    split at h
    · rename_i v vs₀ h1 h2
      cases h
      obtain ⟨v', a1, a2⟩ := resOne_sound hT h1 hw ht
      obtain ⟨vs', b1, b2⟩ := resList_sound hT hw ht h2
      refine ⟨v' :: vs', ?_, .cons a2 b2⟩
      rw [List.mapM_cons]
      simp [a1, b1]
    · cases h

theorem resA_sound (hT : T.Ok P) {σ : St} {ts : List Value} {fn : Func} {v : Value} (h : resA T σ ts fn.results.toList = some v) {ρ : Ren} {w : World} {tmps : Array Value} (hw : WR ρ σ w.heap) (ht : VRL ρ ts tmps.toList) :
    ∃ v', (results fn tmps).run P w = .ok v' w ∧ VR ρ v v' := by
  have key : ∀ vs, resList T σ ts fn.results.toList = some vs → ∃ vs' : List Value, (results fn tmps).run P w = .ok (if h : vs'.length = 1 then vs'[0] else .tuple ⟨vs'⟩) w ∧ VRL ρ vs vs' := fun vs hv => by
    obtain ⟨vs', h1, h2⟩ := resList_sound hT hw ht hv
    refine ⟨vs', ?_, h2⟩
    have e : results fn tmps = (do let vs ← fn.results.mapM (readR tmps); pure (if h : vs.size = 1 then vs[0] else .tuple vs)) := by
      unfold results
      exact congrArg (fun g : ResultVar → Sem Value => (do let vs ← fn.results.mapM g; pure (if h : vs.size = 1 then vs[0] else .tuple vs) : Sem Value)) (funext fun r => by cases r <;> rfl)
    rw [e, Array.mapM_eq_mapM_toList]
    simp only [Sem.run_bind, Sem.run_map, h1, Result.andThen_ok, Sem.run_pure, List.size_toArray]
    simp
  unfold resA at h
  split at h
  · rename_i v₀ hv
    cases h
    obtain ⟨vs', h1, h2⟩ := key _ hv
    cases h2 with
    | cons a b => cases b; exact ⟨_, h1, a⟩
  · rename_i vs hne hv
    cases h
    obtain ⟨vs', h1, h2⟩ := key _ hv
    have hl : vs'.length ≠ 1 := by
      rw [← h2.length]
      intro e
      obtain ⟨x, hx⟩ := List.length_eq_one_iff.1 e
      exact hne x (by first | exact hx | rw [hv, hx])
    rw [dif_neg hl] at h1
    exact ⟨_, h1, .tuple h2⟩
  · cases h

/-! ### entering a function -/
def start (args : List Value) (n : Nat) : Fr := ⟨args ++ List.replicate (n - args.length) undef, []⟩

theorem start_FR {ρ : Ren} {args : List Value} {args' : Array Value} (h : VRL ρ args args'.toList) (n : Nat) : FR ρ (start args n) { tmps := args' ++ Array.replicate (n - args'.size) undef, defers := [] } := by
  refine ⟨?_, trivial⟩
  have hl : args'.size = args.length := by simpa using h.length.symm
  simp only [start, Array.toList_append, Array.toList_replicate, hl]
  exact h.append (VRL.replicate _ (undef_VR ρ))

/-- How a body that has no deferred call ends. -/
def endsA (T : TT) (rs : List ResultVar) (r : RR) : Option AE :=
  match r.fr.ds with
  | [] => match r.x with
    | .norm => (resA T r.σ r.fr.ts rs).map .ret
    | .ret => (resA T r.σ r.fr.ts rs).map .ret
    | .panic c => some (.panic c)
    | _ => none
  | _ => none

theorem DRL.nil_left {ρ : Ren} {ds : List Deferred} (h : DRL ρ [] ds) : ds = [] := by cases ds <;> first | rfl | exact h.elim

theorem endsA_post (hT : T.Ok P) {fn : Func} {r : RR} {e : AE} (h : endsA T fn.results.toList r = some e) {ρ : Ren} {σ : St} {w : World} {e' : Exit} {a' : Act} {w' : World} (k : after ρ σ w r e' a' w') :
    bodyPost P fn (fun e' w' => ∃ ρ', ER ρ' e e' ∧ Aft ρ σ w ρ' r.σ w') e' a' w' := by
  obtain ⟨ρ', h1, h2, h3⟩ := k
  unfold endsA at h
  split at h
  · rename_i hds
    have hd : a'.defers = [] := DRL.nil_left (hds ▸ h2.ds)
    have res : ∀ {e}, (resA T r.σ r.fr.ts fn.results.toList).map AE.ret = some e → ∃ v, (results fn a'.tmps).run P w' = .ok v w' ∧ ∃ ρ', ER ρ' e (.returned v) ∧ Aft ρ σ w ρ' r.σ w' := fun {e} he => by
      cases hr : resA T r.σ r.fr.ts fn.results.toList with
      | none => rw [hr] at he; cases he
      | some v =>
        rw [hr] at he; cases he
        obtain ⟨v', a1, a2⟩ := resA_sound hT hr h3.wr h2.ts
        exact ⟨v', a1, ρ', a2, h3⟩
    split at h
    · rename_i hx
      rw [hx] at h1
      have := XR.norm_iff h1
      subst this
      exact ⟨hd, res h⟩
    · rename_i hx
      rw [hx] at h1
      cases e' <;> try exact h1.elim
      exact ⟨hd, res h⟩
    · rename_i c hx
      rw [hx] at h1
      cases h
      cases e' <;> try exact h1.elim
      exact ⟨hd, ρ', h1, h3⟩
    · cases h
  · cases h

theorem MR.mono {ρ ρ' : Ren} (hl : ρ.le ρ') {u : AM} {u' : FrameMode} (h : MR ρ u u') : MR ρ' u u' := by
  cases u <;> cases u' <;> first | exact False.elim h | exact trivial | exact CR.mono hl h

structure FnIs (P : Program) (f : FuncId) (fn : Func) (c : Code) : Prop where
  at' : P.funcs[f]? = some fn
  body : fn.body = some c

theorem DCall.of_code (hT : T.Ok P) {f : FuncId} {fn : Func} {c : Code} (hf : FnIs P f fn c) {args : List Value} {σ : St} {r : RR} {e : AE} (h : DC P false c (start args fn.ntmps) σ r) (he : endsA T fn.results.toList r = some e) :
    DCall P f args σ e r.σ r.lg :=
  ⟨h.1, fun ρ w _ hw ha => callsIn_of_wp hf.at' hf.body trivial (wpIn_mono (h.2 none (fun _ => rfl) ρ w _ hw (start_FR ha _)) fun _ _ _ k => endsA_post hT he k)⟩

/-- Entered as a deferred call, without a recover of its own. -/
theorem DDefer.of_code (hT : T.Ok P) {f : FuncId} {fn : Func} {c : Code} (hf : FnIs P f fn c) {args : List Value} {σ : St} {r : RR} {e : AE} (u : AM) (h : DC P false c (start args fn.ntmps) σ r) (he : endsA T fn.results.toList r = some e) :
    DDefer P f args u σ e u r.σ r.lg :=
  ⟨h.1, fun ρ w _ um hw ha hu => by
    have := callsDIn_of_wp (u := um) hf.at' hf.body trivial (wpIn_mono (h.2 none (fun _ => rfl) ρ w _ hw (start_FR ha _)) fun _ _ _ k => endsA_post hT he k)
    refine ⟨this.1, fun c₀ cs hm hr => ?_⟩
    obtain ⟨e', u', w', fr, ⟨hu', ρ', h1, h2⟩, rest⟩ := this.2 c₀ cs hm hr
    subst hu'
    exact ⟨e', u', w', fr, ⟨ρ', h1, MR.mono (h2.le hw) hu, h2⟩, rest⟩⟩

/-! ### recover -/
def recoverA : AM → Value × AM
  | .panicking ({ v, recovered := false, goexit := false } :: older) => (v, .panicking ({ v, recovered := true } :: older))
  | u => (.nilIface, u)

theorem recoverA_spec {ρ : Ren} {u : AM} {c₀ : Frame} {cs : List Frame} (h : MR ρ u c₀.mode) :
    (∃ v' u', recoverD (c₀ :: cs) = some (v', { c₀ with mode := u' } :: cs) ∧ VR ρ (recoverA u).1 v' ∧ MR ρ (recoverA u).2 u') ∨ (recoverD (c₀ :: cs) = none ∧ (recoverA u).1 = .nilIface ∧ MR ρ (recoverA u).2 c₀.mode) := by
  generalize hm : c₀.mode = m at h
  cases u with
  | returning =>
    cases m <;> try exact h.elim
    exact .inr ⟨by simp [recoverD, hm], rfl, trivial⟩
  | panicking ch =>
    cases m <;> try exact h.elim
    rename_i ch'
    have hc : CR ρ ch ch' := h
    cases ch with
    | nil =>
      cases ch' with
      | nil => exact .inr ⟨by simp [recoverD, hm], rfl, trivial⟩
      | cons _ _ => exact hc.elim
    | cons x xs =>
      cases ch' with
      | nil => exact hc.elim
      | cons y ys =>
        obtain ⟨⟨h1, h2, h3⟩, h4⟩ := hc
        obtain ⟨xv, xr, xg⟩ := x
        obtain ⟨yv, yr, yg⟩ := y
        simp only at h1 h2 h3
        subst h2 h3
        cases xr with
        | false =>
          cases xg with
          | false =>
            refine .inl ⟨yv, .panicking ({ v := yv, recovered := true } :: ys), by simp [recoverD, hm], h1, ⟨h1, rfl, rfl⟩, h4⟩
          | true => exact .inr ⟨by simp [recoverD, hm], rfl, ⟨h1, rfl, rfl⟩, h4⟩
        | true => exact .inr ⟨by simp [recoverD, hm], rfl, ⟨h1, rfl, rfl⟩, h4⟩

/-- Entered as a deferred call, with a recover ahead of all else. -/
theorem DDefer.of_recover (hT : T.Ok P) {f : FuncId} {fn : Func} {c : Code} {id : Nat} {o : Oper} {tys : Array TypeId} (hf : FnIs P f fn (.seq (.region id #[o] false) c)) (hop : o.op = .call { callee := .builtin .recover, args := #[], argTypes := tys }) (hg : o.guard = none)
    {args : List Value} {σ : St} {u : AM} {r : RR} {e : AE} (h : DC P false c ((start args fn.ntmps).put o.dst (recoverA u).1) σ r) (he : endsA T fn.results.toList r = some e) :
    DDefer P f args u σ e (recoverA u).2 r.σ r.lg :=
  ⟨h.1, fun ρ w args' um hw ha hu => callsDIn_of_wpSIn hf.at' hf.body trivial fun c₀ cs hm => by
    have hrec : ∀ a : Act, (execOp a.eval o).run P w = .ok .recover w := fun a => recover_sound (P := P) (o := o) (ts := []) (σ := σ) hop w a
    have habout : ∀ (a : Act) f, o.about P w a.eval = some f → (fence none).fn f := fun _ _ _ => trivial
    have hwant : ∀ t : Array Value, Region.wanted o (yielded #[o] t) = true := fun a => by simp [Region.wanted, hg]
    have rest : ∀ (v' : Value) (u' : FrameMode), VR ρ (recoverA u).1 v' → MR ρ (recoverA u).2 u' →
        c.wpSIn (fence none) 0 P (bodyPostS P fn c₀ cs fun e' u' w' => ∃ ρ', ER ρ' e e' ∧ MR ρ' (recoverA u).2 u' ∧ Aft ρ σ w ρ' r.σ w')
          (({ tmps := args' ++ Array.replicate (fn.ntmps - args'.size) undef, defers := [] } : Act).put o.dst v') ({ c₀ with mode := u' } :: cs) w := fun v' u' hv hu' => by
      refine wpSIn_of_wpIn rfl (wpIn_mono (h.2 none (fun _ => rfl) ρ w _ hw ((start_FR ha _).put o.dst hv)) fun e' a' w' k => ?_)
      have hp := endsA_post hT he k
      cases e' with
      | normal => obtain ⟨h1, v, h2, ρ', h3, h4⟩ := hp; exact ⟨h1, u', rfl, v, h2, ρ', h3, MR.mono (h4.le hw) hu', h4⟩
      | ret => obtain ⟨h1, v, h2, ρ', h3, h4⟩ := hp; exact ⟨h1, u', rfl, v, h2, ρ', h3, MR.mono (h4.le hw) hu', h4⟩
      | panic ch => obtain ⟨h1, ρ', h3, h4⟩ := hp; exact ⟨h1, u', rfl, ρ', h3, MR.mono (h4.le hw) hu', h4⟩
      | exit i => exact hp.elim
      | goto i => exact hp.elim
      | outgrown => obtain ⟨ρ', h3, _⟩ := hp; cases e <;> exact False.elim h3
    refine wpSIn_seq (wpSIn_region ?_)
    show wpOpsSIn (fence none) 0 P #[o] _ [0] _ _ _
    simp only [wpOpsSIn]
    have e0 : (#[o] : Array Oper)[0]? = some o := rfl
    rw [e0]
    simp only
    refine ⟨habout _, ?_⟩
    rw [if_pos (hwant _), hrec]
    simp only
    rcases recoverA_spec (cs := cs) (hm ▸ hu : MR ρ u c₀.mode) with ⟨v', u', h1, h2, h3⟩ | ⟨h1, h2, h3⟩
    · rw [h1]
      exact rest v' u' h2 h3
    · rw [h1]
      exact rest .nilIface c₀.mode (by rw [h2]; exact .nilIface) h3⟩

/-! ### leaving a function with deferred calls -/
def settA : AM → Option AM
  | .returning => some .returning
  | .panicking [] => some (.panicking [])
  | .panicking (x :: older) => if x.recovered then (if older.all (!·.goexit) then some .returning else none) else some (.panicking (x :: older))

def raisedA (u : AM) (chain : List PanicEntry) : AM :=
  match u with
  | .panicking old => .panicking (chain ++ old)
  | .returning => .panicking chain

theorem CR.append {ρ : Ren} : ∀ {a b c d : List PanicEntry}, CR ρ a b → CR ρ c d → CR ρ (a ++ c) (b ++ d)
  | [], [], _, _, _, h => h
  | _ :: _, _ :: _, _, _, h, h' => ⟨h.1, CR.append h.2 h'⟩
  | [], _ :: _, _, _, h, _ => h.elim
  | _ :: _, [], _, _, h, _ => h.elim

theorem raisedA_MR {ρ : Ren} {u : AM} {u' : FrameMode} {c c' : List PanicEntry} (h : MR ρ u u') (hc : CR ρ c c') : MR ρ (raisedA u c) (raised u' c') := by
  cases u <;> cases u' <;> first | exact False.elim h | skip
  · exact hc
  · exact CR.append hc h

theorem CR.all {ρ : Ren} : ∀ {a b : List PanicEntry}, CR ρ a b → a.all (!·.goexit) = b.all (!·.goexit)
  | [], [], _ => rfl
  | x :: xs, y :: ys, h => by simp only [List.all_cons, h.1.2.2, CR.all h.2]
  | [], _ :: _, h => h.elim
  | _ :: _, [], h => h.elim

theorem settA_MR {ρ : Ren} {u u₁ : AM} {u' : FrameMode} (h : MR ρ u u') (hs : settA u = some u₁) : MR ρ u₁ (settle u') := by
  cases u with
  | returning =>
    cases u' <;> try exact h.elim
    cases hs
    exact trivial
  | panicking ch =>
    cases u' <;> try exact h.elim
    rename_i ch'
    have hc : CR ρ ch ch' := h
    cases ch with
    | nil =>
      cases ch' with
      | nil => cases hs; exact trivial
      | cons _ _ => exact hc.elim
    | cons x xs =>
      cases ch' with
      | nil => exact hc.elim
      | cons y ys =>
        simp only [settA] at hs
        obtain ⟨h1, h4⟩ := hc
        obtain ⟨yv, yr, yg⟩ := y
        split at hs
        · rename_i hr
          split at hs
          · rename_i ha
            cases hs
            have hyr : yr = true := h1.2.1.symm.trans hr
            subst hyr
            have hd : ys.dropWhile (!·.goexit) = [] := by
              rw [CR.all h4] at ha
              have gen : ∀ l : List PanicEntry, l.all (!·.goexit) = true → l.dropWhile (!·.goexit) = [] := fun l => by
                induction l with
                | nil => intro _; rfl
                | cons z l ih => intro h; simp only [List.all_cons, Bool.and_eq_true] at h; rw [List.dropWhile_cons, if_pos h.1]; exact ih h.2
              exact gen ys ha
            simp only [settle, hd]
            trivial
          · cases hs
        · rename_i hr
          cases hs
          have hyr : yr = false := by
            have := h1.2.1
            simp only at this
            rw [← this]; simpa using hr
          subst hyr
          exact ⟨h1, h4⟩

def DLeave (P : Program) (fn : Func) (ts : List Value) (ds : List Deferred) (u : AM) (σ : St) (e : AE) (σ' : St) (lg : Log) : Prop :=
  Logged σ σ' lg ∧ ∀ (ρ : Ren) (w : World) (tmps : Array Value) (ds' : List Deferred) (um : FrameMode), WR ρ σ w.heap → VRL ρ ts tmps.toList → DRL ρ ds ds' → MR ρ u um →
    LeavesInM (fence none) 0 P fn tmps (fun e' w' => ∃ ρ', ER ρ' e e' ∧ Aft ρ σ w ρ' σ' w') ds' um w

theorem DLeave.returned (hT : T.Ok P) {fn : Func} {ts : List Value} {σ : St} {v : Value} (h : resA T σ ts fn.results.toList = some v) : DLeave P fn ts [] .returning σ (.ret v) σ [] :=
  ⟨logged_self _ _, fun ρ w tmps ds' um hw ht hd hu => by
    cases DRL.nil_left hd
    cases um <;> try exact False.elim hu
    obtain ⟨v', h1, h2⟩ := resA_sound hT h hw ht
    exact ⟨v', h1, ρ, h2, Aft.refl hw⟩⟩

theorem DLeave.panicked {fn : Func} {ts : List Value} {σ : St} {c : List PanicEntry} : DLeave P fn ts [] (.panicking c) σ (.panic c) σ [] :=
  ⟨logged_self _ _, fun ρ w tmps ds' um hw ht hd hu => by
    cases DRL.nil_left hd
    cases um <;> try exact False.elim hu
    exact ⟨ρ, hu, Aft.refl hw⟩⟩

/-- The mode behind a deferred call. -/
def nextMode (e : AE) (u : AM) : Option AM :=
  match e with
  | .ret _ => settA u
  | .panic c => some (raisedA u c)

theorem LeavesInM.mono {F : Fence} {n : Nat} {fn : Func} {tmps : Array Value} {R R' : Ending → World → Prop} (hR : ∀ e w, R e w → R' e w) : ∀ (ds : List Deferred) (u : FrameMode) (w : World), LeavesInM F n P fn tmps R ds u w → LeavesInM F n P fn tmps R' ds u w := by
  intro ds
  induction ds with
  | nil =>
    intro u w h
    cases u with
    | run => exact h
    | returning => obtain ⟨v, h1, h2⟩ := h; exact ⟨v, h1, hR _ _ h2⟩
    | panicking c => exact hR _ _ h
  | cons d ds ih =>
    intro u w h
    obtain ⟨h0, h⟩ := h
    refine ⟨h0, ?_⟩
    rcases h with ⟨r, w', h1, h2, h3⟩ | ⟨hn, fv, cap, f, args, h1, h2, h3, h4, h5⟩
    · exact .inl ⟨r, w', h1, h2, ih _ _ h3⟩
    · refine .inr ⟨hn, fv, cap, f, args, h1, h2, h3, h4, fun c cs hm hr => ?_⟩
      obtain ⟨e, u', w', fr, hq, rest⟩ := h5 c cs hm hr
      refine ⟨e, u', w', fr, ?_, rest⟩
      cases e with
      | returned v => exact ih _ _ hq
      | panicked c => exact ih _ _ hq
      | outgrown => exact hR _ _ hq

theorem DLeave.cons {fn : Func} {ts : List Value} {ds : List Deferred} {d : Deferred} {f : FuncId} {cap : Array Value} {u u₁ u₂ : AM} {σ σ₁ σ₂ : St} {e₁ e₂ : AE} {l₁ l₂ : Log}
    (hd : d.target = .fn (.func f) cap) (hb : HasBody P f) (h : DDefer P f (d.args.toList ++ cap.toList) u σ e₁ u₁ σ₁ l₁) (hn : nextMode e₁ u₁ = some u₂) (k : DLeave P fn ts ds u₂ σ₁ e₂ σ₂ l₂) :
    DLeave P fn ts (d :: ds) u σ e₂ σ₂ (l₁ ++ l₂) :=
  ⟨h.1.trans k.1, fun ρ w tmps ds' um hw ht hds hu => by
    cases ds' with
    | nil => exact False.elim hds
    | cons d' ds' =>
      obtain ⟨hd1, hd2⟩ := hds
      rcases hd1 with ⟨f', c, c', h1, h2, h3, h4⟩ | ⟨r, l, _, h2, _⟩
      · rw [hd] at h1
        simp only [Target.fn.injEq, Fn.func.injEq] at h1
        obtain ⟨rfl, rfl⟩ := h1
        have hargs : VRL ρ (d.args.toList ++ cap.toList) (d'.args ++ c').toList := by simpa using h4.append h3
        have hcall := h.2 ρ w (d'.args ++ c') um hw hargs hu
        refine ⟨by rintro rfl; cases u <;> exact False.elim hu, .inr ⟨fun hdp => by simp [fence] at hdp, .func f, c', f, d'.args ++ c', h2, ?_, fun _ _ => trivial, hcall.1, fun c₀ cs hm hr => ?_⟩⟩
        · rw [h2]; simp only [invoke]; exact callFunc_run hb _ w
        · obtain ⟨e', u', w', fr, ⟨ρ', a1, a2, a3⟩, rest⟩ := hcall.2 c₀ cs hm hr
          refine ⟨e', u', w', fr, ?_, rest⟩
          have go : ∀ um', MR ρ' u₂ um' → LeavesInM (fence none) 0 P fn tmps (fun e' w' => ∃ ρ', ER ρ' e₂ e' ∧ Aft ρ σ w ρ' σ₂ w') ds' um' w' := fun um' hum' =>
            LeavesInM.mono (fun _ _ ⟨ρ₂, b1, b2⟩ => ⟨ρ₂, b1, a3.trans b2⟩) _ _ _ (k.2 ρ' w' tmps ds' um' a3.wr (ht.mono (a3.le hw)) (hd2.mono (a3.le hw)) hum')
          cases e₁ with
          | ret v =>
            cases e' with
            | returned v' => exact go _ (settA_MR a2 hn)
            | panicked c => exact False.elim a1
            | outgrown => exact False.elim a1
          | panic ch =>
            cases e' with
            | returned v' => exact False.elim a1
            | panicked c =>
              simp only [nextMode, Option.some.injEq] at hn
              subst hn
              exact go _ (raisedA_MR a2 a1)
            | outgrown => exact False.elim a1
      · rw [h2] at hd; simp at hd⟩

theorem DCall.of_code_defers {f : FuncId} {fn : Func} {c : Code} (hf : FnIs P f fn c) {args : List Value} {σ σ' : St} {r : RR} {e : AE} {u : AM} {lg : Log} (h : DC P false c (start args fn.ntmps) σ r)
    (hx : (r.x = .norm ∨ r.x = .ret) ∧ u = .returning ∨ ∃ ch, r.x = .panic ch ∧ u = .panicking ch) (he : DLeave P fn r.fr.ts r.fr.ds u r.σ e σ' lg) : DCall P f args σ e σ' (r.lg ++ lg) :=
  ⟨h.1.trans he.1, fun ρ w _ hw ha => callsIn_of_wp_marks hf.at' hf.body trivial (wpIn_mono (h.2 none (fun _ => rfl) ρ w _ hw (start_FR ha _)) fun e' a' w' ⟨ρ', h1, h2, h3⟩ => by
    have go : ∀ um, MR ρ' u um → LeavesInM (fence none) 0 P fn a'.tmps (fun e' w' => ∃ ρ', ER ρ' e e' ∧ Aft ρ σ w ρ' σ' w') a'.defers um w' := fun um hum =>
      LeavesInM.mono (fun _ _ ⟨ρ₂, b1, b2⟩ => ⟨ρ₂, b1, h3.trans b2⟩) _ _ _ (he.2 ρ' w' a'.tmps a'.defers um h3.wr h2.ts h2.ds hum)
    rcases hx with ⟨hx, rfl⟩ | ⟨ch, hx, rfl⟩
    · rcases hx with hx | hx
      · rw [hx] at h1
        cases e' <;> try exact False.elim h1
        exact go _ trivial
      · rw [hx] at h1
        cases e' <;> try exact False.elim h1
        exact go _ trivial
    · rw [hx] at h1
      cases e' <;> try exact False.elim h1
      exact go _ h1)⟩

end Go.Ab
