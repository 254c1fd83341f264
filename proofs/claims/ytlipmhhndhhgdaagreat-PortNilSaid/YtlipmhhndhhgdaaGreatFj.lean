/- A function's code as a function of the abstract state: regions in the text's order, branches, loops, blocks, scopes; and what such an answer says of the model. -/
import Derived.Test.YtlipmhhndhhgdaaGreatFi
set_option linter.unusedSimpArgs false
set_option linter.unusedVariables false
namespace Go.Ab

variable {P : Program} {T : TT}

abbrev Log := List Nat

/-- How code is left. -/
inductive AX where
  | norm
  | exit (id : Nat)
  | goto (l : Nat)
  | ret
  | panic (chain : List PanicEntry)

/-- How a call ends. -/
inductive AE where
  | ret (v : Value)
  | panic (chain : List PanicEntry)

/-- How a function that is left goes. -/
inductive AM where
  | returning
  | panicking (chain : List PanicEntry)

structure Fr where
  ts : List Value
  ds : List Deferred

def Fr.put (fr : Fr) (dst : Option Tmp) (v : Value) : Fr :=
  match dst with
  | some d => { fr with ts := fr.ts.set d v }
  | none => fr

/-! ### relations -/
def CR (ρ : Ren) : List PanicEntry → List PanicEntry → Prop
  | [], [] => True
  | x :: xs, y :: ys => (VR ρ x.v y.v ∧ x.recovered = y.recovered ∧ x.goexit = y.goexit) ∧ CR ρ xs ys
  | _, _ => False
theorem CR.mono {ρ ρ' : Ren} (hl : ρ.le ρ') : ∀ {a b : List PanicEntry}, CR ρ a b → CR ρ' a b
  | [], [], _ => trivial
  | _ :: _, _ :: _, h => ⟨⟨h.1.1.mono hl, h.1.2⟩, CR.mono hl h.2⟩
  | [], _ :: _, h => h.elim
  | _ :: _, [], h => h.elim

def XR (ρ : Ren) : AX → Exit → Prop
  | .norm, .normal => True
  | .exit i, .exit j => i = j
  | .goto i, .goto j => i = j
  | .ret, .ret => True
  | .panic c, .panic c' => CR ρ c c'
  | _, _ => False

def ER (ρ : Ren) : AE → Ending → Prop
  | .ret v, .returned v' => VR ρ v v'
  | .panic c, .panicked c' => CR ρ c c'
  | _, _ => False

def MR (ρ : Ren) : AM → FrameMode → Prop
  | .returning, .returning => True
  | .panicking c, .panicking c' => CR ρ c c'
  | _, _ => False

structure FR (ρ : Ren) (fr : Fr) (a : Act) : Prop where
  ts : VRL ρ fr.ts a.tmps.toList
  ds : DRL ρ fr.ds a.defers

theorem FR.mono {ρ ρ' : Ren} (hl : ρ.le ρ') {fr : Fr} {a : Act} (h : FR ρ fr a) : FR ρ' fr a := ⟨h.ts.mono hl, h.ds.mono hl⟩
theorem FR.put {ρ : Ren} {fr : Fr} {a : Act} (h : FR ρ fr a) (dst : Option Tmp) {v v' : Value} (hv : VR ρ v v') : FR ρ (fr.put dst v) (a.put dst v') := by
  cases dst with
  | none => exact h
  | some d => exact ⟨by simpa [Fr.put, Act.put] using h.ts.set d hv, h.ds⟩

/-- All of the model, within a round of a range over a function or not. -/
def fence (ro : Option Nat) : Fence := { fn := fun _ => True, depth := none, alive := false, round := ro }
theorem room_fence (ro : Option Nat) (n : Nat) : (fence ro).room n := fun _ h => by simp [fence] at h

/-! ### what is said of calls and code -/
def DCall (P : Program) (f : FuncId) (args : List Value) (σ : St) (e : AE) (σ' : St) (lg : Log) : Prop :=
  Logged σ σ' lg ∧ ∀ (ρ : Ren) (w : World) (args' : Array Value), WR ρ σ w.heap → VRL ρ args args'.toList →
    CallsIn (fence none) 0 P f args' w fun e' w' => ∃ ρ', ER ρ' e e' ∧ Aft ρ σ w ρ' σ' w'

def DRound (P : Program) (l : Nat) (args : List Value) (σ : St) (e : AE) (σ' : St) (lg : Log) : Prop :=
  Logged σ σ' lg ∧ ∀ (ρ : Ren) (w : World) (l' : Loc) (args' : Array Value), WR ρ σ w.heap → ρ l = some l' → VRL ρ args args'.toList →
    ∃ fn tmps assign body, (Instr.yield l'.block args').run P w = .ok (.round l'.block fn tmps assign body) w ∧
      RoundIn (fence none) 0 P l'.block fn tmps assign body w fun e' w' => ∃ ρ', ER ρ' e e' ∧ Aft ρ σ w ρ' σ' w'

def DDefer (P : Program) (f : FuncId) (args : List Value) (u : AM) (σ : St) (e : AE) (u' : AM) (σ' : St) (lg : Log) : Prop :=
  Logged σ σ' lg ∧ ∀ (ρ : Ren) (w : World) (args' : Array Value) (um : FrameMode), WR ρ σ w.heap → VRL ρ args args'.toList → MR ρ u um →
    CallsDIn (fence none) 0 P f args' um w fun e' um' w' => ∃ ρ', ER ρ' e e' ∧ MR ρ' u' um' ∧ Aft ρ σ w ρ' σ' w'

/-- 'rnd': within a round (whichever it is). -/
def DCode (P : Program) (rnd : Bool) (c : Code) (fr : Fr) (σ : St) (x : AX) (fr' : Fr) (σ' : St) (lg : Log) : Prop :=
  Logged σ σ' lg ∧ ∀ (ro : Option Nat), (rnd = false → ro = none) → ∀ (ρ : Ren) (w : World) (a : Act), WR ρ σ w.heap → FR ρ fr a →
    c.wpIn (fence ro) 0 P (fun e a' w' => ∃ ρ', XR ρ' x e ∧ FR ρ' fr' a' ∧ Aft ρ σ w ρ' σ' w') a w

/-- What answers calls. -/
structure Orc where
  call : FuncId → List Value → St → Option (AE × St × Log)
  round : Nat → List Value → St → Option (AE × St × Log)

structure Orc.Ok (P : Program) (orc : Orc) : Prop where
  call : ∀ f args σ e σ' lg, orc.call f args σ = some (e, σ', lg) → DCall P f args σ e σ' lg
  round : ∀ l args σ e σ' lg, orc.round l args σ = some (e, σ', lg) → DRound P l args σ e σ' lg

structure Cx where
  T : TT
  bodies : FuncId → Bool
structure Cx.Ok (P : Program) (C : Cx) : Prop where
  T : C.T.Ok P
  bodies : ∀ g, C.bodies g = true → HasBody P g

theorem Logged.trans {σ σ₁ σ₂ : St} {a b : Log} (h : Logged σ σ₁ a) (k : Logged σ₁ σ₂ b) : Logged σ σ₂ (a ++ b) := ⟨Nat.le_trans h.1 k.1, fun c hc hnot => by
  simp only [List.mem_append, not_or] at hnot
  exact (k.2 c (by have := h.1; omega) hnot.2).trans (h.2 c hc hnot.1)⟩

/-! ### a region, in the text's order -/
def yieldedA (ops : List Oper) (ts : List Value) (j : Nat) : Option Bool :=
  match ops[j]? with
  | some o => match o.dst with
    | some d => match lget? ts d with
      | some (.bool b) => some b
      | _ => none
    | none => none
  | none => none

def wantedA (ops : List Oper) (o : Oper) (ts : List Value) : Bool :=
  match o.guard with
  | none => true
  | some (j, want) => match yieldedA ops ts j with
    | some b => b == want
    | none => false

abbrev OpsK := Fr → St → Log → Option (AX × Fr × St × Log)

def callK (fr : Fr) (dst : Option Tmp) (lg : Log) (k : OpsK) : Option (AE × St × Log) → Option (AX × Fr × St × Log)
  | some (.ret v, σ', l) => k (fr.put dst v) σ' (lg ++ l)
  | some (.panic c, σ', l) => some (.panic c, fr, σ', lg ++ l)
  | none => none

def opsK (orc : Orc) (rnd : Bool) (dst : Option Tmp) (fr : Fr) (σ : St) (lg : Log) (k : OpsK) : Option ORes → Option (AX × Fr × St × Log)
  | some (.val v _) => k (fr.put dst v) σ lg
  | some (.new ob v _) => k (fr.put dst v) (σ.new ob) lg
  | some (.eff v σ' l) => k (fr.put dst v) σ' (lg ++ l)
  | some (.panic v) => some (.panic [{ v, recovered := false }], fr, σ, lg)
  | some (.enter f args) => callK fr dst lg k (orc.call f args σ)
  | some (.round r args) => callK fr dst lg k (orc.round r args σ)
  | some (.defer d) => if rnd then none else k ({ fr with ds := d :: fr.ds }.put dst undef) σ lg
  | _ => none

/-- An operation that a guard leaves out. -/
def wantK (T : TT) (bodies : FuncId → Bool) (o : Oper) (ts : List Value) (σ : St) : Bool → Option ORes
  | true => stepOp T bodies o ts σ
  | false => some (.val undef [])

def runOps (C : Cx) (orc : Orc) (rnd : Bool) (ops : List Oper) : List Oper → Fr → St → Log → Option (AX × Fr × St × Log)
  | [], fr, σ, lg => some (.norm, fr, σ, lg)
  | o :: rest, fr, σ, lg => opsK orc rnd o.dst fr σ lg (runOps C orc rnd ops rest) (wantK C.T C.bodies o fr.ts σ (wantedA ops o fr.ts))

theorem yielded_VR {ρ : Ren} {ops : Array Oper} {fr : Fr} {a : Act} (h : FR ρ fr a) (j : Nat) : yielded ops a.tmps j = yieldedA ops.toList fr.ts j := by
  unfold yielded yieldedA
  rw [show ops[j]? = ops.toList[j]? by simp]
  cases ho : ops.toList[j]? with
  | none => rfl
  | some o =>
    simp only [Option.bind_some]
    cases hd : o.dst with
    | none => rfl
    | some d =>
      simp only [Option.bind_some]
      rw [lget?_eq, show a.tmps[d]? = a.tmps.toList[d]? by simp]
      cases hv : fr.ts[d]? with
      | none =>
        have : a.tmps.toList[d]? = none := by
          rw [List.getElem?_eq_none_iff] at hv ⊢
          rw [← h.ts.length]; exact hv
        rw [this]
      | some v =>
        obtain ⟨v', h1, h2⟩ := h.ts.get d hv
        rw [h1]
        cases h2 <;> rfl

theorem wanted_VR {ρ : Ren} {ops : Array Oper} {fr : Fr} {a : Act} (h : FR ρ fr a) (o : Oper) : Region.wanted o (yielded ops a.tmps) = wantedA ops.toList o fr.ts := by
  unfold Region.wanted wantedA
  split
  · rename_i he; rw [he]
  · rename_i j want he
    rw [he]
    simp only
    rw [yielded_VR h]
    cases yieldedA ops.toList fr.ts j with
    | none => rfl
    | some b => cases b <;> cases want <;> rfl

theorem Sound.quiet_next {o : Oper} {ts : List Value} {σ σ' : St} {v : Value} (h : SimEff P o ts σ v σ') {ρ : Ren} {w : World} {a : Act} (hw : WR ρ σ w.heap) (ht : VRL ρ ts a.tmps.toList) (ro : Option Nat) (hd : ∀ c, o.op ≠ .defer c)
    {next : Act → World → Prop} {Q : Exit → Act → World → Prop} (hn : ∀ ρ' v' w', VR ρ' v v' → Aft ρ σ w ρ' σ' w' → next (a.put o.dst v') w') : o.uponIn (fence ro) 0 P a next Q ((o.semAt ro a.eval).run P w) := by
  rw [Oper.semAt_eq ro a.eval o hd]
  obtain ⟨ρ', v', w', h1, h2, h3⟩ := h ρ w a hw ht
  rcases h1 with h1 | ⟨h1, rfl⟩
  · rw [h1]; exact hn ρ' v' w' h2 h3
  · rw [h1]; exact hn ρ' undef w' h2 h3

/-- An answer that is no deferred call comes of no 'defer'. -/
theorem not_defer {C : Cx} {o : Oper} {ts : List Value} {σ : St} {r : ORes} (h : stepOp C.T C.bodies o ts σ = some r) (hr : ∀ d, r ≠ .defer d) : ∀ c, o.op ≠ .defer c := by
  intro c hc
  unfold stepOp at h
  rw [hc] at h
  simp only at h
  split at h
  · split at h
    · unfold opDefer at h
      split at h
      · split at h
        · cases h; exact hr _ rfl
        · cases h
      · cases h
    · cases h
  · cases h

theorem stepOp_log {C : Cx} (hC : C.Ok P) {o : Oper} {ts : List Value} {σ σ' : St} {v : Value} {l : Log} (h : stepOp C.T C.bodies o ts σ = some (.eff v σ' l)) : Logged σ σ' l :=
  (stepOp_sound hC.T hC.bodies h : SimEff P o ts σ v σ' ∧ Logged σ σ' l).2

theorem runOps_logged {C : Cx} {orc : Orc} (hC : C.Ok P) (hO : orc.Ok P) {rnd : Bool} {ops : List Oper} : ∀ (rest : List Oper) (fr : Fr) (σ : St) (lg : Log) (x : AX) (fr' : Fr) (σ' : St) (lg' : Log), runOps C orc rnd ops rest fr σ lg = some (x, fr', σ', lg') →
    ∃ l2, lg' = lg ++ l2 ∧ Logged σ σ' l2 := by
  intro rest
  induction rest with
  | nil =>
    intro fr σ lg x fr' σ' lg' h
    simp only [runOps, Option.some.injEq, Prod.mk.injEq] at h
    obtain ⟨_, _, rfl, rfl⟩ := h
    exact ⟨[], by simp, logged_self _ _⟩
  | cons o rest ih =>
    intro fr σ lg x fr' σ' lg' h
    simp only [runOps] at h
    cases hw : wantedA ops o fr.ts with
    | false => rw [hw] at h; exact ih _ _ _ _ _ _ _ h
    | true =>
      rw [hw] at h
      simp only [wantK] at h
      unfold opsK at h
      split at h
      · exact ih _ _ _ _ _ _ _ h
      · obtain ⟨l2, h1, h2⟩ := ih _ _ _ _ _ _ _ h
        exact ⟨l2, h1, (logged_new σ _).trans h2⟩
      · rename_i hs
        obtain ⟨l2, h1, h2⟩ := ih _ _ _ _ _ _ _ h
        exact ⟨_, by rw [h1, List.append_assoc], (stepOp_log hC hs).trans h2⟩
      · simp only [Option.some.injEq, Prod.mk.injEq] at h
        obtain ⟨_, _, rfl, rfl⟩ := h
        exact ⟨[], by simp, logged_self _ _⟩
      · unfold callK at h
        split at h
        · rename_i hs
          obtain ⟨l2, h1, h2⟩ := ih _ _ _ _ _ _ _ h
          exact ⟨_, by rw [h1, List.append_assoc], (hO.call _ _ _ _ _ _ hs).1.trans h2⟩
        · rename_i hs
          simp only [Option.some.injEq, Prod.mk.injEq] at h
          obtain ⟨_, _, rfl, rfl⟩ := h
          exact ⟨_, rfl, (hO.call _ _ _ _ _ _ hs).1⟩
        · cases h
      · unfold callK at h
        split at h
        · rename_i hs
          obtain ⟨l2, h1, h2⟩ := ih _ _ _ _ _ _ _ h
          exact ⟨_, by rw [h1, List.append_assoc], (hO.round _ _ _ _ _ _ hs).1.trans h2⟩
        · rename_i hs
          simp only [Option.some.injEq, Prod.mk.injEq] at h
          obtain ⟨_, _, rfl, rfl⟩ := h
          exact ⟨_, rfl, (hO.round _ _ _ _ _ _ hs).1⟩
        · cases h
      · split at h
        · cases h
        · exact ih _ _ _ _ _ _ _ h
      · cases h

theorem runOps_wp {C : Cx} {orc : Orc} (hC : C.Ok P) (hO : orc.Ok P) {rnd : Bool} {ops : Array Oper} {ro : Option Nat} (hro : rnd = false → ro = none) {ρ₀ : Ren} {σ₀ : St} {w₀ : World} : ∀ (rest : List Oper) (k : Nat), ops.toList.drop k = rest →
    ∀ (fr : Fr) (σ : St) (lg : Log) (x : AX) (fr' : Fr) (σ' : St) (lg' : Log), runOps C orc rnd ops.toList rest fr σ lg = some (x, fr', σ', lg') →
    ∀ (ρ : Ren) (w : World) (a : Act), Aft ρ₀ σ₀ w₀ ρ σ w → FR ρ fr a →
      wpOpsIn (fence ro) 0 P ops (fun e a' w' => ∃ ρ', XR ρ' x e ∧ FR ρ' fr' a' ∧ Aft ρ₀ σ₀ w₀ ρ' σ' w') (List.range' k rest.length) a w := by
  intro rest
  induction rest with
  | nil =>
    intro k _ fr σ lg x fr' σ' lg' h ρ w a hA hF
    simp only [runOps, Option.some.injEq, Prod.mk.injEq] at h
    obtain ⟨rfl, rfl, rfl, rfl⟩ := h
    exact ⟨ρ, trivial, hF, hA⟩
  | cons o rest ih =>
    intro k hk fr σ lg x fr' σ' lg' h ρ w a hA hF
    have hko : ops.toList[k]? = some o := by
      have := congrArg (·[0]?) hk
      simpa using this
    have hko' : ops[k]? = some o := by simpa using hko
    have hrest : ops.toList.drop (k + 1) = rest := by
      have := congrArg (List.drop 1) hk
      simpa [List.drop_drop, Nat.add_comm] using this
    have hw := hA.wr
    rw [List.length_cons, List.range'_succ]
    simp only [wpOpsIn, hko', wanted_VR hF]
    simp only [runOps] at h
    cases hwant : wantedA ops.toList o fr.ts with
    | true =>
      rw [hwant] at h
      simp only [wantK] at h
      rw [if_pos rfl]
      refine ⟨fun _ _ => trivial, ?_⟩
      have eff : ∀ (v : Value) (σ₁ : St) (l : Log), SimEff P o fr.ts σ v σ₁ → (∀ c, o.op ≠ .defer c) → runOps C orc rnd ops.toList rest (fr.put o.dst v) σ₁ l = some (x, fr', σ', lg') →
          o.uponIn (fence ro) 0 P a (wpOpsIn (fence ro) 0 P ops (fun e a' w' => ∃ ρ', XR ρ' x e ∧ FR ρ' fr' a' ∧ Aft ρ₀ σ₀ w₀ ρ' σ' w') (List.range' (k + 1) rest.length)) (fun e a' w' => ∃ ρ', XR ρ' x e ∧ FR ρ' fr' a' ∧ Aft ρ₀ σ₀ w₀ ρ' σ' w') ((o.semAt ro a.eval).run P w) := fun v σ₁ l hs hd hr =>
        Sound.quiet_next hs hw hF.ts ro hd fun ρ' v' w' hv hA' => ih (k + 1) hrest _ _ _ _ _ _ _ hr ρ' w' _ (hA.trans hA') ((hF.mono (hA'.le hw)).put o.dst hv)
      unfold opsK at h
      split at h
      · rename_i v rd hs
        exact eff _ _ _ (SimVal.eff (stepOp_sound hC.T hC.bodies hs)) (not_defer hs (fun _ => by simp)) h
      · rename_i ob v rd hs
        exact eff _ _ _ (SimNew.eff (stepOp_sound hC.T hC.bodies hs)) (not_defer hs (fun _ => by simp)) h
      · rename_i v σ₁ l hs
        exact eff _ _ _ (stepOp_sound hC.T hC.bodies hs : SimEff P o fr.ts σ v σ₁ ∧ Logged σ σ₁ l).1 (not_defer hs (fun _ => by simp)) h
      · rename_i v hs
        simp only [Option.some.injEq, Prod.mk.injEq] at h
        obtain ⟨rfl, rfl, rfl, rfl⟩ := h
        obtain ⟨v', h1, h2⟩ := stepOp_sound hC.T hC.bodies hs ρ w a hF.ts
        have hd := not_defer hs (fun _ => by simp)
        show o.uponIn (fence ro) 0 P a _ _ ((o.semAt ro a.eval).run P w)
        rw [Oper.semAt_eq ro a.eval o hd, h1]
        exact ⟨ρ, ⟨⟨h2, rfl, rfl⟩, trivial⟩, hF, hA⟩
      · rename_i f args hs
        obtain ⟨args', h1, h2⟩ := stepOp_sound hC.T hC.bodies hs ρ w a hF.ts
        have hd := not_defer hs (fun _ => by simp)
        show o.uponIn (fence ro) 0 P a _ _ ((o.semAt ro a.eval).run P w)
        rw [Oper.semAt_eq ro a.eval o hd, h1]
        refine ⟨fun hdp => by simp [fence] at hdp, ?_⟩
        have mono : ∀ {R R' : Ending → World → Prop}, CallsIn (fence none) 0 P f args' w R → (∀ e w, R e w → R' e w) → CallsIn (fence ro) (0 - 1) P f args' w R' := fun hc hr =>
          ⟨trivial, fun cs hroom => let ⟨e, w', fr, r, rest⟩ := hc.2 cs (room_fence _ _); ⟨e, w', fr, hr _ _ r, rest⟩⟩
        unfold callK at h
        split at h
        · rename_i v σ₁ l hc
          refine mono ((hO.call _ _ _ _ _ _ hc).2 ρ w args' hw h2) ?_
          rintro e w' ⟨ρ', he, hA'⟩
          cases e with
          | returned v' => exact ih (k + 1) hrest _ _ _ _ _ _ _ h ρ' w' _ (hA.trans hA') ((hF.mono (hA'.le hw)).put o.dst he)
          | panicked c => exact he.elim
          | outgrown => exact he.elim
        · rename_i c σ₁ l hc
          simp only [Option.some.injEq, Prod.mk.injEq] at h
          obtain ⟨rfl, rfl, rfl, rfl⟩ := h
          refine mono ((hO.call _ _ _ _ _ _ hc).2 ρ w args' hw h2) ?_
          rintro e w' ⟨ρ', he, hA'⟩
          cases e with
          | returned v' => exact he.elim
          | panicked c' => exact ⟨ρ', he, hF.mono (hA'.le hw), hA.trans hA'⟩
          | outgrown => exact he.elim
        · cases h
      · rename_i r args hs
        have hd := not_defer hs (fun _ => by simp)
        obtain ⟨c, l', args', ho, hl, h1, h2⟩ := stepOp_sound hC.T hC.bodies hs ρ w a hF.ts
        show o.uponIn (fence ro) 0 P a _ _ ((o.semAt ro a.eval).run P w)
        rw [Oper.semAt_eq ro a.eval o hd, h1]
        have mono : ∀ {l : Nat} {f : FuncId} {tmps : Array Value} {as body : Code} {R R' : Ending → World → Prop}, RoundIn (fence none) 0 P l f tmps as body w R → (∀ e w, R e w → R' e w) → RoundIn (fence ro) (0 - 1) P l f tmps as body w R' := fun hc hr =>
          ⟨trivial, fun c cs hroom => let ⟨e, w', r, rest⟩ := hc.2 c cs (room_fence _ _); ⟨e, w', hr _ _ r, rest⟩⟩
        unfold callK at h
        split at h
        · rename_i v σ₁ l hc
          obtain ⟨fn, tmps, as, body, h3, h4⟩ := (hO.round _ _ _ _ _ _ hc).2 ρ w l' args' hw hl h2
          rw [h3]
          refine ⟨fun hdp => by simp [fence] at hdp, mono h4 ?_⟩
          rintro e w' ⟨ρ', he, hA'⟩
          cases e with
          | returned v' => exact ih (k + 1) hrest _ _ _ _ _ _ _ h ρ' w' _ (hA.trans hA') ((hF.mono (hA'.le hw)).put o.dst he)
          | panicked c => exact he.elim
          | outgrown => exact he.elim
        · rename_i c' σ₁ l hc
          simp only [Option.some.injEq, Prod.mk.injEq] at h
          obtain ⟨rfl, rfl, rfl, rfl⟩ := h
          obtain ⟨fn, tmps, as, body, h3, h4⟩ := (hO.round _ _ _ _ _ _ hc).2 ρ w l' args' hw hl h2
          rw [h3]
          refine ⟨fun hdp => by simp [fence] at hdp, mono h4 ?_⟩
          rintro e w' ⟨ρ', he, hA'⟩
          cases e with
          | returned v' => exact he.elim
          | panicked c' => exact ⟨ρ', he, hF.mono (hA'.le hw), hA.trans hA'⟩
          | outgrown => exact he.elim
        · cases h
      · rename_i d hs
        split at h
        · cases h
        · rename_i hrn
          have hro0 : ro = none := hro (by simpa using hrn)
          subst hro0
          obtain ⟨c, d', ho, h1, h2⟩ := stepOp_sound hC.T hC.bodies hs ρ w a hF.ts
          show o.uponIn (fence none) 0 P a _ _ ((o.semAt none a.eval).run P w)
          rw [Oper.semAt_none]
          have hrun : (execOp a.eval o).run P w = .ok (.defer d') w := by simp [execOp, ho, h1]
          rw [hrun]
          have hF' : FR ρ { fr with ds := d :: fr.ds } { a with defers := d' :: a.defers } := ⟨hF.ts, h2, hF.ds⟩
          exact ih (k + 1) hrest _ _ _ _ _ _ _ h ρ w _ hA (hF'.put o.dst (undef_VR ρ))
      · cases h
    | false =>
      rw [hwant] at h
      rw [if_neg (by simp)]
      exact ⟨fun _ _ => trivial, ih (k + 1) hrest _ _ _ _ _ _ _ h ρ w _ hA (hF.put o.dst (undef_VR ρ))⟩

end Go.Ab
