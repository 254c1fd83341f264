/- Ranges over functions: rounds, the statement, its mark. -/
import Derived.Test.YtlipmhhndhhgdaaGreatFp
import Derived.RangeFuncIn
import Derived.RangeFuncRecord
set_option linter.unusedSimpArgs false
set_option linter.unusedVariables false
namespace Go.Ab

variable {P : Program}

/-- What a round begins with. -/
def roundTs : List Value → List Tmp → List Value → List Value
  | ts, p :: ps, v :: vs => roundTs (ts.set p v) ps vs
  | ts, _, _ => ts

theorem roundTs_VR {ρ : Ren} : ∀ {ps : List Tmp} {vs : List Value} {ts : List Value} {ts' : Array Value} {vs' : List Value}, VRL ρ ts ts'.toList → VRL ρ vs vs' →
    VRL ρ (roundTs ts ps vs) ((ps.zip vs').foldl (fun tmps (t, a) => tmps.setIfInBounds t a) ts').toList
  | [], _, _, _, _, h, _ => by simpa [roundTs] using h
  | _ :: _, [], _, _, _, h, k => by cases k; simpa [roundTs] using h
  | p :: ps, v :: vs, ts, ts', _, h, k => by
    cases k with
    | cons k1 k2 =>
      simp only [roundTs, List.zip_cons_cons, List.foldl_cons]
      exact roundTs_VR (by simpa using h.set p k1) k2

/-- The jump that a round leaves pending. -/
def jumpOf : AX → Option (Option Code)
  | .norm => some none
  | .ret => some (some .ret)
  | .exit i => some (some (.exit i))
  | .goto i => some (some (.goto i))
  | .panic _ => none

def readyIf (j : Option Code) : LoopState := if j.isNone then .ready else .done

theorem loop_at {ρ : Ren} {σ : St} {H : Array Obj} {b : Nat} {l : Loc} {L : Loop} (hw : WR ρ σ H) (hl : ρ b = some l) (hg : σ.get b = some (.loop L)) :
    ∃ (ts : Array Value) (d : Nat) (ld : Loc) (g : FuncId), H[l.block]? = some (.loop { L with tmps := ts, defers := d, fn := g }) ∧ VRL ρ L.tmps.toList ts.toList ∧ ρ L.defers = some ld ∧ ld.block = d := hw.obj b l _ hl hg

theorem loop_set {ρ : Ren} {σ : St} {w : World} {b : Nat} {l : Loc} {L : Loop} {ts : Array Value} {d : Nat} {ld : Loc} {g : FuncId} (hw : WR ρ σ w.heap) (hl : ρ b = some l) (hg : σ.get b = some (.loop L)) (ht : VRL ρ L.tmps.toList ts.toList) (hd : ρ L.defers = some ld) (he : ld.block = d) (st : LoopState) (j : Option Code) :
    Aft ρ σ w ρ (σ.set b (.loop { L with state := st, pending := j })) (w.putObj l.block (.loop { L with tmps := ts, defers := d, fn := g, state := st, pending := j })) :=
  Aft.put hw hl (by rw [hg]; simp) rfl rfl rfl rfl ⟨ts, d, ld, g, World.putObj_heap_same (hw.dom b l hl).2, ht, hd, he⟩

theorem DRound.of_code {l : Nat} {args : List Value} {σ σ₁ σ₃ : St} {L L₁ L₃ : Loop} {fr₁ fr₃ : Fr} {x : AX} {lg₁ lg₃ : Log} {j : Option Code} (hg : σ.get l = some (.loop L)) (hn : args.length = L.params.size)
    (ha : DC P true L.assign ⟨roundTs L.tmps.toList L.params.toList args, []⟩ σ ⟨.norm, fr₁, σ₁, lg₁⟩) (hg₁ : σ₁.get l = some (.loop L₁)) (hr : L₁.state = .ready)
    (hb : DC P true L.body fr₁ (σ₁.set l (.loop { L₁ with state := .busy, pending := L₁.pending })) ⟨x, fr₃, σ₃, lg₃⟩) (hg₃ : σ₃.get l = some (.loop L₃)) (hj : jumpOf x = some j) :
    DRound P l args σ (.ret (.bool j.isNone)) (σ₃.set l (.loop { L₃ with state := readyIf j, pending := j })) (lg₁ ++ ([l] ++ (lg₃ ++ [l]))) := by
  refine ⟨ha.1.trans ((logged_put σ₁ l _).trans (hb.1.trans (logged_put σ₃ l _))), fun ρ w l' args' hw hl hargs => ?_⟩
  obtain ⟨ts, d, ld, g, h1, h2, h3, h4⟩ := loop_at hw hl hg
  have hsz : args'.size = L.params.size := by
    have := hargs.length
    simp only [Array.length_toList] at this
    omega
  refine ⟨g, (L.params.zip args').foldl (fun tmps (t, a) => tmps.setIfInBounds t a) ts, L.assign, L.body, ?_, roundIn_of_wpIn (F := fence none) trivial ?_⟩
  · exact run_yield h1 hsz
  · have hts : VRL ρ (roundTs L.tmps.toList L.params.toList args) (((L.params.zip args').foldl (fun tmps (t, a) => tmps.setIfInBounds t a) ts)).toList := by
      have := roundTs_VR (ps := L.params.toList) h2 hargs
      rw [← Array.foldl_toList, Array.toList_zip]
      exact this
    have hl0 := (hw.dom l l' hl).1
    refine wpIn_mono (ha.2 (some l'.block) (fun h => by cases h) ρ w { tmps := (L.params.zip args').foldl (fun tmps (t, a) => tmps.setIfInBounds t a) ts, defers := [] } hw ⟨hts, trivial⟩) fun e a₁ w₁ k => ?_
    obtain ⟨ρ₁, k1, k2, k3⟩ := k
    obtain rfl := XR.norm_iff k1
    have hl1 : ρ₁ l = some l' := (k3.ext l hl0).trans hl
    obtain ⟨ts₁, d₁, ld₁, g₁, b1, b2, b3, b4⟩ := loop_at k3.wr hl1 hg₁
    have A1 := loop_set (g := g₁) k3.wr hl1 hg₁ b2 b3 b4 .busy L₁.pending
    refine ⟨_, ?_, wpIn_mono (hb.2 (some l'.block) (fun h => by cases h) ρ₁ _ a₁ A1.wr k2) fun e a₃ w₃ k => ?_⟩
    · exact run_beginRound b1 hr
    · obtain ⟨ρ₃, c1, c2, c3⟩ := k
      have hl3 : ρ₃ l = some l' := (c3.ext l (by have h9 : σ.next ≤ σ₁.next := k3.nxt; rw [St.next_set]; omega)).trans hl1
      obtain ⟨ts₃, d₃, ld₃, g₃, e1, e2, e3, e4⟩ := loop_at c3.wr hl3 hg₃
      have A3 := loop_set (g := g₃) c3.wr hl3 hg₃ e2 e3 e4 (readyIf j) j
      have fin : ∃ v w', (Instr.endRound l'.block j).run P w₃ = .ok v w' ∧ ∃ ρ', ER ρ' (.ret (.bool j.isNone)) (.returned v) ∧ Aft ρ σ w ρ' (σ₃.set l (.loop { L₃ with state := readyIf j, pending := j })) w' := by
        refine ⟨.bool j.isNone, _, ?_, ρ₃, VR.bool _, k3.trans (A1.trans (c3.trans A3))⟩
        exact run_endRound j e1
      cases x with
      | norm => obtain rfl := XR.norm_iff c1; cases hj; exact fin
      | ret => cases e <;> try exact c1.elim
               cases hj; exact fin
      | exit i => cases e <;> try exact c1.elim
                  obtain rfl : i = _ := c1
                  cases hj; exact fin
      | goto i => cases e <;> try exact c1.elim
                  obtain rfl : i = _ := c1
                  cases hj; exact fin
      | panic c => cases hj

/-! ### the statement -/
def markOf (r : Nat) : Deferred := { target := .collected r, args := #[] }

def rangeSt (me : FuncId) (ps : Array Tmp) (assign body : Code) (ts : List Value) (σ : St) : St :=
  (σ.new (.deferred false)).new (.loop { state := .ready, pending := none, fn := me, tmps := ⟨ts⟩, params := ps, assign, body, defers := σ.next })

def pendingX : Option Code → Option AX
  | none => some .norm
  | some .ret => some .ret
  | some (.exit i) => some (.exit i)
  | some (.goto i) => some (.goto i)
  | _ => none

def isBusy : LoopState → Bool
  | .busy => true
  | _ => false

def rangeFin (fr : Fr) (b : Nat) (σ : St) (lg : Log) (L : Loop) : Option RR :=
  match isBusy L.state, pendingX L.pending with
  | false, some x => some ⟨x, fr, σ.set b (.loop { L with state := .exhausted, pending := L.pending }), lg ++ [b]⟩
  | _, _ => none

def rangeEnd (fr : Fr) (b : Nat) : Option (AE × St × Log) → Option RR
  | some (.ret _, σ, lg) => match σ.get b with
    | some (.loop L) => rangeFin fr b σ lg L
    | _ => none
  | some (.panic c, σ, lg) => some ⟨.panic c, fr, σ, lg⟩
  | none => none

def rangeR (bodies : FuncId → Bool) (orc : Orc) (me : FuncId) (g : Operand) (ps : Array Tmp) (assign body : Code) (fr : Fr) (σ : St) : Option RR :=
  match ev fr.ts g with
  | some (.func (.func f) ⟨xs⟩ ⟨ys⟩) => match bodies f with
    | true => rangeEnd { fr with ds := markOf σ.next :: fr.ds } (σ.next + 1) (orc.call f (xs ++ [.func (.yield (σ.next + 1)) #[] #[]] ++ ys) (rangeSt me ps assign body fr.ts σ))
    | false => none
  | _ => none

theorem DC.rangeFunc {C : Cx} {orc : Orc} (hC : C.Ok P) (hO : orc.Ok P) {me : FuncId} {g : Operand} {ps : Array Tmp} {assign body : Code} {fr : Fr} {σ : St} {r : RR} (h : rangeR C.bodies orc me g ps assign body fr σ = some r) : DC P false (.rangeFunc g ps assign body) fr σ r := by
  unfold rangeR at h
  split at h
  · rename_i f xs ys hev
    split at h
    · rename_i hbd
      have hb := hC.bodies f hbd
      have hs : Logged σ (rangeSt me ps assign body fr.ts σ) [] := (logged_new σ _).trans (logged_new _ _)
      cases hc : orc.call f (xs ++ [.func (.yield (σ.next + 1)) #[] #[]] ++ ys) (rangeSt me ps assign body fr.ts σ) with
      | none => rw [hc] at h; cases h
      | some q =>
        obtain ⟨e, σ₂, lg⟩ := q
        rw [hc] at h
        have hd := hO.call _ _ _ _ _ _ hc
        have hlog : Logged σ r.σ r.lg := by
          cases e with
          | ret v =>
            simp only [rangeEnd] at h
            split at h
            · unfold rangeFin at h
              split at h
              · cases h
                exact (hs.trans hd.1).trans (logged_put σ₂ _ _)
              · cases h
            · cases h
          | panic c =>
            cases h
            exact hs.trans hd.1
        refine ⟨hlog, fun ro hro ρ w a hw hf => wpIn_rangeFunc fun fn _ => ?_⟩
        obtain rfl := hro rfl
        -- the two blocks
        let w₁ : World := w.alloc (.deferred (some []))
        let L : Loop := { state := .ready, pending := none, fn := fn, tmps := a.tmps, params := ps, assign, body, defers := w.heap.size }
        let w₂ : World := w₁.alloc (.loop L)
        let l₁ : Loc := ⟨w.heap.size, 0, 0, none⟩
        let l₂ : Loc := ⟨w₁.heap.size, 0, 0, none⟩
        let ρ₁ := ρ.add σ.next l₁
        have hsz₁ : w₁.heap.size = w.heap.size + 1 := World.size_alloc _ _
        have A1 : Aft ρ σ w ρ₁ (σ.new (.deferred false)) w₁ := Aft.push hw rfl rfl rfl rfl (World.alloc_heap_new w _)
        let ρ₂ := ρ₁.add (σ.next + 1) l₂
        have hle12 : ρ₁.le ρ₂ := fun b l hl => by
          show (ρ₁.add (σ.next + 1) l₂) b = some l
          rw [Ren.add_other]; exact hl
          have := (A1.wr.dom b l hl).1
          rw [St.next_new] at this; omega
        have hl1 : ρ₂ σ.next = some l₁ := hle12 _ _ (Ren.add_same _ _ _)
        have hl2 : ρ₂ (σ.next + 1) = some l₂ := Ren.add_same _ _ _
        have A2 : Aft ρ₁ (σ.new (.deferred false)) w₁ ρ₂ (rangeSt me ps assign body fr.ts σ) w₂ := Aft.push A1.wr rfl rfl rfl rfl
          ⟨a.tmps, w.heap.size, l₁, fn, World.alloc_heap_new w₁ _, (hf.ts.mono (A1.le hw)).mono hle12, hl1, rfl⟩
        have A12 := A1.trans A2
        have hle2 := A12.le hw
        have hfv := ev_VR hf.ts hev
        generalize he : a.eval g = fv at hfv
        cases hfv with
        | func k1 k2 =>
          rename_i xs' ys'
          refine ⟨w₁.heap.size, [{ target := .collected w.heap.size, args := #[] }], w₂, { target := .fn (.func f) ⟨ys'⟩, args := ⟨xs'⟩ ++ #[.func (.yield w₁.heap.size) #[] #[]] }, w₂, f, (⟨xs'⟩ ++ #[.func (.yield w₁.heap.size) #[] #[]]) ++ ⟨ys'⟩, w₂, ?_, ?_, fun _ _ => trivial, ?_, fun hh => by simp [fence] at hh, ?_⟩
          · rw [hsz₁]
            exact run_enterLoop_outer fn a.tmps ps assign body
          · simp only [resolve, rangeCall, he, Deferred.ofValue, Sem.run_bind, Sem.run_pure, Result.andThen_ok]
            simp [Act.eval]
          · simp only [invoke]
            exact callFunc_run hb _ _
          · have hargs : VRL ρ₂ (xs ++ [.func (.yield (σ.next + 1)) #[] #[]] ++ ys) ((⟨xs'⟩ ++ #[.func (.yield w₁.heap.size) #[] #[]]) ++ ⟨ys'⟩ : Array Value).toList := by
              simpa using ((k1.mono hle2).append (.cons (.yield hl2) (k2.mono hle2)))
            refine (hd.2 ρ₂ w₂ _ A12.wr hargs).mono fun e' w₃ ⟨ρ₃, g1, g2⟩ => ?_
            have A3 := A12.trans g2
            have hfr : FR ρ₃ { fr with ds := markOf σ.next :: fr.ds } { a with defers := [{ target := .collected w.heap.size, args := #[] }] ++ a.defers } :=
              ⟨hf.ts.mono (A3.le hw), ⟨.inr ⟨σ.next, l₁, (g2.ext _ (by show σ.next < σ.next + 1 + 1; omega)).trans hl1, rfl, rfl⟩, hf.ds.mono (A3.le hw)⟩⟩
            cases e with
            | panic c =>
              cases h
              cases e' with
              | returned v => exact False.elim g1
              | panicked c' => exact ⟨ρ₃, g1, hfr, A3⟩
              | outgrown => exact False.elim g1
            | ret v =>
              cases e' with
              | panicked c' => exact False.elim g1
              | outgrown => exact False.elim g1
              | returned v' =>
                simp only [rangeEnd] at h
                split at h
                · rename_i L₃ hg₃
                  have hl3 : ρ₃ (σ.next + 1) = some l₂ := (g2.ext _ (by show σ.next + 1 < σ.next + 1 + 1; omega)).trans hl2
                  obtain ⟨ts₃, d₃, ld₃, g₃, e1, e2, e3, e4⟩ := loop_at g2.wr hl3 hg₃
                  have A4 := loop_set (g := g₃) g2.wr hl3 hg₃ e2 e3 e4 .exhausted L₃.pending
                  unfold rangeFin at h
                  split at h
                  · rename_i x hbz hpx
                    cases h
                    refine ⟨L₃.pending, w₃.putObj l₂.block (.loop { L₃ with tmps := ts₃, defers := d₃, fn := g₃, state := .exhausted, pending := L₃.pending }), ?_, ?_⟩
                    rotate_left
                    · have fin : ∀ e'', XR ρ₃ x e'' → after ρ σ w ⟨x, { fr with ds := markOf σ.next :: fr.ds }, σ₂.set (σ.next + 1) (.loop { L₃ with state := .exhausted, pending := L₃.pending }), lg ++ [σ.next + 1]⟩ e'' _ _ := fun e'' hx => ⟨ρ₃, hx, hfr, A3.trans A4⟩
                      cases hp : L₃.pending with
                      | none => rw [hp] at hpx fin; cases hpx; exact fin .normal trivial
                      | some c =>
                        rw [hp] at hpx fin
                        cases c <;> cases hpx
                        · rename_i i
                          exact wpIn_exit (fin (.exit i) rfl)
                        · rename_i i
                          exact wpIn_goto (fin (.goto i) rfl)
                        · exact wpIn_ret (fin .ret trivial)
                    · exact run_endLoop e1 (by
                        intro hq
                        simp only at hq
                        rw [hq] at hbz
                        cases hbz)
                  · cases h
                · cases h
    · cases h
  · cases h

/-! ### leaving -/
theorem DLeave.collected {fn : Func} {ts : List Value} {ds : List Deferred} {r : Nat} {u : AM} {σ σ' : St} {e : AE} {lg : Log} (hr : σ.get r = some (.deferred false)) (k : DLeave P fn ts ds u (σ.set r (.deferred true)) e σ' lg) :
    DLeave P fn ts (markOf r :: ds) u σ e σ' ([r] ++ lg) :=
  ⟨(logged_put σ r _).trans k.1, fun ρ w tmps ds' um hw ht hds hu => by
    cases ds' with
    | nil => exact False.elim hds
    | cons d' ds' =>
      obtain ⟨hd1, hd2⟩ := hds
      rcases hd1 with ⟨f', c, c', h1, _⟩ | ⟨r', l, hl, h2, h3⟩
      · simp [markOf] at h1
      · simp only [markOf, Deferred.mk.injEq, Target.collected.injEq, and_true] at h2
        subst h2
        subst h3
        have ho : w.heap[l.block]? = some (.deferred (some [])) := hw.obj r l _ hl hr
        have A : Aft ρ σ w ρ (σ.set r (.deferred true)) (w.putObj l.block (.deferred none)) := Aft.put hw hl (by rw [hr]; simp) rfl rfl rfl rfl (World.putObj_heap_same (hw.dom r l hl).2)
        refine ⟨by rintro rfl; cases u <;> exact False.elim hu, .inl ⟨l.block, _, rfl, ?_, LeavesInM.mono (fun _ _ ⟨ρ₂, b1, b2⟩ => ⟨ρ₂, b1, A.trans b2⟩) _ _ _ (k.2 ρ _ tmps ds' um A.wr ht hd2 hu)⟩⟩
        exact run_takeDeferred ho⟩

end Go.Ab
