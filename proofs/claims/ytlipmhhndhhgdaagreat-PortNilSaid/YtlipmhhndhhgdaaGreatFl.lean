/- Regions whose order is drawn: the run in the text's order, what is looked at afterwards, and that it then speaks for every order. -/
import Derived.Test.YtlipmhhndhhgdaaGreatFk
set_option linter.unusedSimpArgs false
set_option linter.unusedVariables false
namespace Go.Ab

variable {P : Program} {T : TT}

/-! ### an operation looks at its operands alone -/
theorem evs_congr {ts ts' : List Value} : ∀ {xs : List Operand}, (∀ x ∈ xs, ev ts' x = ev ts x) → evs ts' xs = evs ts xs
  | [], _ => rfl
  | x :: xs, h => by
    simp only [evs]
    rw [h x (by simp), evs_congr fun y hy => h y (by simp [hy])]

theorem evo_congr {ts ts' : List Value} {x : Option Operand} (h : ∀ y, x = some y → ev ts' y = ev ts y) : evo ts' x = evo ts x := by
  cases x with
  | none => rfl
  | some y => simp only [evo]; rw [h y rfl]

theorem partsA_congr {ts ts' : List Value} : ∀ {ps : List (Nat × Operand)}, (∀ x ∈ ps.map (·.2), ev ts' x = ev ts x) → partsA ts' ps = partsA ts ps
  | [], _ => rfl
  | (i, x) :: ps, h => by
    simp only [partsA]
    rw [h x (by simp), partsA_congr fun y hy => h y (by simp only [List.map_cons, List.mem_cons]; exact .inr hy)]

theorem stepBuiltin_congr {o : Oper} {b : Builtin} {xs : List Operand} {tys : List TypeId} {ts ts' : List Value} {σ : St} (h : ∀ x ∈ xs, ev ts' x = ev ts x) :
    stepBuiltin T o b xs tys ts' σ = stepBuiltin T o b xs tys ts σ := by
  unfold stepBuiltin
  split <;> first
    | rfl
    | (rw [h _ (by simp), h _ (by simp)])
    | (rw [h _ (by simp)])

theorem stepOp_congr {bodies : FuncId → Bool} {o : Oper} {ts ts' : List Value} {σ : St} (h : ∀ x ∈ o.op.operands, ev ts' x = ev ts x) :
    stepOp T bodies o ts' σ = stepOp T bodies o ts σ := by
  obtain ⟨dst, op, type, pos, after, guard⟩ := o
  cases op <;> simp only [Op.operands] at h <;> simp only [stepOp]
  case build t ps => rw [partsA_congr (ts := ts) (ts' := ts') fun x hx => h x (by simpa using hx)]
  case buildSlice t n ps => rw [partsA_congr (ts := ts) (ts' := ts') fun x hx => h x (by simpa using hx)]
  case makeFunc fn xs ys =>
    rw [evs_congr (ts := ts) (ts' := ts') (xs := xs.toList) fun x hx => h x (by simp at hx; simp [hx]), evs_congr (ts := ts) (ts' := ts') (xs := ys.toList) fun x hx => h x (by simp at hx; simp [hx])]
  case makeMap t r => rw [evo_congr (ts := ts) (ts' := ts') fun y hy => h y (by subst hy; simp)]
  case slice t x lo hi mx =>
    rw [h x (by simp), evo_congr (x := lo) (ts := ts) (ts' := ts') fun y hy => h y (by subst hy; simp), evo_congr (x := hi) (ts := ts) (ts' := ts') fun y hy => h y (by subst hy; simp),
      evo_congr (x := mx) (ts := ts) (ts' := ts') fun y hy => h y (by subst hy; simp)]
  case call c =>
    obtain ⟨callee, args, tys⟩ := c
    simp only [Call.operands] at h
    cases callee with
    | builtin b => simp only at h ⊢; exact stepBuiltin_congr fun x hx => h x (by simpa using hx)
    | value f => simp only at h ⊢; rw [h f (by simp), evs_congr (ts := ts) (ts' := ts') fun x hx => h x (by simp at hx; simp [hx])]
    | invoke r m => rfl
  case defer c =>
    obtain ⟨callee, args, tys⟩ := c
    simp only [Call.operands] at h
    cases callee with
    | builtin b => rfl
    | value f => simp only at h ⊢; rw [h f (by simp), evs_congr (ts := ts) (ts' := ts') fun x hx => h x (by simp at hx; simp [hx])]
    | invoke r m => rfl
  all_goals first
    | rfl
    | (rw [h _ (by simp), h _ (by simp), h _ (by simp)]; done)
    | (rw [h _ (by simp), h _ (by simp)]; done)
    | (rw [h _ (by simp)]; done)
    | simp_all

/-! ### frames of which but some slots are known -/
def mk (l : List Tmp) (ts : List Value) : List Value := (List.range ts.length).map fun t => if t ∈ l then lget ts t else undef

theorem lget_mk {l : List Tmp} {ts : List Value} {t : Tmp} (h : t ∈ l) : lget (mk l ts) t = lget ts t := by
  rw [lget_eq]
  unfold mk
  by_cases ht : t < ts.length
  · simp [ht, h]
  · simp [ht, lget_eq]

theorem mk_VRL {ρ : Ren} {l : List Tmp} {ts : List Value} {a : Act} (hl : a.tmps.size = ts.length) (h : ∀ t ∈ l, SlotR ρ ts a t) : VRL ρ (mk l ts) (mk l a.tmps.toList) := by
  refine VRL.of_get (by simp [mk, hl]) fun i v hv => ?_
  unfold mk at hv ⊢
  rw [List.getElem?_map] at hv ⊢
  by_cases hi : i < ts.length
  · rw [List.getElem?_range (by simpa using hi)] at hv
    rw [List.getElem?_range (by simpa [hl] using hi)]
    simp only [Option.map_some, Option.some.injEq] at hv
    subst hv
    refine ⟨_, rfl, ?_⟩
    by_cases hm : i ∈ l
    · show VR ρ (if i ∈ l then lget ts i else undef) (if i ∈ l then lget a.tmps.toList i else undef)
      rw [if_pos hm, if_pos hm]; exact h i hm
    · show VR ρ (if i ∈ l then lget ts i else undef) (if i ∈ l then lget a.tmps.toList i else undef)
      rw [if_neg hm, if_neg hm]; exact undef_VR ρ
  · simp [hi] at hv

def mkAct (l : List Tmp) (a : Act) : Act := { a with tmps := (mk l a.tmps.toList).toArray }

theorem mkAct_eval {l : List Tmp} {a : Act} {x : Operand} (h : ∀ t, x = .tmp t → t ∈ l) : (mkAct l a).eval x = a.eval x := by
  cases x with
  | tmp t =>
    rw [Act.eval_tmp, Act.eval_tmp]
    have := lget_mk (ts := a.tmps.toList) (h t rfl)
    rw [lget_eq, lget_eq] at this
    simpa [mkAct] using this
  | _ => rfl

theorem mem_looksAt {ops : Array Oper} {o : Oper} {x : Operand} (hx : x ∈ o.op.operands) {t : Tmp} (e : x = .tmp t) : t ∈ o.looksAt ops := by
  subst e
  exact List.mem_append_left _ (List.mem_filterMap.2 ⟨.tmp t, by simpa using hx, rfl⟩)

theorem step_mk {bodies : FuncId → Bool} {ops : Array Oper} {o : Oper} {ts : List Value} {σ : St} : stepOp T bodies o (mk (o.looksAt ops) ts) σ = stepOp T bodies o ts σ :=
  stepOp_congr fun x hx => by
    cases x with
    | tmp t => simp only [ev]; rw [lget_mk (mem_looksAt hx rfl)]
    | _ => rfl

theorem stepOp_select {bodies : FuncId → Bool} {o : Oper} {ts : List Value} {σ : St} {r : ORes} (h : stepOp T bodies o ts σ = some r) : ∀ cs b, o.op ≠ .select cs b := by
  intro cs b hc
  unfold stepOp at h
  rw [hc] at h
  cases h

theorem exec_mk {bodies : FuncId → Bool} {ops : Array Oper} {o : Oper} {ts : List Value} {σ : St} {r : ORes} (h : stepOp T bodies o ts σ = some r) (a : Act) :
    execOp (mkAct (o.looksAt ops) a).eval o = execOp a.eval o :=
  execOp_congr o (stepOp_select h) fun x hx => mkAct_eval fun t e => mem_looksAt hx e

theorem wanted_slots {ρ : Ren} {ops : Array Oper} {o : Oper} {ts : List Value} {a : Act} (hl : a.tmps.size = ts.length) (h : ∀ t ∈ o.looksAt ops, SlotR ρ ts a t) :
    Region.wanted o (yielded ops a.tmps) = wantedA ops.toList o ts := by
  unfold Region.wanted wantedA
  cases hg : o.guard with
  | none => rfl
  | some jw =>
    obtain ⟨j, want⟩ := jw
    simp only
    have : yielded ops a.tmps j = yieldedA ops.toList ts j := by
      unfold yielded yieldedA
      rw [show ops[j]? = ops.toList[j]? by simp]
      cases ho : ops.toList[j]? with
      | none => rfl
      | some oj =>
        simp only [Option.bind_some]
        cases hd : oj.dst with
        | none => rfl
        | some d =>
          simp only [Option.bind_some]
          have hm : d ∈ o.looksAt ops := by
            unfold Oper.looksAt
            rw [hg]
            refine List.mem_append_right _ ?_
            have hoj : ops[j]? = some oj := by simpa using ho
            simp [hoj, hd]
          have hs := h d hm
          unfold SlotR at hs
          rw [lget?_eq]
          have key : ∀ (n : Nat), VR ρ (lget ts n) (lget a.tmps.toList n) → (match a.tmps[n]? with | some (.bool b) => some b | _ => none) = match ts[n]? with | some (.bool b) => some b | _ => none := fun n hs => by
            by_cases hlt : n < ts.length
            · have h2 : n < a.tmps.size := by omega
              rw [lget_eq, lget_eq, List.getElem?_eq_getElem hlt, List.getElem?_eq_getElem (by simpa using h2)] at hs
              rw [List.getElem?_eq_getElem hlt, Array.getElem?_eq_getElem h2]
              simp only [Option.getD_some, Array.getElem_toList] at hs
              generalize ts[n] = u at hs ⊢
              generalize a.tmps[n] = v at hs ⊢
              cases hs <;> rfl
            · rw [List.getElem?_eq_none (by omega), Array.getElem?_eq_none (by omega)]
          exact key d hs
    rw [this]
    cases yieldedA ops.toList ts j with
    | none => rfl
    | some b => cases b <;> cases want <;> rfl

end Go.Ab
