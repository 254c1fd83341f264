/- Regions whose order is drawn, run. -/
import Derived.Test.YtlipmhhndhhgdaaGreatFl
set_option linter.unusedSimpArgs false
set_option linter.unusedVariables false
namespace Go.Ab

variable {P : Program} {T : TT}

structure Stp where
  ts : List Value
  σ : St
  v : Value
  kd : SK

def putL (ts : List Value) (dst : Option Tmp) (v : Value) : List Value :=
  match dst with
  | some d => ts.set d v
  | none => ts

structure Dr where
  st : List Stp
  ts : List Value
  σ : St
  lg : Log

def consD (s : Stp) (l : Log) : Option Dr → Option Dr
  | some r => some ⟨s :: r.st, r.ts, r.σ, l ++ r.lg⟩
  | none => none

def callD (ts : List Value) (σ : St) (dst : Option Tmp) (k : List Value → St → Option Dr) : Option (AE × St × Log) → Option Dr
  | some (.ret v, σ', l) => consD ⟨ts, σ, v, .full l⟩ l (k (putL ts dst v) σ')
  | _ => none

def drawnK (orc : Orc) (dst : Option Tmp) (ts : List Value) (σ : St) (k : List Value → St → Option Dr) : Option ORes → Option Dr
  | some (.val v rd) => consD ⟨ts, σ, v, .pure rd⟩ [] (k (putL ts dst v) σ)
  | some (.new ob v rd) => consD ⟨ts, σ, v, .alloc ob rd⟩ [] (k (putL ts dst v) (σ.new ob))
  | some (.eff v σ' l) => consD ⟨ts, σ, v, .full l⟩ l (k (putL ts dst v) σ')
  | some (.enter f args) => callD ts σ dst k (orc.call f args σ)
  | _ => none

def runDrawn (C : Cx) (orc : Orc) (ops : List Oper) : List Oper → List Value → St → Option Dr
  | [], ts, σ => some ⟨[], ts, σ, []⟩
  | o :: rest, ts, σ => drawnK orc o.dst ts σ (runDrawn C orc ops rest) (wantK C.T C.bodies o ts σ (wantedA ops o ts))

/-- What one row of the table is. -/
inductive One (P : Program) (C : Cx) (orc : Orc) (ops : List Oper) (o : Oper) (s : Stp) (σ' : St) : Prop
  | skip (hw : wantedA ops o s.ts = false) (hk : s.kd = .pure []) (hv : s.v = undef) (hσ : σ' = s.σ)
  | val {rd : List Nat} (hw : wantedA ops o s.ts = true) (hs : stepOp C.T C.bodies o s.ts s.σ = some (.val s.v rd)) (hk : s.kd = .pure rd) (hσ : σ' = s.σ)
  | new {ob : AObj} {rd : List Nat} (hw : wantedA ops o s.ts = true) (hs : stepOp C.T C.bodies o s.ts s.σ = some (.new ob s.v rd)) (hk : s.kd = .alloc ob rd) (hσ : σ' = s.σ.new ob)
  | eff {l : Log} (hw : wantedA ops o s.ts = true) (hs : stepOp C.T C.bodies o s.ts s.σ = some (.eff s.v σ' l)) (hk : s.kd = .full l)
  | call {f : FuncId} {args : List Value} {l : Log} (hw : wantedA ops o s.ts = true) (hs : stepOp C.T C.bodies o s.ts s.σ = some (.enter f args)) (hc : orc.call f args s.σ = some (.ret s.v, σ', l)) (hk : s.kd = .full l)

def Dr.tsAt (r : Dr) (k : Nat) : List Value := match r.st[k]? with
  | some s => s.ts
  | none => r.ts
def Dr.σAt (r : Dr) (k : Nat) : St := match r.st[k]? with
  | some s => s.σ
  | none => r.σ

structure Chain (P : Program) (C : Cx) (orc : Orc) (ops rest : List Oper) (ts : List Value) (σ : St) (r : Dr) : Prop where
  len : r.st.length = rest.length
  ts0 : r.tsAt 0 = ts
  σ0 : r.σAt 0 = σ
  one : ∀ k o, rest[k]? = some o → ∃ s, r.st[k]? = some s ∧ One P C orc ops o s (r.σAt (k + 1)) ∧ r.tsAt (k + 1) = putL s.ts o.dst s.v
  log : Logged σ r.σ r.lg

theorem Chain.cons {C : Cx} {orc : Orc} {ops rest : List Oper} {o : Oper} {ts : List Value} {σ σ' : St} {r : Dr} {s : Stp} {l : Log} (h : Chain P C orc ops rest (putL ts o.dst s.v) σ' r) (hts : s.ts = ts) (hσ : s.σ = σ)
    (h1 : One P C orc ops o s σ') (hl : Logged σ σ' l) : Chain P C orc ops (o :: rest) ts σ { r with st := s :: r.st, lg := l ++ r.lg } where
  len := by simp [h.len]
  ts0 := hts
  σ0 := hσ
  one k o' ho := by
    cases k with
    | zero =>
      simp only [List.getElem?_cons_zero, Option.some.injEq] at ho
      subst ho
      refine ⟨s, rfl, ?_, ?_⟩
      · have : (Dr.mk (s :: r.st) r.ts r.σ (l ++ r.lg)).σAt 1 = r.σAt 0 := by simp [Dr.σAt]
        rw [show (0 : Nat) + 1 = 1 from rfl, this, h.σ0]; exact h1
      · have : (Dr.mk (s :: r.st) r.ts r.σ (l ++ r.lg)).tsAt 1 = r.tsAt 0 := by simp [Dr.tsAt]
        rw [show (0 : Nat) + 1 = 1 from rfl, this, h.ts0, hts]
    | succ k =>
      simp only [List.getElem?_cons_succ] at ho
      obtain ⟨s', a1, a2, a3⟩ := h.one k o' ho
      refine ⟨s', by simpa using a1, ?_, ?_⟩
      · have : (Dr.mk (s :: r.st) r.ts r.σ (l ++ r.lg)).σAt (k + 1 + 1) = r.σAt (k + 1) := by simp [Dr.σAt]
        rw [this]; exact a2
      · have : (Dr.mk (s :: r.st) r.ts r.σ (l ++ r.lg)).tsAt (k + 1 + 1) = r.tsAt (k + 1) := by simp [Dr.tsAt]
        rw [this]; exact a3
  log := hl.trans h.log

theorem runDrawn_chain {C : Cx} {orc : Orc} (hC : C.Ok P) (hO : orc.Ok P) {ops : List Oper} : ∀ (rest : List Oper) (ts : List Value) (σ : St) (r : Dr), runDrawn C orc ops rest ts σ = some r → Chain P C orc ops rest ts σ r := by
  intro rest
  induction rest with
  | nil =>
    intro ts σ r h
    simp only [runDrawn, Option.some.injEq] at h
    subst h
    exact ⟨rfl, rfl, rfl, fun k o h => by simp at h, logged_self _ _⟩
  | cons o rest ih =>
    intro ts σ r h
    simp only [runDrawn] at h
    cases hw : wantedA ops o ts with
    | true =>
      rw [hw] at h
      simp only [wantK] at h
      unfold drawnK at h
      split at h
      · rename_i v rd hs
        unfold consD at h
        split at h
        · rename_i r' hr
          cases h
          exact Chain.cons (s := ⟨ts, σ, v, .pure rd⟩) (l := []) (ih _ _ _ hr) rfl rfl (.val hw hs rfl rfl) (logged_self _ _)
        · cases h
      · rename_i ob v rd hs
        unfold consD at h
        split at h
        · rename_i r' hr
          cases h
          exact Chain.cons (s := ⟨ts, σ, v, .alloc ob rd⟩) (l := []) (ih _ _ _ hr) rfl rfl (.new hw hs rfl rfl) (logged_new _ _)
        · cases h
      · rename_i v σ' l hs
        unfold consD at h
        split at h
        · rename_i r' hr
          cases h
          exact Chain.cons (s := ⟨ts, σ, v, .full l⟩) (ih _ _ _ hr) rfl rfl (.eff hw hs rfl) (stepOp_log hC hs)
        · cases h
      · rename_i f args hs
        unfold callD at h
        split at h
        · rename_i v σ' l hc
          unfold consD at h
          split at h
          · rename_i r' hr
            cases h
            exact Chain.cons (s := ⟨ts, σ, v, .full l⟩) (ih _ _ _ hr) rfl rfl (.call hw hs hc rfl) (hO.call _ _ _ _ _ _ hc).1
          · cases h
        · cases h
      · cases h
    | false =>
      rw [hw] at h
      simp only [wantK, drawnK] at h
      unfold consD at h
      split at h
      · rename_i r' hr
        cases h
        exact Chain.cons (s := ⟨ts, σ, undef, .pure []⟩) (l := []) (ih _ _ _ hr) rfl rfl (.skip hw rfl rfl rfl) (logged_self _ _)
      · cases h

/-! ### what is looked at -/
/-- The edges that bind, closed: bit 'j' of row 'k': 'j' is before 'k'. -/
def befRow (look : Nat → Nat) (o : Oper) : Nat := o.after.toList.foldl (fun s e => if Region.binds .any e then s ||| 2 ^ e.on ||| look e.on else s) 0

def force {α : Type} (n : Nat) (k : Nat → α) : α := match n with | 0 => k 0 | m + 1 => k (m + 1)

def befGo : List Oper → Nat → List Nat → List Nat
  | [], _, acc => acc.reverse
  | o :: rest, n, acc => force (befRow (fun j => acc.getD (n - 1 - j) 0) o) fun x => befGo rest (n + 1) (x :: acc)
def befs (ops : List Oper) : List Nat := befGo ops 0 []

/-- What a region's text says, whatever the state. -/
def statOk (ops : Array Oper) (B : List Nat) : Bool :=
  let l := ops.toList.zipIdx
  l.all (fun (o, k) => o.after.toList.all (fun e => !Region.binds .any e || Nat.blt e.on k) && Nat.beq (B.getD k 0) (befRow (fun j => B.getD j 0) o)) &&
  l.all fun (oj, j) =>
    let bj := B.getD j 0
    let lj := oj.looksAt ops
    l.all fun (oi, i) => !Nat.blt i j || bj.testBit i ||
      !((match oi.dst with | some t => lj.contains t || oj.dst == some t | none => false) || (match oj.dst with | some t => (oi.looksAt ops).contains t | none => false))

def Stp.hi (r : Dr) (k : Nat) : Nat := (r.σAt (k + 1)).next

def clash (ki kj : SK) (lo hi : Nat) : Bool :=
  (ki.isFull && kj.isFull && !(ki.lg.isEmpty && kj.lg.isEmpty)) ||
  kj.lg.any (fun c => decide (lo ≤ c) && decide (c < hi)) || kj.rd.any (fun c => decide (lo ≤ c) && decide (c < hi)) ||
  ki.rd.any (fun c => kj.lg.contains c) || ki.lg.any (fun c => kj.rd.contains c)

def quietK : SK → Bool
  | .pure [] => true
  | _ => false

/-- The rows that are not quiet: their place, what they are, the blocks they make. -/
def loud : List Stp → St → Nat → List (Nat × SK × Nat × Nat)
  | [], _, _ => []
  | s :: rest, σ, k =>
    let hi := match rest with | [] => σ.next | s' :: _ => s'.σ.next
    if quietK s.kd then loud rest σ (k + 1) else (k, s.kd, s.σ.next, hi) :: loud rest σ (k + 1)

def dynOk (B : List Nat) (r : Dr) : Bool :=
  let l := loud r.st r.σ 0
  match l with
  | [] => true
  | [_] => true
  | _ => l.all fun (j, kj, _, _) =>
    let bj := B.getD j 0
    l.all fun (i, ki, lo, hi) => decide (j ≤ i) || bj.testBit i || !clash ki kj lo hi

theorem mem_loud {σ : St} : ∀ {st : List Stp} {k j : Nat} {s : Stp}, st[j]? = some s → quietK s.kd = false →
    (k + j, s.kd, s.σ.next, (match st[j + 1]? with | some s' => s'.σ | none => σ).next) ∈ loud st σ k := by
  intro st
  induction st with
  | nil => intro k j s h; simp at h
  | cons s₀ rest ih =>
    intro k j s h hq
    cases j with
    | zero =>
      simp only [List.getElem?_cons_zero, Option.some.injEq] at h
      subst h
      simp only [loud, hq]
      cases rest with
      | nil => simp
      | cons s' r => simp
    | succ j =>
      simp only [List.getElem?_cons_succ] at h
      have := ih (k := k + 1) h hq
      rw [show k + (j + 1) = k + 1 + j by omega]
      simp only [loud]
      have e : (s₀ :: rest)[j + 1 + 1]? = rest[j + 1]? := rfl
      rw [e]
      split
      · exact this
      · exact List.mem_cons_of_mem _ this

theorem dynOk_spec {B : List Nat} {r : Dr} (h : dynOk B r = true) {i j : Nat} {si sj : Stp} (hi : r.st[i]? = some si) (hj : r.st[j]? = some sj) (hij : i < j) (ni : quietK si.kd = false) (nj : quietK sj.kd = false)
    (hc : clash si.kd sj.kd si.σ.next (r.σAt (i + 1)).next = true) : (B.getD j 0).testBit i = true := by
  have mi := mem_loud (σ := r.σ) (k := 0) hi ni
  have mj := mem_loud (σ := r.σ) (k := 0) hj nj
  rw [Nat.zero_add] at mi mj
  have hs : (match r.st[i + 1]? with | some s' => s'.σ | none => r.σ) = r.σAt (i + 1) := rfl
  rw [hs] at mi
  unfold dynOk at h
  simp only at h
  split at h
  · rename_i e; rw [e] at mi; cases mi
  · rename_i x e
    rw [e] at mi mj
    simp only [List.mem_singleton] at mi mj
    have := congrArg (·.1) (mi.trans mj.symm)
    simp at this
    omega
  · have h1 := List.all_eq_true.1 h _ mj
    simp only at h1
    have h2 := List.all_eq_true.1 h1 _ mi
    simp only [Bool.or_eq_true, Bool.not_eq_true', decide_eq_true_eq] at h2
    rcases h2 with (h2 | h2) | h2
    · omega
    · exact h2
    · rw [hc] at h2; cases h2

theorem befRow_spec {look : Nat → Nat} {o : Oper} {j : Nat} (h : (befRow look o).testBit j = true) : ∃ e ∈ o.after.toList, Region.binds .any e = true ∧ (j = e.on ∨ (look e.on).testBit j = true) := by
  unfold befRow at h
  have gen : ∀ (es : List Edge) (s : Nat), (es.foldl (fun s e => if Region.binds .any e then s ||| 2 ^ e.on ||| look e.on else s) s).testBit j = true →
      s.testBit j = true ∨ ∃ e ∈ es, Region.binds .any e = true ∧ (j = e.on ∨ (look e.on).testBit j = true) := by
    intro es
    induction es with
    | nil => intro s h; exact .inl h
    | cons e es ih =>
      intro s h
      simp only [List.foldl_cons] at h
      rcases ih _ h with h1 | ⟨e', he', h2⟩
      · split at h1
        · rename_i hb
          rw [Nat.testBit_or, Nat.testBit_or, Nat.testBit_two_pow] at h1
          simp only [Bool.or_eq_true, decide_eq_true_eq] at h1
          rcases h1 with (h1 | h1) | h1
          · exact .inl h1
          · exact .inr ⟨e, by simp, hb, .inl h1.symm⟩
          · exact .inr ⟨e, by simp, hb, .inr h1⟩
        · exact .inl h1
      · exact .inr ⟨e', by simp [he'], h2⟩
  rcases gen _ _ h with h1 | h1
  · simp at h1
  · exact h1

structure Stat (ops : Array Oper) (B : List Nat) : Prop where
  edge : ∀ k o e, ops[k]? = some o → e ∈ o.after.toList → Region.binds .any e = true → e.on < k
  row : ∀ k o, ops[k]? = some o → B.getD k 0 = befRow (fun j => B.getD j 0) o
  slot : ∀ i j oi oj t, i < j → ops[i]? = some oi → ops[j]? = some oj → oi.dst = some t ∧ (t ∈ oj.looksAt ops ∨ oj.dst = some t) ∨ t ∈ oi.looksAt ops ∧ oj.dst = some t → (B.getD j 0).testBit i = true

theorem mem_zipIdx_of {ops : Array Oper} {k : Nat} {o : Oper} (h : ops[k]? = some o) : (o, k) ∈ ops.toList.zipIdx := by
  rw [List.mem_zipIdx_iff_getElem?]
  simpa using h

theorem statOk_spec {ops : Array Oper} {B : List Nat} (h : statOk ops B = true) : Stat ops B := by
  unfold statOk at h
  simp only [Bool.and_eq_true] at h
  obtain ⟨h1, h2⟩ := h
  refine ⟨fun k o e ho he hb => ?_, fun k o ho => ?_, fun i j oi oj t hij hoi hoj ht => ?_⟩
  · have := List.all_eq_true.1 h1 _ (mem_zipIdx_of ho)
    simp only [Bool.and_eq_true] at this
    have := List.all_eq_true.1 this.1 e he
    rw [hb] at this
    simpa [Nat.blt_eq] using this
  · have := List.all_eq_true.1 h1 _ (mem_zipIdx_of ho)
    simp only [Bool.and_eq_true] at this
    exact Nat.eq_of_beq_eq_true this.2
  · have h3 := List.all_eq_true.1 h2 _ (mem_zipIdx_of hoj)
    simp only at h3
    have h4 := List.all_eq_true.1 h3 _ (mem_zipIdx_of hoi)
    simp only [Bool.or_eq_true, Bool.not_eq_true'] at h4
    rcases h4 with (h4 | h4) | h4
    · have : Nat.blt i j = true := by simpa [Nat.blt_eq] using hij
      rw [this] at h4; cases h4
    · exact h4
    · exfalso
      rw [Bool.or_eq_false_iff] at h4
      rcases ht with ⟨a1, a2⟩ | ⟨a1, a2⟩
      · have := h4.1
        rw [a1] at this
        simp only [Bool.or_eq_false_iff] at this
        rcases a2 with a2 | a2
        · have h5 := this.1
          simp at h5
          exact h5 a2
        · have h5 := this.2
          rw [a2] at h5
          simp at h5
      · have := h4.2
        rw [a2] at this
        simp at this
        exact this a1

def tab (ops : Array Oper) (B : List Nat) (r : Dr) : Tab where
  n := ops.size
  ts := r.tsAt
  σ := r.σAt
  v k := match r.st[k]? with | some s => s.v | none => undef
  kd k := match r.st[k]? with | some s => s.kd | none => .pure []
  dst k := match ops[k]? with | some o => o.dst | none => none
  lk k := match ops[k]? with | some o => o.looksAt ops | none => []
  bf i j := (B.getD j 0).testBit i

theorem clash_full {ki kj : SK} {lo hi : Nat} (h1 : ki.isFull = true) (h2 : kj.isFull = true) (h : ki.lg ≠ [] ∨ kj.lg ≠ []) : clash ki kj lo hi = true := by
  unfold clash
  have : (ki.isFull && kj.isFull && !(ki.lg.isEmpty && kj.lg.isEmpty)) = true := by
    rw [h1, h2]
    rcases h with h | h <;> cases hk : ki.lg <;> cases hj : kj.lg <;> simp_all
  rw [this]; rfl
theorem clash_makes {ki kj : SK} {lo hi c : Nat} (h1 : lo ≤ c) (h2 : c < hi) (h : c ∈ kj.lg ∨ c ∈ kj.rd) : clash ki kj lo hi = true := by
  have hb : (decide (lo ≤ c) && decide (c < hi)) = true := by
    rw [Bool.and_eq_true]; exact ⟨decide_eq_true h1, decide_eq_true h2⟩
  unfold clash
  rcases h with h | h
  · have : kj.lg.any (fun c => decide (lo ≤ c) && decide (c < hi)) = true := List.any_eq_true.2 ⟨c, h, hb⟩
    rw [this]; simp
  · have : kj.rd.any (fun c => decide (lo ≤ c) && decide (c < hi)) = true := List.any_eq_true.2 ⟨c, h, hb⟩
    rw [this]; simp
theorem clash_reads {ki kj : SK} {lo hi c : Nat} (h : c ∈ ki.rd ∧ c ∈ kj.lg ∨ c ∈ ki.lg ∧ c ∈ kj.rd) : clash ki kj lo hi = true := by
  unfold clash
  rcases h with h | h
  · have : ki.rd.any (fun c => kj.lg.contains c) = true := List.any_eq_true.2 ⟨c, h.1, by simpa using h.2⟩
    rw [this]; simp
  · have : ki.lg.any (fun c => kj.rd.contains c) = true := List.any_eq_true.2 ⟨c, h.1, by simpa using h.2⟩
    rw [this]; simp

theorem put_eq (a : Act) (d : Option Tmp) (v : Value) : a.put d v = a.put d v := rfl

theorem tab_sem {C : Cx} {orc : Orc} (hC : C.Ok P) (hO : orc.Ok P) {ops : Array Oper} {B : List Nat} {r : Dr} {ro : Option Nat} {Q : Exit → Act → World → Prop} {i : Nat} {o : Oper} {s : Stp} (ho : ops[i]? = some o) (hs : r.st[i]? = some s)
    (h : One P C orc ops.toList o s (r.σAt (i + 1))) : (tab ops B r).sem (fence ro) P ops Q i := by
  intro ρ w a K hl hsl
  have e1 : (tab ops B r).ts i = s.ts := by simp [tab, Dr.tsAt, hs]
  have e2 : (tab ops B r).σ i = s.σ := by simp [tab, Dr.σAt, hs]
  have e3 : (tab ops B r).v i = s.v := by simp [tab, hs]
  have e4 : (tab ops B r).kd i = s.kd := by simp [tab, hs]
  have e5 : (tab ops B r).dst i = o.dst := by simp [tab, ho]
  have e6 : (tab ops B r).lk i = o.looksAt ops := by simp [tab, ho]
  have e7 : (tab ops B r).σ (i + 1) = r.σAt (i + 1) := rfl
  rw [e1] at hl hsl
  rw [e6] at hsl
  rw [e2, e3, e4, e5, e7]
  have hm : VRL ρ (mk (o.looksAt ops) s.ts) (mkAct (o.looksAt ops) a).tmps.toList := by
    have := mk_VRL hl hsl
    simpa [mkAct] using this
  have hwant := wanted_slots hl hsl
  unfold wpOpIn
  rw [ho]
  simp only
  have run : ∀ {R : ORes}, stepOp C.T C.bodies o s.ts s.σ = some R → wantedA ops.toList o s.ts = true → Sound P o (mk (o.looksAt ops) s.ts) s.σ R ∧ execOp (mkAct (o.looksAt ops) a).eval o = execOp a.eval o := fun {R} h hw =>
    ⟨stepOp_sound hC.T hC.bodies (step_mk.trans h), exec_mk h a⟩
  cases h with
  | skip hw hk hv hσ =>
    rw [hk]
    simp only
    intro _ hK
    rw [if_neg (by rw [hwant, hw]; simp)]
    exact ⟨fun _ _ => trivial, hK _ (by rw [hv]; exact undef_VR ρ)⟩
  | @val rd hw hst hk hσ =>
    rw [hk]
    simp only
    intro hr hK
    rw [if_pos (by rw [hwant, hw])]
    obtain ⟨h1, h2⟩ := run hst hw
    obtain ⟨v', h3, h4⟩ := (h1 : SimVal P o _ s.σ s.v rd) ρ w _ hm hr
    rw [h2] at h3
    refine ⟨fun _ _ => trivial, ?_⟩
    show o.uponIn (fence ro) 0 P a _ _ ((o.semAt ro a.eval).run P w)
    rw [Oper.semAt_eq ro a.eval o (not_defer hst (fun _ => by simp)), h3]
    exact hK v' h4
  | @new ob rd hw hst hk hσ =>
    rw [hk]
    simp only
    intro hr hK
    rw [if_pos (by rw [hwant, hw])]
    obtain ⟨h1, h2⟩ := run hst hw
    obtain ⟨v', w', obj, sz, h3, h4, h5, h6, h7, h8⟩ := (h1 : SimNew P o _ s.σ ob s.v rd) ρ w _ hm hr
    rw [h2] at h3
    refine ⟨fun _ _ => trivial, ?_⟩
    show o.uponIn (fence ro) 0 P a _ _ ((o.semAt ro a.eval).run P w)
    rw [Oper.semAt_eq ro a.eval o (not_defer hst (fun _ => by simp)), h3]
    exact hK v' w' obj sz h4 h5 h6 h7 h8
  | @eff l hw hst hk =>
    rw [hk]
    simp only
    intro hr hK
    rw [if_pos (by rw [hwant, hw])]
    obtain ⟨h1, h2⟩ := run hst hw
    obtain ⟨ρ', v', w', h3, h4, h5⟩ := (h1 : SimEff P o _ s.σ s.v _ ∧ _).1 ρ w _ hr hm
    rw [h2] at h3
    refine ⟨fun _ _ => trivial, ?_⟩
    show o.uponIn (fence ro) 0 P a _ _ ((o.semAt ro a.eval).run P w)
    rw [Oper.semAt_eq ro a.eval o (not_defer hst (fun _ => by simp))]
    rcases h3 with h3 | ⟨h3, h3'⟩
    · rw [h3]; exact hK ρ' v' w' h4 h5
    · rw [h3]; subst h3'; exact hK ρ' undef w' h4 h5
  | @call f args l hw hst hc hk =>
    rw [hk]
    simp only
    intro hr hK
    rw [if_pos (by rw [hwant, hw])]
    obtain ⟨h1, h2⟩ := run hst hw
    obtain ⟨args', h3, h4⟩ := h1 ρ w _ hm
    rw [h2] at h3
    refine ⟨fun _ _ => trivial, ?_⟩
    show o.uponIn (fence ro) 0 P a _ _ ((o.semAt ro a.eval).run P w)
    rw [Oper.semAt_eq ro a.eval o (not_defer hst (fun _ => by simp)), h3]
    refine ⟨fun hdp => by simp [fence] at hdp, trivial, fun cs hroom => ?_⟩
    obtain ⟨e, w', fr, ⟨ρ', he, hA⟩, rest⟩ := ((hO.call _ _ _ _ _ _ hc).2 ρ w args' hr h4).2 cs (room_fence _ _)
    refine ⟨e, w', fr, ?_, rest⟩
    cases e with
    | returned v' => exact hK ρ' v' w' he hA
    | panicked c => exact he.elim
    | outgrown => exact he.elim

theorem tab_ok {C : Cx} {orc : Orc} (hC : C.Ok P) (hO : orc.Ok P) {ops : Array Oper} {B : List Nat} {r : Dr} {ro : Option Nat} {Q : Exit → Act → World → Prop} {ts : List Value} {σ : St}
    (hr : Chain P C orc ops.toList ops.toList ts σ r) (hst : statOk ops B = true) (hdy : dynOk B r = true) : (tab ops B r).Ok (fence ro) P ops Q := by
  have S := statOk_spec hst
  have getop : ∀ {i : Nat}, i < ops.size → ∃ o s, ops[i]? = some o ∧ r.st[i]? = some s ∧ One P C orc ops.toList o s (r.σAt (i + 1)) ∧ r.tsAt (i + 1) = putL s.ts o.dst s.v := fun {i} hi => by
    obtain ⟨s, h1, h2, h3⟩ := hr.one i ops[i] (by simp [hi])
    exact ⟨ops[i], s, by simp [hi], h1, h2, h3⟩
  have kd : ∀ {i : Nat} {s : Stp}, r.st[i]? = some s → (tab ops B r).kd i = s.kd := fun {i s} h => by simp [tab, h]
  have sg : ∀ {i : Nat} {s : Stp}, r.st[i]? = some s → (tab ops B r).σ i = s.σ := fun {i s} h => by simp [tab, Dr.σAt, h]
  have quiet : ∀ {i : Nat} {o : Oper} {s : Stp}, One P C orc ops.toList o s (r.σAt (i + 1)) → quietK s.kd = true → s.kd = .pure [] ∧ r.σAt (i + 1) = s.σ := fun {i o s} h hq => by
    cases h with
    | skip hw hk hv hσ => exact ⟨hk, hσ⟩
    | @val rd hw hs hk hσ =>
      rw [hk] at hq ⊢
      cases rd with
      | nil => exact ⟨rfl, hσ⟩
      | cons x xs => cases hq
    | new hw hs hk hσ => rw [hk] at hq; cases hq
    | eff hw hs hk => rw [hk] at hq; cases hq
    | call hw hs hc hk => rw [hk] at hq; cases hq
  -- a clash of two rows is an edge
  have dyn : ∀ {i j : Nat}, i < j → j < ops.size → (∀ si sj, r.st[i]? = some si → r.st[j]? = some sj → (quietK si.kd = false ∧ quietK sj.kd = false) ∧ clash si.kd sj.kd si.σ.next (r.σAt (i + 1)).next = true) → (B.getD j 0).testBit i = true := fun {i j} hij hj h => by
    obtain ⟨_, si, _, hsi, _⟩ := getop (Nat.lt_trans hij hj)
    obtain ⟨_, sj, _, hsj, _⟩ := getop hj
    obtain ⟨⟨h1, h2⟩, h3⟩ := h si sj hsi hsj
    exact dynOk_spec hdy hsi hsj hij h1 h2 h3
  have nq_full : ∀ {k : SK}, k.isFull = true → quietK k = false := fun {k} h => by cases k <;> first | rfl | cases h
  have nq_lg : ∀ {k : SK} {c : Nat}, c ∈ k.lg → quietK k = false := fun {k c} h => by
    cases k with
    | full _ => rfl
    | _ => cases h
  have nq_rd : ∀ {k : SK} {c : Nat}, c ∈ k.rd → quietK k = false := fun {k c} h => by
    cases k with
    | full _ => cases h
    | alloc _ _ => rfl
    | pure rd => cases rd with
      | nil => cases h
      | cons _ _ => rfl
  refine { size := rfl, sem := ?_, nxt := ?_, put := ?_, slots := ?_, effs := ?_, makes := ?_, reads := ?_, ready := ?_, done := ?_ }
  · intro i hi
    obtain ⟨o, s, h1, h2, h3, _⟩ := getop hi
    exact tab_sem hC hO h1 h2 h3
  · intro i hi
    obtain ⟨o, s, h1, h2, h3, _⟩ := getop hi
    rw [kd h2, sg h2]
    cases h3 with
    | skip hw hk hv hσ => rw [hk]; exact hσ
    | val hw hs hk hσ => rw [hk]; exact hσ
    | new hw hs hk hσ => rw [hk]; exact hσ
    | eff hw hs hk => rw [hk]; exact stepOp_log hC hs
    | call hw hs hc hk => rw [hk]; exact (hO.call _ _ _ _ _ _ hc).1
  · intro i hi
    obtain ⟨o, s, h1, h2, _, h3⟩ := getop hi
    have e1 : (tab ops B r).ts i = s.ts := by simp [tab, Dr.tsAt, h2]
    have e2 : (tab ops B r).v i = s.v := by simp [tab, h2]
    have e3 : (tab ops B r).dst i = o.dst := by simp [tab, h1]
    rw [e1, e2, e3]
    exact h3
  · intro i j t hij hj ht
    obtain ⟨oi, _, hoi, _⟩ := getop (Nat.lt_trans hij hj)
    obtain ⟨oj, _, hoj, _⟩ := getop hj
    refine S.slot i j oi oj t hij hoi hoj ?_
    simpa [tab, hoi, hoj] using ht
  · intro i j hij hj h1 h2 h3
    refine dyn hij hj fun si sj hsi hsj => ?_
    rw [kd hsi] at h1 h3
    rw [kd hsj] at h2 h3
    exact ⟨⟨nq_full h1, nq_full h2⟩, clash_full h1 h2 h3⟩
  · intro i j c hij hj h1 h2 h3
    refine dyn hij hj fun si sj hsi hsj => ?_
    obtain ⟨o, s, _, hs, hone, _⟩ := getop (Nat.lt_trans hij hj)
    rw [hsi] at hs; cases hs
    rw [sg hsi] at h1
    have h2' : c < (r.σAt (i + 1)).next := h2
    rw [kd hsj] at h3
    refine ⟨⟨?_, h3.elim nq_lg nq_rd⟩, clash_makes h1 h2' h3⟩
    cases hq : quietK si.kd with
    | false => rfl
    | true =>
      have := (quiet hone hq).2
      rw [this] at h2'
      omega
  · intro i j c hij hj h
    refine dyn hij hj fun si sj hsi hsj => ?_
    rw [kd hsi, kd hsj] at h
    exact ⟨h.elim (fun h => ⟨nq_rd h.1, nq_lg h.2⟩) (fun h => ⟨nq_lg h.1, nq_rd h.2⟩), clash_reads h⟩
  · intro listed i hcl hi j hj
    have hb : (B.getD i 0).testBit j = true := hj
    unfold Region.ready at hi
    rw [List.mem_filter, List.mem_range] at hi
    obtain ⟨hlt, h2⟩ := hi
    have ho : ops[i]? = some ops[i] := by simp [hlt]
    rw [ho] at h2
    simp only [Option.map_some, Option.getD_some, Bool.and_eq_true] at h2
    rw [S.row i _ ho] at hb
    obtain ⟨e, he, hbd, h3⟩ := befRow_spec hb
    have hle : listed.getD e.on false = true := by
      have := h2.2
      rw [Array.all_eq_true'] at this
      have := this e (by simpa using he)
      rw [hbd] at this
      simpa using this
    rcases h3 with h3 | h3
    · subst h3; exact hle
    · have := S.edge i _ e ho he hbd
      exact hcl j e.on (show e.on < ops.size by omega) hle h3
  · intro listed hsz hr0 i
    have hsz' : listed.size = ops.size := hsz
    induction i using Nat.strongRecOn with
    | _ i ih =>
      intro hi
      have hi' : i < ops.size := hi
      cases hl : listed.getD i false with
      | true => rfl
      | false =>
        exfalso
        have ho : ops[i]? = some ops[i] := by simp [hi']
        have : i ∈ Region.ready .any ops listed := by
          unfold Region.ready
          rw [List.mem_filter, List.mem_range]
          refine ⟨hi', ?_⟩
          rw [ho]
          simp only [Option.map_some, Option.getD_some, Bool.and_eq_true]
          refine ⟨?_, ?_⟩
          · have hil : i < listed.size := by omega
            simp only [Array.getD_eq_getD_getElem?, Array.getElem?_eq_getElem hil, Option.getD_some] at hl ⊢
            rw [hl]; rfl
          · rw [Array.all_eq_true']
            intro e he
            cases hb : Region.binds .any e with
            | false => rfl
            | true =>
              have hlt := S.edge i _ e ho (by simpa using he) hb
              have := ih e.on hlt (show e.on < ops.size by omega)
              rw [this]; rfl
        rw [hr0] at this
        cases this

end Go.Ab
