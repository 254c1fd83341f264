/- What an operation does, as a function of the abstract state; and what it is for such an answer to be sound. -/
import Derived.Test.YtlipmhhndhhgdaaGreatFa
import Derived.Laws.Externs
import Derived.Laws.Entries
import Derived.Laws.Cells
import Derived.Laws.StructEq
import GoSem.Instr.Lookup
set_option linter.unusedSimpArgs false
set_option linter.unusedVariables false
namespace Go.Ab

/-! ### What is known of the types -/
/-- Kinds of cells that hold plain data. -/
inductive CK where
  | int | bool | string
  deriving DecidableEq

/-- Functions without a body that the model stands in for. -/
inductive Ext where
  | add64
  | sub64
  | clone

structure TT where
  info : TypeId → Option TypeInfo
  flat : TypeId → Option (List CK)
  ext : FuncId → Option Ext := fun _ => none

def TT.und (T : TT) (t : TypeId) : Option TypeDesc :=
  match T.info t with
  | some { desc := .named _ u, .. } => (T.info u).map (·.desc)
  | some i => some i.desc
  | none => none

/-- Equality, cell by cell. -/
def eqCells : List CK → List Value → List Value → Option Bool
  | [], [], [] => some true
  | .int :: sh, .int k a :: xs, .int k' b :: ys => if k = k' then (if a == b then eqCells sh xs ys else some false) else none
  | .bool :: sh, .bool a :: xs, .bool b :: ys => if a == b then eqCells sh xs ys else some false
  | .string :: sh, .string a :: xs, .string b :: ys => if a.toList == b.toList then eqCells sh xs ys else some false
  | _, _, _ => none

/-- Cells of these kinds. -/
def inShape : List CK → List Value → Bool
  | [], [] => true
  | .int :: sh, .int _ _ :: xs => inShape sh xs
  | .bool :: sh, .bool _ :: xs => inShape sh xs
  | .string :: sh, .string _ :: xs => inShape sh xs
  | _, _ => false

def isAggB : TypeDesc → Bool
  | .struct _ | .array _ _ => true
  | _ => false
/-- Values of this type are equal as their cells are, one by one; and each of them may be a key. -/
structure FlatEq (P : Program) (t : TypeId) (sh : List CK) : Prop where
  guard : P.eqGuardType P.depth t = false
  eq : ∀ (xs ys : List Value) (r : Bool) (w : World), eqCells sh xs ys = some r → (Op.equalIn Op.maxDepth t (.agg ⟨xs⟩) (.agg ⟨ys⟩)).run P w = .ok r w
  key : ∀ (e : Bool) (xs : List Value) (w : World), inShape sh xs = true → (Instr.checkKey e 10000 t (.agg ⟨xs⟩)).run P w = .ok () w
  desc : ∃ d, P.underlying t = some d ∧ isAggB d = true

def sub64Row : Array Value → Sem Value := fun args => do
  let (x, y, b) ← Extern.MathBitsCarry.three "Sub64" args
  pure (Extern.MathBitsCarry.pair ((x + Extern.MathBitsCarry.m64 - y - b) % Extern.MathBitsCarry.m64) (if x < y + b then 1 else 0))

def Ext.row : Ext → Array Value → Sem Value
  | .add64 => add64Entry
  | .sub64 => sub64Row
  | .clone => Extern.MapsClone.clone

def ExtIs (P : Program) (g : FuncId) (x : Ext) : Prop :=
  ∃ fn, P.funcs[g]? = some fn ∧ (fn.name == "runtime.NumGoroutine") = false ∧ fn.body.isNone = true ∧ Extern.findNext fn = none ∧ Extern.find fn = some x.row

structure TT.Ok (T : TT) (P : Program) : Prop where
  info : ∀ t i, T.info t = some i → P.info? t = some i
  flat : ∀ t sh, T.flat t = some sh → FlatEq P t sh
  ext : ∀ g x, T.ext g = some x → ExtIs P g x

theorem TT.Ok.und {T : TT} {P : Program} (h : T.Ok P) {t : TypeId} {d : TypeDesc} (hd : T.und t = some d) : P.underlying t = some d := by
  unfold TT.und at hd
  unfold Program.underlying
  cases hi : T.info t with
  | none => rw [hi] at hd; cases hd
  | some i =>
    rw [hi] at hd
    rw [h.info _ _ hi]
    obtain ⟨desc, str, size, bytes, hp, al, fal, zero, comp, meth⟩ := i
    cases desc with
    | named n u =>
      simp only [Option.map_eq_some_iff] at hd ⊢
      obtain ⟨i, h1, h2⟩ := hd
      exact ⟨i, h.info _ _ h1, h2⟩
    | _ => exact hd

theorem run_typeInfo {P : Program} {t : TypeId} {i : TypeInfo} (h : P.info? t = some i) (w : World) : (typeInfo t).run P w = .ok i w := by
  simp [typeInfo, h]
theorem run_sizeOf {P : Program} {t : TypeId} {i : TypeInfo} (h : P.info? t = some i) (w : World) : (sizeOf t).run P w = .ok i.size w := by
  simp [sizeOf, run_typeInfo h]
theorem run_zeroValue {P : Program} {t : TypeId} {i : TypeInfo} {z : Value} (h : P.info? t = some i) (hz : i.zero = some z) (w : World) : (zeroValue t).run P w = .ok z w := by
  simp [zeroValue, run_typeInfo h, hz]

def isAggD : TypeDesc → Bool
  | .struct _ | .array _ _ => true
  | _ => false
theorem run_isAgg {P : Program} {t : TypeId} {d : TypeDesc} (h : P.underlying t = some d) (w : World) : (isAgg t).run P w = .ok (isAggD d) w := by
  simp only [isAgg, Sem.run_bind, run_underlying h, Result.andThen_ok]
  cases d <;> rfl

/-! ### Operands -/
mutual
/-- A value that speaks of no block. -/
def plain : Value → Bool
  | .bool _ | .int _ _ | .string _ | .nilFunc | .nilIface | .pointer none | .slice none 0 0 | .map none => true
  | .iface _ v => plain v
  | .agg ⟨vs⟩ | .tuple ⟨vs⟩ => plainL vs
  | _ => false
def plainL : List Value → Bool
  | [] => true
  | v :: vs => plain v && plainL vs
end
mutual
theorem plain_VR (ρ : Ren) : ∀ v : Value, plain v = true → VR ρ v v
  | .bool _, _ => .bool _
  | .int _ _, _ => .int _ _
  | .string _, _ => .string _
  | .nilFunc, _ => .nilFunc
  | .nilIface, _ => .nilIface
  | .pointer none, _ => .ptrNil
  | .pointer (some _), h => by simp [plain] at h
  | .slice none 0 0, _ => .sliceNil
  | .slice none 0 (_ + 1), h => by simp [plain] at h
  | .slice none (_ + 1) _, h => by simp [plain] at h
  | .slice (some _) _ _, h => by simp [plain] at h
  | .map none, _ => .mapNil
  | .map (some _), h => by simp [plain] at h
  | .iface _ v, h => .iface (plain_VR ρ v (by simpa [plain] using h))
  | .agg ⟨vs⟩, h => .agg (plainL_VR ρ vs (by simpa [plain] using h))
  | .tuple ⟨vs⟩, h => .tuple (plainL_VR ρ vs (by simpa [plain] using h))
  | .float _ _, h => by simp [plain] at h
  | .complex _ _ _, h => by simp [plain] at h
  | .chan _, h => by simp [plain] at h
  | .func _ _ _, h => by simp [plain] at h
theorem plainL_VR (ρ : Ren) : ∀ vs : List Value, plainL vs = true → VRL ρ vs vs
  | [], _ => .nil
  | v :: vs, h => by
    simp only [plainL, Bool.and_eq_true] at h
    exact .cons (plain_VR ρ v h.1) (plainL_VR ρ vs h.2)
end

def lget : List Value → Nat → Value
  | [], _ => undef
  | v :: _, 0 => v
  | _ :: vs, n + 1 => lget vs n

def ev (ts : List Value) : Operand → Option Value
  | .tmp t => some (lget ts t)
  | .const v => if plain v then some v else none
  | .func f => some (.func (.func f) #[] #[])
  | .global _ => none

def evs (ts : List Value) : List Operand → Option (List Value)
  | [] => some []
  | x :: xs => match ev ts x with
    | none => none
    | some v => match evs ts xs with
      | none => none
      | some vs => some (v :: vs)

theorem undef_VR (ρ : Ren) : VR ρ undef undef := .tuple .nil

theorem lget_VR {ρ : Ren} {ts ts' : List Value} (h : VRL ρ ts ts') (n : Nat) : VR ρ (lget ts n) (ts'.getD n undef) := by
  induction ts generalizing ts' n with
  | nil => cases h; exact undef_VR ρ
  | cons x xs ih =>
    cases h with
    | cons h t => cases n with
      | zero => exact h
      | succ n => exact ih t n

theorem Act.eval_tmp (a : Act) (t : Nat) : a.eval (.tmp t) = a.tmps.toList.getD t undef := by
  simp [Act.eval]

theorem ev_VR {ρ : Ren} {ts : List Value} {a : Act} (h : VRL ρ ts a.tmps.toList) {x : Operand} {v : Value} (hv : ev ts x = some v) : VR ρ v (a.eval x) := by
  cases x with
  | tmp t => simp only [ev, Option.some.injEq] at hv; subst hv; rw [Act.eval_tmp]; exact lget_VR h t
  | const c =>
    simp only [ev] at hv
    split at hv
    · rename_i hc; cases hv; exact plain_VR ρ _ hc
    · cases hv
  | func f => simp only [ev, Option.some.injEq] at hv; subst hv; exact .func .nil .nil
  | global g => cases hv

theorem evs_VR {ρ : Ren} {ts : List Value} {a : Act} (h : VRL ρ ts a.tmps.toList) : ∀ {xs : List Operand} {vs : List Value}, evs ts xs = some vs → VRL ρ vs (xs.map a.eval)
  | [], vs, hv => by simp only [evs, Option.some.injEq] at hv; subst hv; exact .nil
  | x :: xs, vs, hv => by
    simp only [evs] at hv
    split at hv
    · cases hv
    · rename_i v h1
      split at hv
      · cases hv
      · rename_i vs' h2
        cases hv
        exact .cons (ev_VR h h1) (evs_VR h h2)

/-! ### Answers of an operation -/
inductive ORes where
  | val (v : Value) (rd : List Nat)
  | new (ob : AObj) (v : Value) (rd : List Nat)
  | eff (v : Value) (σ : St) (log : List Nat)
  | panic (v : Value)
  | enter (f : FuncId) (args : List Value)
  | round (l : Nat) (args : List Value)
  | defer (d : Deferred)
  | recover

/-- The blocks that an answer has looked at lie in the model as the abstract state says. -/
def Reads (ρ : Ren) (σ : St) (H : Array Obj) (rd : List Nat) : Prop :=
  ∀ b ∈ rd, ∀ l ob, ρ b = some l → σ.get b = some ob → OR ρ l H ob

def SimVal (P : Program) (o : Oper) (ts : List Value) (σ : St) (v : Value) (rd : List Nat) : Prop :=
  ∀ (ρ : Ren) (w : World) (a : Act), VRL ρ ts a.tmps.toList → Reads ρ σ w.heap rd →
    ∃ v', (execOp a.eval o).run P w = .ok (.value v') w ∧ VR ρ v v'

def SimNew (P : Program) (o : Oper) (ts : List Value) (σ : St) (ob : AObj) (v : Value) (rd : List Nat) : Prop :=
  ∀ (ρ : Ren) (w : World) (a : Act), VRL ρ ts a.tmps.toList → Reads ρ σ w.heap rd →
    ∃ v' w' obj sz, (execOp a.eval o).run P w = .ok (.value v') w' ∧ w'.heap = w.heap.push obj ∧ w'.tape = w.tape ∧ w'.os = w.os ∧ w'.output = w.output ∧
      ∀ ρ' : Ren, ρ.le ρ' → ρ' σ.next = some ⟨w.heap.size, 0, sz, none⟩ → VR ρ' v v' ∧ OR ρ' ⟨w.heap.size, 0, sz, none⟩ w'.heap ob

def RunsTo (r : Result Next) (v : Value) (w : World) : Prop := r = .ok (.value v) w ∨ (r = .ok .skip w ∧ v = undef)

def SimEff (P : Program) (o : Oper) (ts : List Value) (σ : St) (v : Value) (σ' : St) : Prop :=
  ∀ (ρ : Ren) (w : World) (a : Act), WR ρ σ w.heap → VRL ρ ts a.tmps.toList →
    ∃ ρ' v' w', RunsTo ((execOp a.eval o).run P w) v' w' ∧ VR ρ' v v' ∧ Aft ρ σ w ρ' σ' w'

def Logged (σ σ' : St) (log : List Nat) : Prop := σ.next ≤ σ'.next ∧ ∀ b, b < σ.next → b ∉ log → σ'.get b = σ.get b

def Sound (P : Program) (o : Oper) (ts : List Value) (σ : St) : ORes → Prop
  | .val v rd => SimVal P o ts σ v rd
  | .new ob v rd => SimNew P o ts σ ob v rd
  | .eff v σ' log => SimEff P o ts σ v σ' ∧ Logged σ σ' log
  | .panic v => ∀ (ρ : Ren) (w : World) (a : Act), VRL ρ ts a.tmps.toList → ∃ v', (execOp a.eval o).run P w = .halt (.panic v') w ∧ VR ρ v v'
  | .enter f args => ∀ (ρ : Ren) (w : World) (a : Act), VRL ρ ts a.tmps.toList → ∃ args' : Array Value, (execOp a.eval o).run P w = .ok (.enter f args') w ∧ VRL ρ args args'.toList
  | .round l args => ∀ (ρ : Ren) (w : World) (a : Act), VRL ρ ts a.tmps.toList → ∃ (c : Call) (l' : Loc) (args' : Array Value), o.op = .call c ∧ ρ l = some l' ∧ (execOp a.eval o).run P w = (Instr.yield l'.block args').run P w ∧ VRL ρ args args'.toList
  | .defer d => ∀ (ρ : Ren) (w : World) (a : Act), VRL ρ ts a.tmps.toList → ∃ (c : Call) (d' : Deferred), o.op = .defer c ∧ (resolve a.eval c o.type).run P w = .ok d' w ∧ DR ρ d d'
  | .recover => ∀ (w : World) (a : Act), (execOp a.eval o).run P w = .ok .recover w

theorem WR.reads {ρ : Ren} {σ : St} {H : Array Obj} (h : WR ρ σ H) (rd : List Nat) : Reads ρ σ H rd := fun b _ l ob hl ho => h.obj b l ob hl ho

theorem SimVal.eff {P : Program} {o : Oper} {ts : List Value} {σ : St} {v : Value} {rd : List Nat} (h : SimVal P o ts σ v rd) : SimEff P o ts σ v σ := by
  intro ρ w a hw ht
  obtain ⟨v', h1, h2⟩ := h ρ w a ht (hw.reads rd)
  exact ⟨ρ, v', w, .inl h1, h2, Aft.refl hw⟩

/-- A renaming with one block more. -/
def Ren.add (ρ : Ren) (n : Nat) (l : Loc) : Ren := fun b => if b = n then some l else ρ b
theorem Ren.add_same (ρ : Ren) (n : Nat) (l : Loc) : ρ.add n l n = some l := by simp [Ren.add]
theorem Ren.add_other (ρ : Ren) {n b : Nat} (l : Loc) (h : b ≠ n) : ρ.add n l b = ρ b := by simp [Ren.add, h]

/-- A new block of the model, a new block of the abstract state. -/
theorem Aft.push {ρ : Ren} {σ : St} {w w' : World} {obj : Obj} {ob : AObj} {sz : Nat} (hw : WR ρ σ w.heap) (hh : w'.heap = w.heap.push obj)
    (ht : w'.tape = w.tape) (hos : w'.os = w.os) (hout : w'.output = w.output)
    (ho : OR (ρ.add σ.next ⟨w.heap.size, 0, sz, none⟩) ⟨w.heap.size, 0, sz, none⟩ w'.heap ob) :
    Aft ρ σ w (ρ.add σ.next ⟨w.heap.size, 0, sz, none⟩) (σ.new ob) w' := by
  have hle : ρ.le (ρ.add σ.next ⟨w.heap.size, 0, sz, none⟩) := fun b l hl => by
    rw [Ren.add_other]; exact hl
    have := (hw.dom b l hl).1; omega
  have hold : ∀ k, k < w.heap.size → w'.heap[k]? = w.heap[k]? := fun k hk => by rw [hh, Array.getElem?_push_lt hk, Array.getElem?_eq_getElem hk]
  refine { ext := fun b hb => Ren.add_other ρ _ (by omega), wr := ⟨?_, ?_, ?_⟩, size := by rw [hh]; simp, fr := fun k hk _ => hold k hk, nxt := by simp, kept := ?_, dead := ?_, fresh := ?_, tape := ht, os := hos, out := hout }
  · intro b l hl
    by_cases e : b = σ.next
    · subst e
      rw [Ren.add_same] at hl; cases hl
      exact ⟨by simp, by rw [hh]; simp⟩
    · rw [Ren.add_other _ _ e] at hl
      have := hw.dom b l hl
      exact ⟨by simp; omega, by rw [hh]; simp; omega⟩
  · intro b l o hl hg
    by_cases e : b = σ.next
    · subst e
      rw [Ren.add_same] at hl; cases hl
      rw [St.get_new, if_pos rfl] at hg; cases hg
      exact ho
    · rw [Ren.add_other _ _ e] at hl
      rw [St.get_new, if_neg (by omega)] at hg
      exact ((hw.obj b l o hl hg).of_block (hold _ (hw.dom b l hl).2)).mono hle
  · intro b b' l l' hl hl' hg hg' hbl
    rw [St.get_new] at hg hg'
    by_cases e : b = σ.next
    · by_cases e' : b' = σ.next
      · omega
      · subst e
        rw [Ren.add_same] at hl; cases hl
        rw [Ren.add_other _ _ e'] at hl'
        have := (hw.dom b' l' hl').2
        simp at hbl; omega
    · by_cases e' : b' = σ.next
      · subst e'
        rw [Ren.add_same] at hl'; cases hl'
        rw [Ren.add_other _ _ e] at hl
        have := (hw.dom b l hl).2
        simp at hbl; omega
      · rw [Ren.add_other _ _ e] at hl
        rw [Ren.add_other _ _ e'] at hl'
        rw [if_neg (by omega)] at hg hg'
        exact hw.inj b b' l l' hl hl' hg hg' hbl
  · intro b hb _; rw [St.get_new, if_neg (by omega)]
  · intro b hb h; rw [St.get_new, if_neg (by omega)]; exact h
  · intro b l hb hl
    by_cases e : b = σ.next
    · subst e
      rw [Ren.add_same] at hl; cases hl
      exact .inl (Nat.le_refl _)
    · rw [Ren.add_other _ _ e] at hl
      have := (hw.dom b l hl).1; omega

theorem SimNew.eff {P : Program} {o : Oper} {ts : List Value} {σ : St} {ob : AObj} {v : Value} {rd : List Nat} (h : SimNew P o ts σ ob v rd) : SimEff P o ts σ v (σ.new ob) := by
  intro ρ w a hw ht
  obtain ⟨v', w', obj, sz, h1, hh, h3, h4, h5, h6⟩ := h ρ w a ht (hw.reads rd)
  have hle : ρ.le (ρ.add σ.next ⟨w.heap.size, 0, sz, none⟩) := fun b l hl => by
    rw [Ren.add_other]; exact hl
    have := (hw.dom b l hl).1; omega
  obtain ⟨h7, h8⟩ := h6 _ hle (Ren.add_same ρ _ _)
  exact ⟨_, v', w', .inl h1, h7, Aft.push hw hh h3 h4 h5 h8⟩

theorem logged_new (σ : St) (ob : AObj) : Logged σ (σ.new ob) [] := ⟨by simp, fun b hb _ => by rw [St.get_new, if_neg (by omega)]⟩
theorem logged_self (σ : St) (log : List Nat) : Logged σ σ log := ⟨Nat.le_refl _, fun _ _ _ => rfl⟩
theorem logged_put (σ : St) (b : Nat) (o : Option AObj) : Logged σ (σ.put b o) [b] := ⟨by simp, fun c _ hn => by
  rw [St.get_put, if_neg]; intro e; subst e; simp at hn⟩

/-- A new state of one block, which the renaming knows: nothing else turns. -/
theorem Aft.put {ρ : Ren} {σ : St} {w w' : World} {b : Nat} {l : Loc} {ob : AObj} {o' : Obj} (hw : WR ρ σ w.heap) (hl : ρ b = some l) (hlive : σ.get b ≠ none)
    (hh : w'.heap = w.heap.setIfInBounds l.block o') (ht : w'.tape = w.tape) (hos : w'.os = w.os) (hout : w'.output = w.output) (ho : OR ρ l w'.heap ob) :
    Aft ρ σ w ρ (σ.set b ob) w' := by
  have hother : ∀ k, k ≠ l.block → w'.heap[k]? = w.heap[k]? := fun k hk => by
    rw [hh, Array.getElem?_setIfInBounds_ne (by omega)]
  refine { ext := fun _ _ => rfl, wr := ⟨?_, ?_, ?_⟩, size := by rw [hh]; simp, fr := ?_, nxt := by simp, kept := ?_, dead := ?_, fresh := ?_, tape := ht, os := hos, out := hout }
  · intro c k hk
    have := hw.dom c k hk
    exact ⟨by simpa using this.1, by rw [hh]; simpa using this.2⟩
  · intro c k o hk hg
    rw [St.get_set] at hg
    split at hg
    · rename_i e; subst e; cases hg; rw [hl] at hk; cases hk; exact ho
    · rename_i e
      refine (hw.obj c k o hk hg).of_block (hother _ fun he => e ?_)
      exact hw.inj b c l k hl hk hlive (by rw [hg]; simp) he.symm
  · intro c c' k k' hk hk' hg hg' hbl
    refine hw.inj c c' k k' hk hk' ?_ ?_ hbl
    · rw [St.get_set] at hg; split at hg
      · rename_i e; subst e; exact hlive
      · exact hg
    · rw [St.get_set] at hg'; split at hg'
      · rename_i e; subst e; exact hlive
      · exact hg'
  · intro k _ hn
    exact hother k fun e => hn b l hl hlive e.symm
  · intro c _ hc
    rw [St.get_set, if_neg]; intro e; subst e; rw [hl] at hc; cases hc
  · intro c _ hc
    rw [St.get_set, if_neg]; exact hc
    intro e; subst e; exact hlive hc
  · intro c k hc hk
    have := (hw.dom c k hk).1; omega

end Go.Ab
