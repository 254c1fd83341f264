/- Operations that touch memory cells: allocation, load, store, addresses; each with its soundness. -/
import Derived.Test.YtlipmhhndhhgdaaGreatFb
import Derived.Laws.CopyRow
import Derived.Laws.Tables
import Derived.Laws.Slices
set_option linter.unusedSimpArgs false
set_option linter.unusedVariables false
namespace Go.Ab

variable {P : Program} {T : TT}

/-! ### Plumbing -/
theorem VRL.toList {ρ : Ren} {xs : List Value} {ys : Array Value} (h : VRL ρ xs ys.toList) : ∃ ys' : List Value, ys = ⟨ys'⟩ ∧ VRL ρ xs ys' := ⟨ys.toList, by simp, h⟩

def vcells : Value → List Value
  | .agg ⟨cs⟩ => cs
  | v => [v]
theorem vcells_VR {ρ : Ren} {v v' : Value} (h : VR ρ v v') : VRL ρ (vcells v) v'.cells.toList := by
  cases h <;> simp only [vcells, Value.cells] <;> first
    | assumption
    | exact .cons (by constructor <;> assumption) .nil

/-- The cells of a block, as the model has them. -/
theorem OR.cellsAt {ρ : Ren} {l : Loc} {H : Array Obj} {vs : List Value} {ro : Bool} (h : OR ρ l H (.cells vs ro)) :
    ∃ cs : List Value, VRL ρ vs cs ∧ ∀ (w : World), w.heap = H → ∀ (j : Nat) (v' : Value), cs[j]? = some v' → w.cell? ⟨l.block, l.off + j, none⟩ = some v' := by
  obtain ⟨c, e, fz, h1, h2, h3, h4, h6⟩ := h
  refine ⟨_, h6, fun w hw j v' hj => ?_⟩
  simp only [World.cell?, hw, h1]
  rw [List.getElem?_take] at hj
  split at hj
  · rw [List.getElem?_drop] at hj; simpa using hj
  · cases hj

theorem run_loadVar_agg {t : TypeId} {d : TypeDesc} {i : TypeInfo} (hu : P.underlying t = some d) (hd : isAggD d = true) (hi : P.info? t = some i) (w : World) (b o : Nat) (cs : List Value) (hn : cs.length = i.size)
    (h : ∀ (j : Nat) (v : Value), cs[j]? = some v → w.cell? ⟨b, o + j, none⟩ = some v) : (loadVar t ⟨b, o, none⟩).run P w = .ok (.agg ⟨cs⟩) w := by
  have hl := run_loadCells_list (P := P) w ⟨b, o, none⟩ cs (fun j v hj => by rw [Addr.add_lit]; exact h j v hj)
  simp [loadVar, run_isAgg hu, hd, run_sizeOf hi, ← hn, hl]
theorem run_loadVar_one {t : TypeId} {d : TypeDesc} (hu : P.underlying t = some d) (hd : isAggD d = false) (w : World) (a : Addr) (v : Value) (h : w.cell? a = some v) : (loadVar t a).run P w = .ok v w := by
  simp [loadVar, run_isAgg hu, hd, h]

def lget? : List Value → Nat → Option Value
  | [], _ => none
  | v :: _, 0 => some v
  | _ :: vs, n + 1 => lget? vs n
theorem lget?_eq (vs : List Value) (n : Nat) : lget? vs n = vs[n]? := by
  induction vs generalizing n with
  | nil => simp [lget?]
  | cons v vs ih => cases n with
    | zero => simp [lget?]
    | succ n => simp [lget?, ih]

/-! ### load -/
def opLoad (T : TT) (σ : St) (t : TypeId) : Value → Option ORes
  | .pointer (some ⟨b, off, none⟩) =>
    match T.und t, T.info t, σ.get b with
    | some d, some i, some (.cells vs _) =>
      if isAggD d then (if off + i.size ≤ vs.length then some (.val (.agg ⟨(vs.drop off).take i.size⟩) [b]) else none)
      else match lget? vs off with
        | some v => some (.val v [b])
        | none => none
    | _, _, _ => none
  | _ => none

theorem load_sound (hT : T.Ok P) {o : Oper} {ts : List Value} {σ : St} {t : TypeId} {x : Operand} {v : Value} {r : ORes} (ho : o.op = .load t x) (hx : ev ts x = some v) (h : opLoad T σ t v = some r) : Sound P o ts σ r := by
  unfold opLoad at h
  split at h
  · rename_i b off
    split at h
    · rename_i d i vs ro hd hi hg
      have hu := hT.und hd
      have hii := hT.info _ _ hi
      split at h
      · rename_i hag
        split at h
        · rename_i hlen
          cases h
          intro ρ w a hts hrd
          have hv := ev_VR hts hx
          generalize he : a.eval x = xv at hv
          cases hv with
          | ptr hl =>
            rename_i l
            obtain ⟨cs, hcs, hc⟩ := (hrd b (by simp) l _ hl hg).cellsAt
            have hlen' := hcs.length
            refine ⟨.agg ⟨(cs.drop off).take i.size⟩, ?_, .agg ((hcs.drop off).take _)⟩
            simp only [execOp, ho, Instr.loadAt, Instr.sureAddr, he]
            have := run_loadVar_agg hu hag hii w l.block (l.off + off) ((cs.drop off).take i.size) (by simp; omega) (fun j u hj => by
              rw [List.getElem?_take] at hj
              split at hj
              · rw [List.getElem?_drop] at hj
                have := hc w rfl (off + j) u hj
                rwa [← Nat.add_assoc] at this
              · cases hj)
            simp [this]
        · cases h
      · rename_i hag
        split at h
        · rename_i u hlu
          cases h
          intro ρ w a hts hrd
          have hv := ev_VR hts hx
          generalize he : a.eval x = xv at hv
          cases hv with
          | ptr hl =>
            rename_i l
            obtain ⟨cs, hcs, hc⟩ := (hrd b (by simp) l _ hl hg).cellsAt
            rw [lget?_eq] at hlu
            obtain ⟨u', h1, h2⟩ := hcs.get off hlu
            refine ⟨u', ?_, h2⟩
            simp only [execOp, ho, Instr.loadAt, Instr.sureAddr, he]
            have := run_loadVar_one hu (by simpa using hag) w ⟨l.block, l.off + off, none⟩ u' (hc w rfl off u' h1)
            simp [this]
        · cases h
    · cases h
  · cases h

/-! ### store -/
def oneCells : List Value → Bool
  | [] => true
  | v :: vs => (match v with | .agg _ | .tuple _ => false | _ => true) && oneCells vs
theorem oneCells_VRL {ρ : Ren} : ∀ {xs ys : List Value}, VRL ρ xs ys → oneCells xs = true → ∀ v ∈ ys, v.oneCell' = true
  | _, _, .nil, _ => by simp
  | _, _, .cons h t, ho => by
    simp only [oneCells, Bool.and_eq_true] at ho
    intro v hv
    cases hv with
    | head => cases h <;> first | rfl | (simp at ho)
    | tail _ hm => exact oneCells_VRL t ho.2 v hm

/-- A list with another list laid over it. -/
def over (vs : List Value) : Nat → List Value → List Value
  | 0, [] => vs
  | 0, n :: ns => match vs with
    | [] => []
    | _ :: vs => n :: over vs 0 ns
  | k + 1, ns => match vs with
    | [] => []
    | v :: vs => v :: over vs k ns
theorem over_eq (vs : List Value) (k : Nat) (ns : List Value) (h : k + ns.length ≤ vs.length) : over vs k ns = vs.take k ++ ns ++ vs.drop (k + ns.length) := by
  induction vs generalizing k ns with
  | nil => cases k with
    | zero => cases ns with
      | nil => simp [over]
      | cons n ns => simp at h
    | succ k => simp at h
  | cons v vs ih => cases k with
    | zero => cases ns with
      | nil => simp [over]
      | cons n ns => simp only [over]; rw [ih 0 ns (by simp at h ⊢; omega)]; simp
    | succ k => simp only [over]; rw [ih k ns (by simp at h ⊢; omega)]; simp [show k + 1 + ns.length = (k + ns.length) + 1 by omega]
theorem over_length (vs : List Value) (k : Nat) (ns : List Value) : (over vs k ns).length = vs.length := by
  induction vs generalizing k ns with
  | nil => cases k with
    | zero => cases ns <;> simp [over]
    | succ k => simp [over]
  | cons v vs ih => cases k with
    | zero => cases ns with
      | nil => simp [over]
      | cons n ns => simp [over, ih]
    | succ k => simp [over, ih]

def opStore (T : TT) (σ : St) (t : TypeId) : Value → Value → Option ORes
  | .pointer (some ⟨b, off, none⟩), v =>
    match T.info t, σ.get b with
    | some i, some (.cells vs false) =>
      let ns := vcells v
      if ns.length = i.size ∧ off + ns.length ≤ vs.length ∧ oneCells ns = true then some (.eff undef (σ.set b (.cells (over vs off ns) false)) [b]) else none
    | _, _ => none
  | _, _ => none

theorem splice_drop_take {α : Type} (C : List α) (p n off : Nat) (ns : List α) (h : p + n ≤ C.length) (hf : off + ns.length ≤ n) :
    ((C.take (p + off) ++ ns ++ C.drop (p + off + ns.length)).drop p).take n = ((C.drop p).take n).take off ++ ns ++ ((C.drop p).take n).drop (off + ns.length) := by
  have hR : (C.drop p).length = C.length - p := by simp
  generalize hRe : C.drop p = R at hR
  have h1 : C.take (p + off) = C.take p ++ R.take off := by rw [List.take_add, hRe]
  have h2 : C.drop (p + off + ns.length) = R.drop (off + ns.length) := by rw [← hRe, List.drop_drop, Nat.add_assoc]
  have hA : (C.take p).length = p := by simp; omega
  rw [h1, h2, List.append_assoc, List.append_assoc, List.drop_append_of_le_length (by omega), List.drop_eq_nil_of_le (by omega), List.nil_append, List.take_take, Nat.min_eq_left (by omega), List.drop_take,
    List.take_append, List.take_take, List.length_take, Nat.min_eq_left (by omega : off ≤ R.length), Nat.min_eq_right (by omega), List.take_append, List.take_of_length_le (by omega : ns.length ≤ n - off), List.append_assoc]
  congr 3
  omega

/-- Cells laid over a part of a block: what the world then holds. -/
theorem OR.over {ρ : Ren} {l : Loc} {w : World} {vs : List Value} (h : OR ρ l w.heap (.cells vs false)) (off : Nat) (ns ns' : List Value) (hn : VRL ρ ns ns') (hfit : off + ns.length ≤ vs.length) (hone : oneCells ns = true) :
    ∃ w', (storeCells ⟨l.block, l.off + off, none⟩ ns').run P w = .ok () w' ∧ OR ρ l w'.heap (.cells (over vs off ns) false) ∧ (∃ o', w'.heap = w.heap.setIfInBounds l.block o') ∧ w'.tape = w.tape ∧ w'.os = w.os ∧ w'.output = w.output := by
  obtain ⟨c, e, fz, h1, h2, h3, h4, h6⟩ := h
  obtain rfl := h4.1 rfl
  have hlen := hn.length
  have hrun := run_storeCells_at P l.block (l.off + off) e ns' 0 c w h1 (by omega) (oneCells_VRL hn hone)
  refine ⟨_, hrun, ?_, ?_, rfl, rfl, rfl⟩
  · refine ⟨_, e, (0, 0), setRow_heap w l.block c _ e (0, 0) h1, ?_, by rw [over_length]; exact h3, ⟨fun _ => rfl, fun h => by cases h⟩, ?_⟩
    · simp; omega
    · rw [over_length, over_eq vs off ns hfit]
      have hcl : c.toList.length = l.off + l.size := by simpa using h2
      have hcv : l.off + vs.length ≤ c.toList.length := by omega
      have e1 := splice_drop_take c.toList l.off vs.length off ns' hcv (by omega)
      rw [← hlen] at e1
      simp only [Nat.add_zero, ← hlen]
      rw [e1]
      refine ((h6.take off).append hn).append ?_
      exact h6.drop _
  · refine ⟨.cells (c.toList.take (l.off + off + 0) ++ ns' ++ c.toList.drop (l.off + off + 0 + ns'.length)).toArray e (0, 0), ?_⟩
    have hlt : l.block < w.heap.size := (Array.getElem?_eq_some_iff.1 h1).1
    have hv : w.heap[l.block] = .cells c e (0, 0) := (Array.getElem?_eq_some_iff.1 h1).2
    apply Array.ext_getElem?
    intro k
    simp only [World.setRow, Array.getElem?_modify, Array.getElem?_setIfInBounds]
    by_cases hk : l.block = k
    · subst hk; simp [hlt, hv]
    · simp [hk]

theorem store_sound (hT : T.Ok P) {o : Oper} {ts : List Value} {σ : St} {t : TypeId} {x y : Operand} {u v : Value} {r : ORes} (ho : o.op = .store t x y) (hx : ev ts x = some u) (hy : ev ts y = some v) (h : opStore T σ t u v = some r) : Sound P o ts σ r := by
  unfold opStore at h
  split at h
  · rename_i b off
    split at h
    · rename_i i vs hi hg
      simp only at h
      split at h
      · rename_i hc
        obtain ⟨hn, hfit, hone⟩ := hc
        cases h
        refine ⟨?_, logged_put _ _ _⟩
        intro ρ w a hw hts
        have hu := ev_VR hts hx
        have hv := ev_VR hts hy
        generalize he : a.eval x = xv at hu
        cases hu with
        | ptr hl =>
          rename_i l
          have hcells := vcells_VR hv
          obtain ⟨w', h1, h2, ⟨o', h3⟩, h4, h5, h6⟩ := OR.over (P := P) (hw.obj b l _ hl hg) off (vcells v) _ hcells hfit hone
          refine ⟨ρ, undef, w', .inr ⟨?_, rfl⟩, undef_VR ρ, Aft.put hw hl (by rw [hg]; simp) h3 h4 h5 h6 h2⟩
          have hsz : (a.eval y).cells.size = i.size := by have := hcells.length; simp at this; omega
          simp [execOp, ho, Instr.storeAt, Instr.sureAddr, he, storeVar, run_sizeOf (hT.info _ _ hi), hsz, h1]
      · cases h
    · cases h
  · cases h

/-! ### new cells -/
theorem newRow_sim {o : Oper} {ts : List Value} {σ : St} {vs : List Value} {v : Value} {rd : List Nat}
    (hrun : ∀ (ρ : Ren) (w : World) (a : Act), VRL ρ ts a.tmps.toList → Reads ρ σ w.heap rd → ∃ (vs' : List Value) (elem : TypeId) (v' : Value), VRL ρ vs vs' ∧ (execOp a.eval o).run P w = .ok (.value v') { w with heap := w.heap.push (.cells ⟨vs'⟩ elem) } ∧
      ∀ ρ' : Ren, ρ' σ.next = some ⟨w.heap.size, 0, vs'.length, none⟩ → VR ρ' v v') : SimNew P o ts σ (.cells vs false) v rd := by
  intro ρ w a hts hrd
  obtain ⟨vs', elem, v', h1, h2, h3⟩ := hrun ρ w a hts hrd
  refine ⟨v', _, .cells ⟨vs'⟩ elem, vs'.length, h2, rfl, rfl, rfl, rfl, fun ρ' hle hn => ⟨h3 ρ' hn, ?_⟩⟩
  refine ⟨⟨vs'⟩, elem, (0, 0), by simp, by simp, by rw [h1.length]; exact Nat.le_refl _, ⟨fun _ => rfl, fun h => by cases h⟩, ?_⟩
  simpa [h1.length] using h1.mono hle

def opAlloc (T : TT) (σ : St) (t : TypeId) : Option ORes :=
  match T.info t with
  | some i => match i.zero with
    | some z => if plain z = true then some (.new (.cells (vcells z) false) (.pointer (some ⟨σ.next, 0, none⟩)) []) else none
    | none => none
  | none => none

theorem alloc_sound (hT : T.Ok P) {o : Oper} {ts : List Value} {σ : St} {t : TypeId} {r : ORes} (ho : o.op = .alloc t) (h : opAlloc T σ t = some r) : Sound P o ts σ r := by
  unfold opAlloc at h
  split at h
  · rename_i i hi
    split at h
    · rename_i z hz
      split at h
      · rename_i hp
        cases h
        refine newRow_sim fun ρ w a hts _ => ⟨z.cells.toList, t, .pointer (some ⟨w.heap.size, 0, none⟩), vcells_VR (plain_VR ρ z hp), ?_, fun ρ' h => .ptr h⟩
        simp [execOp, ho, Instr.alloc, run_zeroValue (hT.info _ _ hi) hz, newVar, newRow]
      · cases h
    · cases h
  · cases h

def opBox (σ : St) (v : Value) : Option ORes := some (.new (.cells (vcells v) false) (.pointer (some ⟨σ.next, 0, none⟩)) [])

theorem box_sound {o : Oper} {ts : List Value} {σ : St} {t : TypeId} {x : Operand} {v : Value} {r : ORes} (ho : o.op = .box t x) (hx : ev ts x = some v) (h : opBox σ v = some r) : Sound P o ts σ r := by
  cases h
  refine newRow_sim fun ρ w a hts _ => ⟨(a.eval x).cells.toList, t, .pointer (some ⟨w.heap.size, 0, none⟩), vcells_VR (ev_VR hts hx), ?_, fun ρ' h => .ptr h⟩
  simp [execOp, ho, Instr.box, newVar, newRow]

/-! ### addresses -/
def opFieldAddr (T : TT) (t : TypeId) (k : Nat) : Value → Option ORes
  | .pointer (some ⟨b, off, none⟩) =>
    match T.und t with
    | some (.struct fs) => match fs.toList[k]? with
      | some f => match T.info f.type with
        | some i => if i.size = 0 then none else some (.val (.pointer (some ⟨b, off + f.offset, none⟩)) [])
        | none => none
      | none => none
    | _ => none
  | _ => none

theorem fieldAddr_sound (hT : T.Ok P) {o : Oper} {ts : List Value} {σ : St} {t : TypeId} {k : Nat} {x : Operand} {v : Value} {r : ORes} (ho : o.op = .fieldAddr t x k) (hx : ev ts x = some v) (h : opFieldAddr T t k v = some r) : Sound P o ts σ r := by
  unfold opFieldAddr at h
  split at h
  · rename_i b off
    split at h
    · rename_i fs hu
      split at h
      · rename_i f hf
        split at h
        · rename_i i hi
          split at h
          · cases h
          · rename_i hsz
            cases h
            intro ρ w a hts _
            have hv := ev_VR hts hx
            generalize he : a.eval x = xv at hv
            cases hv with
            | ptr hl =>
              rename_i l
              refine ⟨.pointer (some ⟨l.block, l.off + (off + f.offset), none⟩), ?_, .ptr hl⟩
              have hf' : fs[k]? = some f := by simpa using hf
              simp [execOp, ho, Instr.fieldAt, run_underlying (hT.und hu), hf', Instr.sureAddr, he, fieldPlace, run_sizeOf (hT.info _ _ hi), hsz, Addr.add_lit, Nat.add_assoc]
        · cases h
      · cases h
    · cases h
  · cases h

/-- The place of an element: of a slice, or of an array behind an address. -/
def opIndexAddr (T : TT) (t : TypeId) : Value → Value → Option ORes
  | x, .int _ n =>
    match T.und t, x with
    | some (.slice e), .slice (some ⟨b, off, _⟩) len _ =>
      match T.info e with
      | some i => if 0 ≤ n ∧ n < len then some (.val (.pointer (some ⟨b, off + n.toNat * i.size, none⟩)) []) else none
      | none => none
    | some (.array len e), .pointer (some ⟨b, off, none⟩) =>
      match T.info e with
      | some i => if 0 ≤ n ∧ n < len then some (.val (.pointer (some ⟨b, off + n.toNat * i.size, none⟩)) []) else none
      | none => none
    | _, _ => none
  | _, _ => none

theorem indexAddr_sound (hT : T.Ok P) {o : Oper} {ts : List Value} {σ : St} {t : TypeId} {x y : Operand} {u v : Value} {r : ORes} (ho : o.op = .indexAddr t x y) (hx : ev ts x = some u) (hy : ev ts y = some v) (h : opIndexAddr T t u v = some r) : Sound P o ts σ r := by
  unfold opIndexAddr at h
  split at h
  · rename_i _ k n
    split at h
    · rename_i e b off sp len cap hu
      split at h
      · rename_i i hi
        split at h
        · rename_i hr
          cases h
          intro ρ w a hts _
          have hvx := ev_VR hts hx
          have hvy := ev_VR hts hy
          generalize he : a.eval x = xv at hvx
          generalize he' : a.eval y = yv at hvy
          cases hvy
          have key : ∀ (l : Loc) (cap' : Nat), ρ b = some l → a.eval x = .slice (some ⟨l.block, l.off + off, none⟩) len cap' → ∃ v', (execOp a.eval o).run P w = .ok (.value v') w ∧ VR ρ (.pointer (some ⟨b, off + n.toNat * i.size, none⟩)) v' := fun l cap' hl hxe => by
            refine ⟨.pointer (some ⟨l.block, l.off + (off + n.toNat * i.size), none⟩), ?_, .ptr hl⟩
            simp [execOp, ho, Instr.indexAt, run_underlying (hT.und hu), hxe, he', asIntOf, hr, run_sizeOf (hT.info _ _ hi), Addr.add_lit, Nat.add_assoc]
          cases hvx with
          | sliceX hl => exact key _ _ hl he
          | sliceG hl => exact key _ _ hl he
          | sliceE => simp at hr; omega
        · cases h
      · cases h
    · rename_i len e b off hu
      split at h
      · rename_i i hi
        split at h
        · rename_i hr
          cases h
          intro ρ w a hts _
          have hvx := ev_VR hts hx
          have hvy := ev_VR hts hy
          generalize he : a.eval x = xv at hvx
          generalize he' : a.eval y = yv at hvy
          cases hvy
          cases hvx with
          | ptr hl =>
            rename_i l
            refine ⟨.pointer (some ⟨l.block, l.off + (off + n.toNat * i.size), none⟩), ?_, .ptr hl⟩
            simp [execOp, ho, Instr.indexAt, run_underlying (hT.und hu), he, he', asIntOf, Instr.sureAddr, hr, run_sizeOf (hT.info _ _ hi), Addr.add_lit, Nat.add_assoc]
        · cases h
      · cases h
    · cases h
  · cases h

end Go.Ab
