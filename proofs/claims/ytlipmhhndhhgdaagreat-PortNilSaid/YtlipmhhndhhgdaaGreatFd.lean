/- Operations that reckon: numbers, comparisons, structs and slices put together and taken apart; each with its soundness. -/
import Derived.Test.YtlipmhhndhhgdaaGreatFc
import Derived.Laws.Small
set_option linter.unusedSimpArgs false
set_option linter.unusedVariables false
namespace Go.Ab

variable {P : Program} {T : TT}

/-- An answer that is a value, the world left alone, nothing read. -/
theorem val_sound {o : Oper} {ts : List Value} {σ : St} {v : Value} (h : ∀ (ρ : Ren) (w : World) (a : Act), VRL ρ ts a.tmps.toList → ∃ v', (execOp a.eval o).run P w = .ok (.value v') w ∧ VR ρ v v') : Sound P o ts σ (.val v []) :=
  fun ρ w a hts _ => h ρ w a hts

theorem move_sound {o : Oper} {ts : List Value} {σ : St} {x : Operand} {v : Value} (ho : o.op = .move x ∨ o.op = .assign x) (hx : ev ts x = some v) : Sound P o ts σ (.val v []) := by
  refine val_sound fun ρ w a hts => ⟨a.eval x, ?_, ev_VR hts hx⟩
  rcases ho with ho | ho <;> simp [execOp, ho]

def opPick : Value → Value → Value → Option ORes
  | .bool c, u, v => some (.val (match c with | true => u | false => v) [])
  | _, _, _ => none

theorem pick_sound {o : Oper} {ts : List Value} {σ : St} {c x y : Operand} {cv u v : Value} {r : ORes} (ho : o.op = .pick c x y) (hc : ev ts c = some cv) (hx : ev ts x = some u) (hy : ev ts y = some v) (h : opPick cv u v = some r) : Sound P o ts σ r := by
  unfold opPick at h
  split at h
  · rename_i bb
    cases h
    refine val_sound fun ρ w a hts => ?_
    have h1 := ev_VR hts hc
    generalize he : a.eval c = cc at h1
    cases h1
    refine ⟨if bb then a.eval x else a.eval y, ?_, ?_⟩
    · simp [execOp, ho, he, asBool]
    · cases bb
      · exact ev_VR hts hy
      · exact ev_VR hts hx
  · cases h

def opNilCheck : Value → Option ORes
  | .pointer (some a) => some (.val (.pointer (some a)) [])
  | .func (.func f) xs ys => some (.val (.func (.func f) xs ys) [])
  | .iface t v => some (.val (.iface t v) [])
  | _ => none

theorem nilCheck_sound {o : Oper} {ts : List Value} {σ : St} {x : Operand} {v : Value} {r : ORes} (ho : o.op = .nilCheck x) (hx : ev ts x = some v) (h : opNilCheck v = some r) : Sound P o ts σ r := by
  unfold opNilCheck at h
  split at h
  all_goals first
    | cases h
      refine val_sound fun ρ w a hts => ⟨a.eval x, ?_, ev_VR hts hx⟩
      have h1 := ev_VR hts hx
      generalize he : a.eval x = cc at h1
      cases h1
      simp [execOp, ho, he]
    | cases h

def opExtract (k : Nat) : Value → Option ORes
  | .tuple ⟨vs⟩ => match lget? vs k with
    | some v => some (.val v [])
    | none => none
  | _ => none

theorem extract_sound {o : Oper} {ts : List Value} {σ : St} {k : Nat} {x : Operand} {v : Value} {r : ORes} (ho : o.op = .extract x k) (hx : ev ts x = some v) (h : opExtract k v = some r) : Sound P o ts σ r := by
  unfold opExtract at h
  split at h
  · rename_i vs
    split at h
    · rename_i u hu
      cases h
      refine val_sound fun ρ w a hts => ?_
      have h1 := ev_VR hts hx
      generalize he : a.eval x = cc at h1
      cases h1 with
      | tuple hl =>
        rename_i ys
        rw [lget?_eq] at hu
        obtain ⟨u', h2, h3⟩ := hl.get k hu
        refine ⟨u', ?_, h3⟩
        simp [execOp, ho, he, Instr.extract, h2]
    · cases h
  · cases h

/-! ### a field of a struct's value, an element of an array's value -/
def partA (T : TT) (t : TypeId) (cs : List Value) (off : Nat) : Option Value :=
  match T.und t, T.info t with
  | some d, some i => if isAggD d then (if off + i.size ≤ cs.length then some (.agg ⟨(cs.drop off).take i.size⟩) else none) else lget? cs off
  | _, _ => none

theorem partA_run (hT : T.Ok P) {ρ : Ren} {t : TypeId} {cs : List Value} {cs' : Array Value} {off : Nat} {v : Value} (hcs : VRL ρ cs cs'.toList) (h : partA T t cs off = some v) (w : World) : ∃ v', (part t cs' off).run P w = .ok v' w ∧ VR ρ v v' := by
  unfold partA at h
  split at h
  · rename_i d i hd hi
    split at h
    · rename_i hag
      split at h
      · rename_i hle
        cases h
        refine ⟨.agg ⟨(cs'.toList.drop off).take i.size⟩, ?_, .agg ((hcs.drop off).take _)⟩
        simp only [part, Sem.run_bind, run_isAgg (hT.und hd), hag, Result.andThen_ok, if_true, run_sizeOf (hT.info _ _ hi), Sem.run_pure]
        congr 2
        apply Array.ext'
        simp [List.extract_eq_take_drop]
      · cases h
    · rename_i hag
      rw [lget?_eq] at h
      obtain ⟨v', h1, h2⟩ := hcs.get off h
      refine ⟨v', ?_, h2⟩
      have h3 : cs'[off]? = some v' := by simpa using h1
      simp [part, run_isAgg (hT.und hd), hag, h3]
  · cases h

def opField (T : TT) (t : TypeId) (k : Nat) : Value → Option ORes
  | .agg ⟨cs⟩ => match T.und t with
    | some (.struct fs) => match fs.toList[k]? with
      | some f => match partA T f.type cs f.offset with
        | some v => some (.val v [])
        | none => none
      | none => none
    | _ => none
  | _ => none

theorem field_sound (hT : T.Ok P) {o : Oper} {ts : List Value} {σ : St} {t : TypeId} {k : Nat} {x : Operand} {v : Value} {r : ORes} (ho : o.op = .field t x k) (hx : ev ts x = some v) (h : opField T t k v = some r) : Sound P o ts σ r := by
  unfold opField at h
  split at h
  · rename_i cs
    split at h
    · rename_i fs hu
      split at h
      · rename_i f hf
        split at h
        · rename_i u hp
          cases h
          refine val_sound fun ρ w a hts => ?_
          have h1 := ev_VR hts hx
          generalize he : a.eval x = cc at h1
          cases h1 with
          | agg hl =>
            rename_i ys
            obtain ⟨u', h2, h3⟩ := partA_run hT (cs' := ⟨ys⟩) hl hp w
            refine ⟨u', ?_, h3⟩
            have hf' : fs[k]? = some f := by simpa using hf
            simp [execOp, ho, Instr.field, run_underlying (hT.und hu), hf', he, asAgg, h2]
        · cases h
      · cases h
    · cases h
  · cases h

def opIndex (T : TT) (t : TypeId) : Value → Value → Option ORes
  | x, .int _ n =>
    match T.und t, x with
    | some (.array len e), .agg ⟨cs⟩ =>
      match T.info e with
      | some i => if 0 ≤ n ∧ n < len then (match partA T e cs (n.toNat * i.size) with | some v => some (.val v []) | none => none) else none
      | none => none
    | some .string, .string s => if 0 ≤ n ∧ n.toNat < s.size then (match s.data.toList[n.toNat]? with | some b => some (.val (.int .u8 b.toNat) []) | none => none) else none
    | _, _ => none
  | _, _ => none

theorem index_sound (hT : T.Ok P) {o : Oper} {ts : List Value} {σ : St} {t : TypeId} {x y : Operand} {u v : Value} {r : ORes} (ho : o.op = .index t x y) (hx : ev ts x = some u) (hy : ev ts y = some v) (h : opIndex T t u v = some r) : Sound P o ts σ r := by
  unfold opIndex at h
  split at h
  · rename_i _ k n
    split at h
    · rename_i len e cs hu
      split at h
      · rename_i i hi
        split at h
        · rename_i hr
          split at h
          · rename_i u' hp
            cases h
            refine val_sound fun ρ w a hts => ?_
            have hvx := ev_VR hts hx
            have hvy := ev_VR hts hy
            generalize he : a.eval x = xv at hvx
            generalize he' : a.eval y = yv at hvy
            cases hvy
            cases hvx with
            | agg hl =>
              rename_i ys
              obtain ⟨u', h2, h3⟩ := partA_run hT (cs' := ⟨ys⟩) hl hp w
              refine ⟨u', ?_, h3⟩
              simp [execOp, ho, Instr.index, he, he', asIntOf, run_underlying (hT.und hu), hr, run_sizeOf (hT.info _ _ hi), h2]
          · cases h
        · cases h
      · cases h
    · rename_i s hu
      split at h
      · rename_i hr
        split at h
        · rename_i b hb
          cases h
          refine val_sound fun ρ w a hts => ?_
          have hvx := ev_VR hts hx
          have hvy := ev_VR hts hy
          generalize he : a.eval x = xv at hvx
          generalize he' : a.eval y = yv at hvy
          cases hvy
          cases hvx
          refine ⟨_, ?_, .int _ _⟩
          have hb' : s[n.toNat]? = some b := by
            have h2 : s.data[n.toNat]? = some b := by simpa using hb
            rw [getElem?_pos s n.toNat hr.2]
            rw [Array.getElem?_eq_some_iff] at h2
            obtain ⟨h3, h4⟩ := h2
            exact congrArg some h4
          simp [execOp, ho, Instr.index, he, he', asIntOf, run_underlying (hT.und hu), hr.1, hb']
        · cases h
      · cases h
    · cases h
  · cases h

/-! ### numbers -/
def intOp (op : BinOp) (k : IntKind) (a b : Int) : Option Value :=
  match op with
  | .add => some (.int k (k.wrap (a + b)))
  | .sub => some (.int k (k.wrap (a - b)))
  | .mul => some (.int k (k.wrap (a * b)))
  | .quo => if b = 0 then none else some (.int k (k.wrap (a.tdiv b)))
  | .rem => if b = 0 then none else some (.int k (a.tmod b))
  | .and => some (.int k (k.wrap (BitVec.ofInt k.bits a &&& BitVec.ofInt k.bits b).toNat))
  | .or => some (.int k (k.wrap (BitVec.ofInt k.bits a ||| BitVec.ofInt k.bits b).toNat))
  | .xor => some (.int k (k.wrap (BitVec.ofInt k.bits a ^^^ BitVec.ofInt k.bits b).toNat))
  | .andNot => some (.int k (k.wrap (BitVec.ofInt k.bits a &&& ~~~(BitVec.ofInt k.bits b)).toNat))
  | .eql => some (.bool (a == b))
  | .neq => some (.bool (a != b))
  | .lss => some (.bool (decide (a < b)))
  | .leq => some (.bool (decide (a ≤ b)))
  | .gtr => some (.bool (decide (b < a)))
  | .geq => some (.bool (decide (b ≤ a)))
  | _ => none

def shiftOp (op : BinOp) (k : IntKind) (a b : Int) : Option Value :=
  if b < 0 then none else
  match op with
  | .shl => some (.int k (k.wrap (a * 2 ^ (min b.toNat k.bits))))
  | .shr => some (.int k (a.fdiv (2 ^ (min b.toNat k.bits))))
  | _ => none

def isShift : BinOp → Bool
  | .shl | .shr => true
  | _ => false

theorem run_intOp {op : BinOp} {k : IntKind} {a b : Int} {v : Value} (h : intOp op k a b = some v) (t : TypeId) (w : World) : (binOp op t (.int k a) (.int k b)).run P w = .ok v w := by
  cases op <;> simp only [intOp] at h <;> first
    | (cases h; simp [binOp, Op.intArith, Op.intBits, Op.intCmp])
    | (split at h
       · cases h
       · rename_i hb; cases h; simp [binOp, Op.intDiv, hb])
    | cases h

theorem run_shiftOp {op : BinOp} {k k' : IntKind} {a b : Int} {v : Value} (h : shiftOp op k a b = some v) (t : TypeId) (w : World) : (binOp op t (.int k a) (.int k' b)).run P w = .ok v w := by
  unfold shiftOp at h
  split at h
  · cases h
  · rename_i hb
    cases op <;> simp only at h <;> first
      | (cases h; simp [binOp, Op.shift, hb])
      | cases h

/-- Equality of two values of one type. -/
def eqOp (T : TT) (t : TypeId) : Value → Value → Option Bool
  | .bool a, .bool b => match T.und t with | some .bool => some (a == b) | _ => none
  | .pointer a, .pointer b => match T.und t with
    | some (.pointer e) => match a, b with
      | none, none => some true
      | none, some _ => some false
      | some _, none => some false
      | some ⟨b₁, o₁, none⟩, some ⟨b₂, o₂, none⟩ => match T.info e with
        | some i => if i.size ≠ 0 ∧ b₁ = b₂ then some (o₁ == o₂) else none
        | none => none
      | _, _ => none
    | _ => none
  | .slice none _ _, .slice b _ _ => match T.und t with | some (.slice _) => some b.isNone | _ => none
  | .slice (some _) _ _, .slice none _ _ => match T.und t with | some (.slice _) => some false | _ => none
  | .map none, .map b => match T.und t with | some (.map _ _) => some b.isNone | _ => none
  | .map (some _), .map none => match T.und t with | some (.map _ _) => some false | _ => none
  | .nilFunc, .nilFunc => match T.und t with | some (.func _ _ _) => some true | _ => none
  | .nilFunc, .func _ _ _ => match T.und t with | some (.func _ _ _) => some false | _ => none
  | .func _ _ _, .nilFunc => match T.und t with | some (.func _ _ _) => some false | _ => none
  | .nilIface, .iface _ _ => match T.und t with | some (.interface _) => some false | _ => none
  | .iface _ _, .nilIface => match T.und t with | some (.interface _) => some false | _ => none
  | .agg ⟨xs⟩, .agg ⟨ys⟩ => match T.flat t with | some sh => eqCells sh xs ys | none => none
  | _, _ => none

theorem eqCells_VRL {ρ : Ren} : ∀ {sh : List CK} {xs ys xs' ys' : List Value} {r : Bool}, eqCells sh xs ys = some r → VRL ρ xs xs' → VRL ρ ys ys' → eqCells sh xs' ys' = some r := by
  intro sh
  induction sh with
  | nil =>
    intro xs ys xs' ys' r h hx hy
    cases hx <;> cases hy <;> first | exact h | (simp [eqCells] at h)
  | cons c sh ih =>
    intro xs ys xs' ys' r h hx hy
    cases hx with
    | nil => simp [eqCells] at h
    | cons hx tx =>
      cases hy with
      | nil => simp [eqCells] at h
      | cons hy ty =>
        unfold eqCells at h
        split at h
        · rename_i he _ _; cases he
        · rename_i sh1 k a xs1 k' b ys1 he1 he2 he3
          cases he1; cases he2; cases he3; cases hx; cases hy
          simp only [eqCells]
          split at h
          · rename_i hk
            rw [if_pos hk]
            split at h
            · rename_i hab; rw [if_pos hab]; exact ih h tx ty
            · rename_i hab; rw [if_neg hab]; exact h
          · cases h
        · rename_i sh1 a xs1 b ys1 he1 he2 he3
          cases he1; cases he2; cases he3; cases hx; cases hy
          simp only [eqCells]
          split at h
          · rename_i hab; rw [if_pos hab]; exact ih h tx ty
          · rename_i hab; rw [if_neg hab]; exact h
        · rename_i sh1 a xs1 b ys1 he1 he2 he3
          cases he1; cases he2; cases he3; cases hx; cases hy
          simp only [eqCells]
          split at h
          · rename_i hab; rw [if_pos hab]; exact ih h tx ty
          · rename_i hab; rw [if_neg hab]; exact h
        · cases h

set_option maxHeartbeats 2000000 in
theorem run_equal_eqOp (hT : T.Ok P) {ρ : Ren} {t : TypeId} {u v u' v' : Value} {r : Bool} (h : eqOp T t u v = some r) (hu : VR ρ u u') (hv : VR ρ v v') (w : World) :
    (Op.equal t u' v').run P w = .ok r w := by
  unfold Op.equal
  obtain ⟨d, e⟩ : ∃ d, Op.maxDepth = d + 1 := ⟨9999, rfl⟩
  unfold eqOp at h
  split at h
  · split at h
    · rename_i hd
      cases h; cases hu; cases hv
      rw [e]; simp [Op.equalIn, run_underlying (hT.und hd)]
    · cases h
  · split at h
    · rename_i el hd
      split at h
      · cases h; cases hu; cases hv; rw [e]; simp [Op.equalIn, run_underlying (hT.und hd)]
      · cases h; cases hu; cases hv; rw [e]; simp [Op.equalIn, run_underlying (hT.und hd)]
      · cases h; cases hu; cases hv; rw [e]; simp [Op.equalIn, run_underlying (hT.und hd)]
      · split at h
        · rename_i i hi
          split at h
          · rename_i hc
            obtain ⟨hs, rfl⟩ := hc
            cases h
            cases hu with
            | ptr hl =>
              cases hv with
              | ptr hl' =>
                rw [hl] at hl'; cases hl'
                rw [e]
                simp only [Op.equalIn, Sem.run_bind, run_underlying (hT.und hd), Result.andThen_ok, run_sizeOf (hT.info _ _ hi), hs, ne_eq, not_false_eq_true, if_true, sameAddr, beq_self_eq_true, Sem.run_pure]
                congr 1
                rw [Bool.eq_iff_iff]
                simp
          · cases h
        · cases h
      · cases h
    · cases h
  · split at h
    · rename_i hd
      cases h
      cases hu
      rw [e]
      cases hv <;> simp [Op.equalIn, run_underlying (hT.und hd)]
    · cases h
  · split at h
    · rename_i hd
      cases h
      cases hv
      rw [e]
      cases hu <;> simp [Op.equalIn, run_underlying (hT.und hd)]
    · cases h
  · split at h
    · rename_i hd
      cases h
      cases hu
      rw [e]
      cases hv <;> simp [Op.equalIn, run_underlying (hT.und hd)]
    · cases h
  · split at h
    · rename_i hd
      cases h
      cases hv
      rw [e]
      cases hu <;> simp [Op.equalIn, run_underlying (hT.und hd)]
    · cases h
  · split at h
    · rename_i hd
      cases h; cases hu; cases hv
      rw [e]; simp [Op.equalIn, run_underlying (hT.und hd)]
    · cases h
  · split at h
    · rename_i hd
      cases h; cases hu
      rw [e]; cases hv <;> simp [Op.equalIn, run_underlying (hT.und hd)]
    · cases h
  · split at h
    · rename_i hd
      cases h; cases hv
      rw [e]; cases hu <;> simp [Op.equalIn, run_underlying (hT.und hd)]
    · cases h
  · split at h
    · rename_i hd
      cases h; cases hu
      rw [e]; cases hv; simp [Op.equalIn, run_underlying (hT.und hd)]
    · cases h
  · split at h
    · rename_i hd
      cases h; cases hv
      rw [e]; cases hu; simp [Op.equalIn, run_underlying (hT.und hd)]
    · cases h
  · split at h
    · rename_i hf
      cases hu with
      | agg hx => cases hv with
        | agg hy => exact (hT.flat t _ hf).eq _ _ r w (eqCells_VRL h hx hy)
    · cases h
  · cases h

def strOp (op : BinOp) (a b : ByteArray) : Option Value :=
  match op with
  | .add => if a.size + b.size ≤ 140737488355328 then some (.string (a ++ b)) else none
  | .eql => some (.bool (a.toList == b.toList))
  | .neq => some (.bool (!(a.toList == b.toList)))
  | .lss => some (.bool (Op.bytesLess a.toList b.toList))
  | .leq => some (.bool (Op.bytesLess a.toList b.toList || a.toList == b.toList))
  | .gtr => some (.bool (!(Op.bytesLess a.toList b.toList || a.toList == b.toList)))
  | .geq => some (.bool (!(Op.bytesLess a.toList b.toList)))
  | _ => none

/-- Is it the literal nil? -/
def isNilConst : Operand → Bool
  | .const .nilIface => true
  | _ => false

def opBin (T : TT) (op : BinOp) (t : TypeId) : Value → Value → Option ORes
  | .int k a, .int k' b =>
    if isShift op then (match shiftOp op k a b with | some v => some (.val v []) | none => none)
    else if k = k' then (match intOp op k a b with | some v => some (.val v []) | none => none) else none
  | .string a, .string b => match strOp op a b with | some v => some (.val v []) | none => none
  | .nilIface, .nilIface => match T.und t, op with
    | some (.interface ms), .eql => if ms.isEmpty then some (.val (.bool true) []) else none
    | some (.interface ms), .neq => if ms.isEmpty then some (.val (.bool false) []) else none
    | _, _ => none
  | u, v => match op with
    | .eql => match eqOp T t u v with | some r => some (.val (.bool r) []) | none => none
    | .neq => match eqOp T t u v with | some r => some (.val (.bool (!r)) []) | none => none
    | _ => none

theorem eqGuard_run (hT : T.Ok P) {ρ : Ren} {op : BinOp} {t : TypeId} {x y : Operand} {u v u' v' : Value} {r : Bool} (h : eqOp T t u v = some r) (hu : VR ρ u u') (hv : VR ρ v v') (hop : op = .eql ∨ op = .neq) (w : World) : (eqGuard op t x y u' v').run P w = .ok () w := by
  rcases hop with rfl | rfl
  all_goals
    unfold eqGuard
    simp only [Bool.not_true, Bool.false_eq_true, if_false]
    split
    · cases hu; cases hv; simp [eqOp] at h
    · cases hu; cases hv
      simp only [eqOp] at h
      split at h
      · rename_i hf
        have := (hT.flat t _ hf).guard
        simp [this]
      · cases h
    · rfl

theorem eqGuard_int (op : BinOp) (t : TypeId) (x y : Operand) (k : IntKind) (a : Int) (v : Value) (w : World) : (eqGuard op t x y (.int k a) v).run P w = .ok () w := by
  rw [eqGuard_at_int]; rfl
theorem eqGuard_str (op : BinOp) (t : TypeId) (x y : Operand) (a : ByteArray) (v : Value) (w : World) : (eqGuard op t x y (.string a) v).run P w = .ok () w := by
  rw [eqGuard_at_string]; rfl

theorem run_eqGuardIn_nil {t : TypeId} {ms : Array (String × TypeId)} (hu : P.underlying t = some (.interface ms)) (hm : ms.isEmpty = true) (w : World) : (Op.eqGuardIn Op.maxDepth t .nilIface .nilIface).run P w = .ok false w := by
  obtain ⟨d, e⟩ : ∃ d, Op.maxDepth = d + 1 := ⟨9999, rfl⟩
  rw [e]
  simp [Op.eqGuardIn, run_underlying hu, hm]
theorem run_equal_nil {t : TypeId} {ms : Array (String × TypeId)} (hu : P.underlying t = some (.interface ms)) (w : World) : (Op.equal t .nilIface .nilIface).run P w = .ok true w := by
  unfold Op.equal
  obtain ⟨d, e⟩ : ∃ d, Op.maxDepth = d + 1 := ⟨9999, rfl⟩
  rw [e]
  simp [Op.equalIn, run_underlying hu]

theorem bin_sound (hT : T.Ok P) {o : Oper} {ts : List Value} {σ : St} {op : BinOp} {t t' : TypeId} {x y : Operand} {u v : Value} {r : ORes} (ho : o.op = .binOp op t x y t') (hx : ev ts x = some u) (hy : ev ts y = some v) (h : opBin T op t u v = some r) : Sound P o ts σ r := by
  unfold opBin at h
  split at h
  · rename_i k a k' b
    have key : ∀ z : Value, (∀ w, (binOp op t (.int k a) (.int k' b)).run P w = .ok z w) → plain z = true → Sound P o ts σ (.val z []) := fun z hz hp => by
      refine val_sound fun ρ w a' hts => ⟨z, ?_, plain_VR ρ z hp⟩
      have hvx := ev_VR hts hx
      have hvy := ev_VR hts hy
      generalize he : a'.eval x = xv at hvx
      generalize he' : a'.eval y = yv at hvy
      cases hvx; cases hvy
      simp [execOp, ho, he, he', eqGuard_int, hz]
    split at h
    · split at h
      · rename_i z hz
        cases h
        refine key _ (fun w => run_shiftOp hz t w) ?_
        unfold shiftOp at hz
        split at hz
        · cases hz
        · cases op <;> simp only at hz <;> (cases hz <;> rfl)
      · cases h
    · split at h
      · rename_i hk
        subst hk
        split at h
        · rename_i z hz
          cases h
          refine key _ (fun w => run_intOp hz t w) ?_
          cases op <;> simp only [intOp] at hz <;> first
            | (cases hz <;> rfl)
            | (split at hz
               · cases hz
               · cases hz; rfl)
        · cases h
      · cases h
  · rename_i a b
    split at h
    · rename_i z hz
      cases h
      have hpl : plain z = true := by
        cases op <;> simp only [strOp] at hz <;> first
          | (cases hz <;> rfl)
          | (split at hz
             · cases hz; rfl
             · cases hz)
      refine val_sound fun ρ w a' hts => ⟨z, ?_, plain_VR ρ z hpl⟩
      have hvx := ev_VR hts hx
      have hvy := ev_VR hts hy
      generalize he : a'.eval x = xv at hvx
      generalize he' : a'.eval y = yv at hvy
      cases hvx; cases hvy
      have hrun : (binOp op t (.string a) (.string b)).run P w = .ok z w := by
        cases op <;> simp only [strOp] at hz <;> first
          | (cases hz <;> simp [binOp, Op.stringOp])
          | (split at hz
             · rename_i hs
               cases hz
               simp only [binOp, Op.stringOp]
               rw [if_neg]
               · rfl
               · simp; omega
             · cases hz)
          | cases hz
      simp [execOp, ho, he, he', eqGuard_str, hrun]
    · cases h
  · have gen : ∀ (ms : _) (op' : BinOp) (z : Bool), T.und t = some (.interface ms) → ms.isEmpty = true → (op' = .eql ∧ z = true ∨ op' = .neq ∧ z = false) → o.op = .binOp op' t x y t' → Sound P o ts σ (.val (.bool z) []) := fun ms op' z hd hm hop ho => by
      have hu := hT.und hd
      refine val_sound fun ρ w a' hts => ⟨.bool z, ?_, .bool _⟩
      have hvx := ev_VR hts hx
      have hvy := ev_VR hts hy
      generalize he : a'.eval x = xv at hvx
      generalize he' : a'.eval y = yv at hvy
      cases hvx; cases hvy
      have hg : (eqGuard op' t x y .nilIface .nilIface).run P w = .ok () w := by
        rcases hop with ⟨rfl, _⟩ | ⟨rfl, _⟩ <;>
        · unfold eqGuard
          simp only [Bool.not_true, Bool.false_eq_true, if_false]
          split
          · rfl
          · simp [run_eqGuardIn_nil hu hm]
      have hb : (binOp op' t .nilIface .nilIface).run P w = .ok (.bool z) w := by
        rcases hop with ⟨rfl, rfl⟩ | ⟨rfl, rfl⟩ <;> simp [binOp, run_equal_nil hu]
      simp [execOp, ho, he, he', hg, hb]
    split at h
    · rename_i ms hd
      split at h
      · rename_i hm; cases h; exact gen ms .eql true hd hm (.inl ⟨rfl, rfl⟩) ho
      · cases h
    · rename_i ms hd
      split at h
      · rename_i hm; cases h; exact gen ms .neq false hd hm (.inr ⟨rfl, rfl⟩) ho
      · cases h
    · cases h
  · rename_i u v hne1 hne2 hne3
    split at h
    · split at h
      · rename_i r hr
        cases h
        refine val_sound fun ρ w a' hts => ⟨.bool r, ?_, .bool _⟩
        have hvx := ev_VR hts hx
        have hvy := ev_VR hts hy
        have h1 := eqGuard_run (P := P) (op := .eql) (x := x) (y := y) hT hr hvx hvy (.inl rfl) w
        have h2 := run_equal_eqOp hT hr hvx hvy w
        have h3 : (binOp .eql t (a'.eval x) (a'.eval y)).run P w = .ok (.bool r) w := by
          generalize a'.eval x = xv at *
          generalize a'.eval y = yv at *
          cases hvx <;> cases hvy <;> first
            | (simp [eqOp] at hr; done)
            | (simp [binOp, h2]; done)
            | exact absurd rfl (hne1 _ _ _ _ rfl)
            | exact absurd rfl (hne2 _ _ rfl)
        simp [execOp, ho, h1, h3]
      · cases h
    · split at h
      · rename_i r hr
        cases h
        refine val_sound fun ρ w a' hts => ⟨.bool (!r), ?_, .bool _⟩
        have hvx := ev_VR hts hx
        have hvy := ev_VR hts hy
        have h1 := eqGuard_run (P := P) (op := .neq) (x := x) (y := y) hT hr hvx hvy (.inr rfl) w
        have h2 := run_equal_eqOp hT hr hvx hvy w
        have h3 : (binOp .neq t (a'.eval x) (a'.eval y)).run P w = .ok (.bool (!r)) w := by
          generalize a'.eval x = xv at *
          generalize a'.eval y = yv at *
          cases hvx <;> cases hvy <;> first
            | (simp [eqOp] at hr; done)
            | (simp [binOp, h2]; done)
            | exact absurd rfl (hne1 _ _ _ _ rfl)
            | exact absurd rfl (hne2 _ _ rfl)
        simp [execOp, ho, h1, h3]
      · cases h
    · cases h

end Go.Ab
