/- Operations that put structs and slices together, cut slices, turn kinds, wrap values; each with its soundness. -/
import Derived.Test.YtlipmhhndhhgdaaGreatFd
import Derived.Laws.Slices
set_option linter.unusedSimpArgs false
set_option linter.unusedVariables false
namespace Go.Ab

variable {P : Program} {T : TT}

/-! ### build, buildSlice -/
theorem foldl_lay (v : List Value) (off k : Nat) (cs : Array Value) (h : off + k + v.length ≤ cs.size) :
    ((v.zipIdx k).foldl (fun (cs : Array Value) (p : Value × Nat) => cs.setIfInBounds (off + p.2) p.1) cs).toList = cs.toList.take (off + k) ++ v ++ cs.toList.drop (off + k + v.length) := by
  induction v generalizing k cs with
  | nil => simp
  | cons x v ih =>
    simp only [List.zipIdx_cons, List.foldl_cons, List.length_cons]
    rw [ih (k + 1) _ (by simp at h ⊢; omega)]
    have hlt : off + k < cs.toList.length := by simp at h ⊢; omega
    rw [Array.toList_setIfInBounds]
    have e1 : (cs.toList.set (off + k) x).take (off + (k + 1)) = cs.toList.take (off + k) ++ [x] := by
      rw [show off + (k + 1) = (off + k) + 1 by omega, List.take_set, List.take_succ_eq_append_getElem hlt, List.set_append_right _ _ (by simp; omega)]
      have hcs : off + k < cs.size := by simpa using hlt
      have hm : min (off + k) cs.size = off + k := Nat.min_eq_left (by omega)
      simp [hm]
    have e2 : (cs.toList.set (off + k) x).drop (off + (k + 1) + v.length) = cs.toList.drop (off + k + (v.length + 1)) := by
      rw [List.drop_set_of_lt (by omega)]
      congr 1
      omega
    rw [e1, e2]
    simp

def fillA (place : Nat → Option (Nat × Nat)) (cells : List Value) : List (Nat × Value) → Option (List Value)
  | [] => some cells
  | (i, v) :: rest =>
    match place i with
    | none => none
    | some (off, size) => if (vcells v).length = size ∧ off + (vcells v).length ≤ cells.length then fillA place (over cells off (vcells v)) rest else none

def PartsR (ρ : Ren) : List (Nat × Value) → List (Nat × Value) → Prop
  | [], [] => True
  | (i, v) :: r, (j, w) :: s => (i = j ∧ VR ρ v w) ∧ PartsR ρ r s
  | _, _ => False

theorem fillA_run {ρ : Ren} {place : Nat → Option (Nat × Nat)} : ∀ {ps ps' : List (Nat × Value)} {cs : List Value} {cs' : Array Value} {r : List Value}, fillA place cs ps = some r → PartsR ρ ps ps' → VRL ρ cs cs'.toList →
    ∃ r' : Array Value, Instr.fill place cs' ps' = some r' ∧ VRL ρ r r'.toList
  | [], [], cs, cs', r, h, _, hc => by cases h; exact ⟨cs', rfl, hc⟩
  | (i, v) :: ps, (j, w) :: ps', cs, cs', r, h, hp, hc => by
    obtain ⟨⟨rfl, hv⟩, hp⟩ := hp
    simp only [fillA] at h
    split at h
    · cases h
    · rename_i off size hpl
      split at h
      · rename_i hs
        obtain ⟨hs1, hs2⟩ := hs
        have hvc := vcells_VR hv
        have hl1 := hvc.length
        have hl2 := hc.length
        simp at hl1 hl2
        have hlay := foldl_lay w.cells.toList off 0 cs' (by simp; omega)
        have hz : (w.cells.zipIdx.foldl (fun (cs : Array Value) (p : Value × Nat) => cs.setIfInBounds (off + p.2) p.1) cs') = ((w.cells.toList.zipIdx 0).foldl (fun (cs : Array Value) (p : Value × Nat) => cs.setIfInBounds (off + p.2) p.1) cs') := by
          rw [← Array.foldl_toList]; simp
        have hnew : VRL ρ (over cs off (vcells v)) (w.cells.zipIdx.foldl (fun (cs : Array Value) (p : Value × Nat) => cs.setIfInBounds (off + p.2) p.1) cs').toList := by
          rw [hz, hlay, over_eq _ _ _ hs2, Nat.add_zero]
          refine ((hc.take _).append hvc).append ?_
          have := hc.drop (off + (vcells v).length)
          simpa [hl1] using this
        obtain ⟨r', h1, h2⟩ := fillA_run h hp hnew
        refine ⟨r', ?_, h2⟩
        simp only [Instr.fill, hpl]
        rw [if_neg]
        · exact h1
        · simp; omega
      · cases h
  | [], _ :: _, _, _, _, _, hp, _ => hp.elim
  | _ :: _, [], _, _, _, _, hp, _ => hp.elim

def partsA (ts : List Value) : List (Nat × Operand) → Option (List (Nat × Value))
  | [] => some []
  | (i, x) :: r => match ev ts x with
    | none => none
    | some v => match partsA ts r with
      | none => none
      | some s => some ((i, v) :: s)

theorem partsA_VR {ρ : Ren} {ts : List Value} {a : Act} (h : VRL ρ ts a.tmps.toList) : ∀ {xs : List (Nat × Operand)} {ps : List (Nat × Value)}, partsA ts xs = some ps → PartsR ρ ps (xs.map fun p => (p.1, a.eval p.2))
  | [], ps, hv => by simp only [partsA, Option.some.injEq] at hv; subst hv; trivial
  | (i, x) :: xs, ps, hv => by
    simp only [partsA] at hv
    split at hv
    · cases hv
    · rename_i v h1
      split at hv
      · cases hv
      · rename_i vs' h2
        cases hv
        exact ⟨⟨rfl, ev_VR h h1⟩, partsA_VR h h2⟩

/-- The places of a struct's fields. -/
def placesA (T : TT) : List Field → Option (List (Nat × Nat))
  | [] => some []
  | f :: fs => match T.info f.type with
    | none => none
    | some i => match placesA T fs with
      | none => none
      | some r => some ((f.offset, i.size) :: r)

theorem placesA_run (hT : T.Ok P) (w : World) : ∀ {fs : List Field} {r : List (Nat × Nat)}, placesA T fs = some r → (fs.mapM fun f => Prod.mk f.offset <$> sizeOf f.type : Sem (List (Nat × Nat))).run P w = .ok r w
  | [], r, h => by cases h; simp
  | f :: fs, r, h => by
    simp only [placesA] at h
    split at h
    · cases h
    · rename_i i hi
      split at h
      · cases h
      · rename_i r' hr'
        cases h
        have := placesA_run hT w hr'
        simp only [List.mapM_cons, Sem.run_bind, Sem.run_map, run_sizeOf (hT.info _ _ hi), Result.andThen_ok, Sem.run_pure, this]

def opBuild (T : TT) (t : TypeId) (ps : List (Nat × Value)) : Option ORes :=
  match T.und t, T.info t with
  | some (.struct fs), some i => match i.zero with
    | some z => if plain z = true then (match placesA T fs.toList with
      | some pl => match fillA (lgetP pl) (vcells z) ps with
        | some cs => some (.val (.agg ⟨cs⟩) [])
        | none => none
      | none => none) else none
    | none => none
  | some (.array _ e), some i => match i.zero, T.info e with
    | some z, some ie => if plain z = true then (match fillA (fun i => some (i * ie.size, ie.size)) (vcells z) ps with
      | some cs => some (.val (.agg ⟨cs⟩) [])
      | none => none) else none
    | _, _ => none
  | _, _ => none
where lgetP : List (Nat × Nat) → Nat → Option (Nat × Nat)
  | [], _ => none
  | v :: _, 0 => some v
  | _ :: vs, n + 1 => lgetP vs n

theorem lgetP_eq (l : List (Nat × Nat)) (n : Nat) : opBuild.lgetP l n = l[n]? := by
  induction l generalizing n with
  | nil => simp [opBuild.lgetP]
  | cons v vs ih => cases n with
    | zero => simp [opBuild.lgetP]
    | succ n => simp [opBuild.lgetP, ih]

theorem build_sound (hT : T.Ok P) {o : Oper} {ts : List Value} {σ : St} {t : TypeId} {xs : Array (Nat × Operand)} {ps : List (Nat × Value)} {r : ORes} (ho : o.op = .build t xs) (hx : partsA ts xs.toList = some ps) (h : opBuild T t ps = some r) : Sound P o ts σ r := by
  unfold opBuild at h
  split at h
  · rename_i fs i hu hi
    split at h
    · rename_i z hz
      split at h
      · rename_i hp
        split at h
        · rename_i pl hpl
          split at h
          · rename_i cs hcs
            cases h
            refine val_sound fun ρ w a hts => ?_
            have hps := partsA_VR hts hx
            obtain ⟨r', h1, h2⟩ := fillA_run (cs' := z.cells) hcs hps (vcells_VR (plain_VR ρ z hp))
            refine ⟨.agg r', ?_, ?_⟩
            · have hm := placesA_run hT w hpl
              have hfun : (opBuild.lgetP pl) = fun i => pl[i]? := funext (lgetP_eq pl)
              rw [hfun] at h1
              simp only [execOp, ho, Instr.build, Sem.run_bind, run_zeroValue (hT.info _ _ hi) hz, run_underlying (hT.und hu), Result.andThen_ok]
              rw [Array.mapM_eq_mapM_toList]
              simp [hm, h1]
            · have := h2.toList
              exact .agg h2
          · cases h
        · cases h
      · cases h
    · cases h
  · rename_i n e i hu hi
    split at h
    · rename_i z ie hz hie
      split at h
      · rename_i hp
        split at h
        · rename_i cs hcs
          cases h
          refine val_sound fun ρ w a hts => ?_
          have hps := partsA_VR hts hx
          obtain ⟨r', h1, h2⟩ := fillA_run (cs' := z.cells) hcs hps (vcells_VR (plain_VR ρ z hp))
          refine ⟨.agg r', ?_, .agg h2⟩
          simp only [execOp, ho, Instr.build, Sem.run_bind, run_zeroValue (hT.info _ _ hi) hz, run_underlying (hT.und hu), Result.andThen_ok, run_sizeOf (hT.info _ _ hie)]
          simp [h1]
        · cases h
      · cases h
    · cases h
  · cases h

/-- Noughts: so many times the cells of a zero value. -/
def zerosN (z : List Value) : Nat → List Value
  | 0 => []
  | n + 1 => z ++ zerosN z n
theorem zerosN_length (z : List Value) (n : Nat) : (zerosN z n).length = n * z.length := by
  induction n with
  | zero => simp [zerosN]
  | succ n ih => simp [zerosN, ih, Nat.add_mul]; omega
theorem zerosN_get (z : List Value) (n i : Nat) (h : i < n * z.length) : (zerosN z n)[i]? = z[i % z.length]? := by
  induction n generalizing i with
  | zero => simp at h
  | succ n ih =>
    simp only [zerosN]
    by_cases hi : i < z.length
    · rw [List.getElem?_append_left hi, Nat.mod_eq_of_lt hi]
    · rw [List.getElem?_append_right (by omega), ih _ (by rw [Nat.add_mul] at h; omega)]
      congr 1
      rw [← Nat.mod_eq_sub_mod (by omega)]
theorem zerosN_range (z : Array Value) (n : Nat) (hz : z.size ≠ 0 ∨ n = 0) : ((Array.range (n * z.size)).map fun i => z[i % z.size]!).toList = zerosN z.toList n := by
  apply List.ext_getElem?
  intro i
  by_cases h : i < n * z.toList.length
  · rw [zerosN_get _ _ _ h]
    have h' : i < n * z.size := by simpa using h
    have hpos : 0 < z.size := by rcases Nat.eq_zero_or_pos z.size with h0 | h0; (rw [h0] at h'; omega); exact h0
    have hm : i % z.size < z.size := Nat.mod_lt _ hpos
    simp [h', hm]
  · rw [show (zerosN z.toList n)[i]? = none from List.getElem?_eq_none (by rw [zerosN_length]; omega), List.getElem?_eq_none]
    simp at h ⊢; omega
theorem zerosN_VRL {ρ : Ren} {z z' : List Value} (h : VRL ρ z z') (n : Nat) : VRL ρ (zerosN z n) (zerosN z' n) := by
  induction n with
  | zero => exact .nil
  | succ n ih => exact h.append ih

def opBuildSlice (T : TT) (σ : St) (t : TypeId) (n : Nat) (ps : List (Nat × Value)) : Option ORes :=
  match T.und t with
  | some (.slice e) => match T.info e with
    | some ie => match ie.zero with
      | some z => if plain z = true ∧ (vcells z).length = ie.size ∧ ie.size ≠ 0 ∧ n * ie.size ≤ 16777216 then (match fillA (fun i => some (i * ie.size, ie.size)) (zerosN (vcells z) n) ps with
        | some cs => some (.new (.cells cs false) (.slice (some ⟨σ.next, 0, some 0⟩) n n) [])
        | none => none) else none
      | none => none
    | none => none
  | _ => none

theorem buildSlice_sound (hT : T.Ok P) {o : Oper} {ts : List Value} {σ : St} {t : TypeId} {n : Nat} {xs : Array (Nat × Operand)} {ps : List (Nat × Value)} {r : ORes} (ho : o.op = .buildSlice t n xs) (hx : partsA ts xs.toList = some ps) (h : opBuildSlice T σ t n ps = some r) : Sound P o ts σ r := by
  unfold opBuildSlice at h
  split at h
  · rename_i e hu
    split at h
    · rename_i ie hie
      split at h
      · rename_i z hz
        split at h
        · rename_i hc
          obtain ⟨hp, hlen, hne, hbig⟩ := hc
          split at h
          · rename_i cs hcs
            cases h
            refine newRow_sim fun ρ w a hts _ => ?_
            have hps := partsA_VR hts hx
            have hzc : z.cells.size = ie.size := by have := (vcells_VR (plain_VR ρ z hp)).length; simp at this; omega
            have hz0 := zerosN_VRL (vcells_VR (plain_VR ρ z hp)) n
            rw [← zerosN_range z.cells n (.inl (by omega)), hzc] at hz0
            obtain ⟨r', h1, h2⟩ := fillA_run hcs hps hz0
            refine ⟨r'.toList, e, .slice (some ⟨w.heap.size, 0, none⟩) n n, h2, ?_, fun ρ' h => .sliceX h⟩
            simp only [execOp, ho, Instr.buildSlice, Sem.run_bind, run_underlying (hT.und hu), Result.andThen_ok, run_sizeOf (hT.info _ _ hie)]
            rw [if_neg (by have : (2 : Nat) ^ 24 = 16777216 := by decide
                           omega)]
            by_cases hz0 : n * ie.size = 0
            · have hn0 : n = 0 := by rcases Nat.mul_eq_zero.1 hz0 with h | h; exact h; exact absurd h hne
              subst hn0
              simp [Array.range_zero'] at h1
              simp [h1, newRow, Array.range_zero']
            · have hr : (Array.range (n * ie.size)).map (fun i => z.cells[i % z.cells.size]!) = (Array.range (n * ie.size)).map (fun i => z.cells[i % ie.size]!) := by rw [hzc]
              simp [hz0, run_zeroValue (hT.info _ _ hie) hz, hr, h1, newRow]
          · cases h
        · cases h
      · cases h
    · cases h
  · cases h

/-! ### make of a slice -/
def opMakeSlice (T : TT) (σ : St) (t : TypeId) : Value → Value → Option ORes
  | .int _ n, .int _ c =>
    match T.und t with
    | some (.slice e) => match T.info e with
      | some ie => match ie.zero with
        | some z => if plain z = true ∧ (vcells z).length = ie.size ∧ ie.size ≠ 0 ∧ 0 ≤ n ∧ n ≤ c ∧ c < 4294967296 ∧ ie.bytes ≤ 4096 then
            some (.new (.cells (zerosN (vcells z) c.toNat) false) (.slice (some ⟨σ.next, 0, some 0⟩) n.toNat c.toNat) []) else none
        | none => none
      | none => none
    | _ => none
  | _, _ => none

theorem wrap_small {n : Int} (h0 : 0 ≤ n) (h1 : n < 4294967296) : IntKind.i64.wrap n = n := by
  have h2 : n % (2 ^ IntKind.i64.bits : Int) = n := Int.emod_eq_of_lt h0 (by
    have : (2 : Int) ^ IntKind.i64.bits = 18446744073709551616 := by decide
    omega)
  unfold IntKind.wrap
  simp only [h2]
  rw [if_neg]
  simp [IntKind.signed, IntKind.bits]
  omega

theorem makeSlice_sound (hT : T.Ok P) {o : Oper} {ts : List Value} {σ : St} {t : TypeId} {x y : Operand} {u v : Value} {r : ORes} (ho : o.op = .makeSlice t x y) (hx : ev ts x = some u) (hy : ev ts y = some v) (h : opMakeSlice T σ t u v = some r) : Sound P o ts σ r := by
  unfold opMakeSlice at h
  split at h
  · rename_i k n k' c
    split at h
    · rename_i e hu
      split at h
      · rename_i ie hie
        split at h
        · rename_i z hz
          split at h
          · rename_i hc
            obtain ⟨hp, hlen, hne, h0, hnc, hbig, hby⟩ := hc
            cases h
            refine newRow_sim fun ρ w a hts _ => ?_
            have hvx := ev_VR hts hx
            have hvy := ev_VR hts hy
            generalize he : a.eval x = xv at hvx
            generalize he' : a.eval y = yv at hvy
            cases hvx; cases hvy
            have hzc : z.cells.size = ie.size := by have := (vcells_VR (plain_VR ρ z hp)).length; simp at this; omega
            refine ⟨zerosN z.cells.toList c.toNat, e, .slice (some ⟨w.heap.size, 0, none⟩) n.toNat c.toNat, zerosN_VRL (vcells_VR (plain_VR ρ z hp)) _, ?_, fun ρ' h => .sliceX h⟩
            have hw1 : IntKind.i64.wrap n = n := wrap_small h0 (by omega)
            have hw2 : IntKind.i64.wrap c = c := wrap_small (by omega) hbig
            have hmul : (ie.bytes : Int) * c ≤ 4096 * 4294967296 := Int.mul_le_mul (by omega) (by omega) (by omega) (by omega)
            have hrange : ((Array.range (c.toNat * ie.size)).map fun i => z.cells[i % z.cells.size]!) = ⟨zerosN z.cells.toList c.toNat⟩ := by
              apply Array.ext'
              rw [← hzc]
              exact zerosN_range z.cells c.toNat (.inl (by omega))
            simp only [execOp, ho, Instr.makeSlice, he, he', asInt, asIntOf, Sem.run_bind, run_underlying (hT.und hu), Result.andThen_ok, Sem.run_pure, run_typeInfo (hT.info _ _ hie), hw1, hw2]
            rw [if_neg]
            · by_cases hz0 : c.toNat * ie.size = 0
              · have hc0 : c.toNat = 0 := by rcases Nat.mul_eq_zero.1 hz0 with h | h; exact h; exact absurd h hne
                simp [run_sizeOf (hT.info _ _ hie), hc0, newRow, zerosN, Array.range_zero']
              · simp [run_sizeOf (hT.info _ _ hie), hz0, newRow, run_zeroValue (hT.info _ _ hie) hz, hrange]
            · simp
              omega
          · cases h
        · cases h
      · cases h
    · cases h
  · cases h

/-! ### one kind into another, wrapped values, functions -/
def opUn (op : UnOp) : Value → Option ORes
  | .bool b => match op with | .not => some (.val (.bool (!b)) []) | _ => none
  | .int k n => match op with
    | .neg => some (.val (.int k (k.wrap (0 - n))) [])
    | .xor => match intOp .xor k (if k.signed then -1 else k.max) n with | some v => some (.val v []) | none => none
    | _ => none
  | _ => none

theorem un_sound {o : Oper} {ts : List Value} {σ : St} {op : UnOp} {t : TypeId} {x : Operand} {v : Value} {r : ORes} (ho : o.op = .unOp op t x) (hx : ev ts x = some v) (h : opUn op v = some r) : Sound P o ts σ r := by
  unfold opUn at h
  split at h
  · rename_i bb
    split at h
    · cases h
      refine val_sound fun ρ w a hts => ⟨.bool (!bb), ?_, .bool _⟩
      have hv := ev_VR hts hx
      generalize he : a.eval x = xv at hv
      cases hv
      simp [execOp, ho, he, Op.unary]
    · cases h
  · rename_i k n
    split at h
    · cases h
      refine val_sound fun ρ w a hts => ⟨_, ?_, .int _ _⟩
      have hv := ev_VR hts hx
      generalize he : a.eval x = xv at hv
      cases hv
      simp [execOp, ho, he, Op.unary, Op.intArith]
    · simp only [intOp] at h
      cases h
      refine val_sound fun ρ w a hts => ⟨_, ?_, .int _ _⟩
      have hv := ev_VR hts hx
      generalize he : a.eval x = xv at hv
      cases hv
      simp [execOp, ho, he, Op.unary, Op.intBits]
    · cases h
  · cases h

def opConvert (T : TT) (s d : TypeId) : Value → Option ORes
  | .int _ n => match T.und s, T.und d with
    | some (.int _), some (.int k) => some (.val (.int k (k.wrap n)) [])
    | _, _ => none
  | _ => none

theorem convert_sound (hT : T.Ok P) {o : Oper} {ts : List Value} {σ : St} {s d : TypeId} {x : Operand} {v : Value} {r : ORes} (ho : o.op = .convert s d x) (hx : ev ts x = some v) (h : opConvert T s d v = some r) : Sound P o ts σ r := by
  unfold opConvert at h
  split at h
  · rename_i k' n
    split at h
    · rename_i k'' k hs hd
      cases h
      refine val_sound fun ρ w a hts => ⟨_, ?_, .int _ _⟩
      have hv := ev_VR hts hx
      generalize he : a.eval x = xv at hv
      cases hv
      simp [execOp, ho, he, convert, run_underlying (hT.und hs), run_underlying (hT.und hd), Conv.intToInt]
    · cases h
  · cases h

def isIfaceD : TypeDesc → Bool
  | .interface _ => true
  | _ => false

def opMakeIface (T : TT) (t : TypeId) (v : Value) : Option ORes :=
  match T.und t with
  | some d => if isIfaceD d then none else some (.val (.iface t v) [])
  | none => none

theorem makeIface_sound (hT : T.Ok P) {o : Oper} {ts : List Value} {σ : St} {t : TypeId} {x : Operand} {v : Value} {r : ORes} (ho : o.op = .makeInterface t x) (hx : ev ts x = some v) (h : opMakeIface T t v = some r) : Sound P o ts σ r := by
  unfold opMakeIface at h
  split at h
  · rename_i d hu
    split at h
    · cases h
    · rename_i hd
      cases h
      refine val_sound fun ρ w a hts => ⟨.iface t (a.eval x), ?_, .iface (ev_VR hts hx)⟩
      simp only [execOp, ho, Instr.makeInterface, Sem.run_bind, run_underlying (hT.und hu), Result.andThen_ok]
      cases d <;> first
        | rfl
        | (simp [isIfaceD] at hd)
  · cases h

def opMakeFunc (fn : Fn) (xs ys : List Value) : Option ORes :=
  match fn with
  | .func f => some (.val (.func (.func f) ⟨xs⟩ ⟨ys⟩) [])
  | _ => none

theorem makeFunc_sound {o : Oper} {ts : List Value} {σ : St} {fn : Fn} {xs ys : Array Operand} {us vs : List Value} {r : ORes} (ho : o.op = .makeFunc fn xs ys) (hx : evs ts xs.toList = some us) (hy : evs ts ys.toList = some vs) (h : opMakeFunc fn us vs = some r) : Sound P o ts σ r := by
  unfold opMakeFunc at h
  split at h
  · rename_i f
    cases h
    refine val_sound fun ρ w a hts => ⟨.func (.func f) ⟨xs.toList.map a.eval⟩ ⟨ys.toList.map a.eval⟩, ?_, .func (evs_VR hts hx) (evs_VR hts hy)⟩
    have e1 : xs.map a.eval = ⟨xs.toList.map a.eval⟩ := by apply Array.ext'; simp
    have e2 : ys.map a.eval = ⟨ys.toList.map a.eval⟩ := by apply Array.ext'; simp
    simp [execOp, ho, Instr.makeFunc, e1, e2]
  · cases h

/-- 'x, ok := y.(T)', T no interface. -/
def opTypeAssert (T : TT) (asserted : TypeId) (ok : Bool) : Value → Option ORes
  | .nilIface => match T.und asserted, T.info asserted with
    | some d, some i => match i.zero with
      | some z => if isIfaceD d = false ∧ ok = true ∧ plain z = true then some (.val (.tuple ⟨[z, .bool false]⟩) []) else none
      | none => none
    | _, _ => none
  | .iface t v => match T.und asserted, T.info asserted with
    | some d, some i => if isIfaceD d then none else
      if t = asserted then some (.val (if ok then .tuple ⟨[v, .bool true]⟩ else v) []) else
        match i.zero with
        | some z => if ok = true ∧ plain z = true then some (.val (.tuple ⟨[z, .bool false]⟩) []) else none
        | none => none
    | _, _ => none
  | _ => none

theorem typeAssert_sound (hT : T.Ok P) {o : Oper} {ts : List Value} {σ : St} {t u : TypeId} {ok : Bool} {x : Operand} {v : Value} {r : ORes} (ho : o.op = .typeAssert x t u ok) (hx : ev ts x = some v) (h : opTypeAssert T u ok v = some r) : Sound P o ts σ r := by
  unfold opTypeAssert at h
  split at h
  · split at h
    · rename_i d i hu hi
      split at h
      · rename_i z hz
        split at h
        · rename_i hc
          obtain ⟨hd, hok, hp⟩ := hc
          cases h
          refine val_sound fun ρ w a hts => ⟨.tuple ⟨[z, .bool false]⟩, ?_, .tuple (.cons (plain_VR ρ z hp) (.cons (.bool _) .nil))⟩
          have hv := ev_VR hts hx
          generalize he : a.eval x = xv at hv
          cases hv
          simp only [execOp, ho, he, Instr.typeAssert, Sem.run_bind, run_underlying (hT.und hu), Result.andThen_ok]
          cases d <;> first
            | (simp [hok, run_zeroValue (hT.info _ _ hi) hz]; done)
            | (simp [isIfaceD] at hd)
        · cases h
      · cases h
    · cases h
  · rename_i t' v'
    split at h
    · rename_i d i hu hi
      split at h
      · cases h
      · rename_i hd
        split at h
        · rename_i htt
          subst htt
          cases h
          refine val_sound fun ρ w a hts => ?_
          have hv := ev_VR hts hx
          generalize he : a.eval x = xv at hv
          cases hv with
          | iface hv =>
            rename_i v''
            refine ⟨if ok then .tuple ⟨[v'', .bool true]⟩ else v'', ?_, ?_⟩
            · simp only [execOp, ho, he, Instr.typeAssert, Sem.run_bind, run_underlying (hT.und hu), Result.andThen_ok]
              cases d <;> first
                | (cases ok <;> simp; done)
                | (simp [isIfaceD] at hd)
            · cases ok
              · exact hv
              · exact .tuple (.cons hv (.cons (.bool _) .nil))
        · rename_i htt
          split at h
          · rename_i z hz
            split at h
            · rename_i hc
              obtain ⟨hok, hp⟩ := hc
              cases h
              refine val_sound fun ρ w a hts => ⟨.tuple ⟨[z, .bool false]⟩, ?_, .tuple (.cons (plain_VR ρ z hp) (.cons (.bool _) .nil))⟩
              have hv := ev_VR hts hx
              generalize he : a.eval x = xv at hv
              cases hv
              simp only [execOp, ho, he, Instr.typeAssert, Sem.run_bind, run_underlying (hT.und hu), Result.andThen_ok]
              cases d <;> first
                | (simp [hok, htt, run_zeroValue (hT.info _ _ hi) hz]; done)
                | (simp [isIfaceD] at hd)
            · cases h
          · cases h
    · cases h
  · cases h

end Go.Ab
