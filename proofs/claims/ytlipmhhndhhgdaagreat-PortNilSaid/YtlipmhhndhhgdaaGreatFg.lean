/- Lengths, copies, maps; each with its soundness. -/
import Derived.Test.YtlipmhhndhhgdaaGreatFf
import Derived.Laws.IdiomMaps
set_option linter.unusedSimpArgs false
set_option linter.unusedVariables false
namespace Go.Ab

variable {P : Program} {T : TT}

/-! ### len, cap, min, max -/
def opLen (T : TT) (σ : St) (t : TypeId) (x : Value) : Option ORes :=
  match T.und t, x with
  | some .string, .string s => some (.val (.int .i64 s.size) [])
  | some (.slice _), .slice none 0 0 => some (.val (.int .i64 0) [])
  | some (.slice _), .slice (some ⟨_, _, some _⟩) n _ => some (.val (.int .i64 n) [])
  | some (.array n _), _ => some (.val (.int .i64 n) [])
  | some (.map _ _), .map none => some (.val (.int .i64 0) [])
  | some (.map _ _), .map (some r) => match σ.get r with
    | some (.map es _) => some (.val (.int .i64 es.length) [r])
    | _ => none
  | _, _ => none

theorem ME.length {ρ : Ren} : ∀ {a b : List MapEntry}, ME ρ a b → a.length = b.length
  | [], [], _ => rfl
  | _ :: _, _ :: _, h => by simp [ME.length h.2]
  | [], _ :: _, h => h.elim
  | _ :: _, [], h => h.elim

theorem len_sound (hT : T.Ok P) {o : Oper} {ts : List Value} {σ : St} {t : TypeId} {x : Operand} {v : Value} {r : ORes} (ho : o.op = .call { callee := .builtin .len, args := #[x], argTypes := #[t] }) (hx : ev ts x = some v) (h : opLen T σ t v = some r) : Sound P o ts σ r := by
  have hb : ∀ (consts : Array Bool) (as : Array Value), builtin .len #[t] o.type consts as = (do pure (.value (← Builtin.len_ #[t] o.type as))) := fun _ _ => rfl
  unfold opLen at h
  split at h
  · rename_i s hu
    cases h
    refine val_sound fun ρ w a hts => ⟨_, exec_builtin ho fun consts => ?_, .int _ _⟩
    have hv := ev_VR hts hx
    generalize he : a.eval x = xv at hv
    cases hv
    rw [hb]
    simp [he, Builtin.len_, run_underlying (hT.und hu), goInt]
  · rename_i e hu
    cases h
    refine val_sound fun ρ w a hts => ⟨_, exec_builtin ho fun consts => ?_, .int _ _⟩
    have hv := ev_VR hts hx
    generalize he : a.eval x = xv at hv
    cases hv
    rw [hb]
    simp [he, Builtin.len_, run_underlying (hT.und hu), goInt]
  · rename_i e b off sp n cap hu
    cases h
    refine val_sound fun ρ w a hts => ⟨_, exec_builtin ho fun consts => ?_, .int _ _⟩
    have hv := ev_VR hts hx
    generalize he : a.eval x = xv at hv
    rw [hb]
    cases hv <;> simp [he, Builtin.len_, run_underlying (hT.und hu), goInt]
  · rename_i n e hu
    cases h
    refine val_sound fun ρ w a hts => ⟨_, exec_builtin ho fun consts => ?_, .int _ _⟩
    rw [hb]
    simp [Builtin.len_, run_underlying (hT.und hu), goInt]
  · rename_i k e hu
    cases h
    refine val_sound fun ρ w a hts => ⟨_, exec_builtin ho fun consts => ?_, .int _ _⟩
    have hv := ev_VR hts hx
    generalize he : a.eval x = xv at hv
    cases hv
    rw [hb]
    simp [he, Builtin.len_, run_underlying (hT.und hu), goInt]
  · rename_i k e r' hu
    split at h
    · rename_i es clock hg
      cases h
      intro ρ w a hts hrd
      refine ⟨_, exec_builtin ho fun consts => ?_, .int _ _⟩
      have hv := ev_VR hts hx
      generalize he : a.eval x = xv at hv
      cases hv with
      | map hl =>
        rename_i l
        obtain ⟨es', h1, h2⟩ := hrd r' (by simp) l _ hl hg
        rw [hb]
        have hlen := h2.length
        simp at hlen
        simp [he, Builtin.len_, run_underlying (hT.und hu), goInt, getObj, Sem.run, h1, hlen]
    · cases h
  · cases h

def opCap (T : TT) (t : TypeId) (x : Value) : Option ORes :=
  match T.und t, x with
  | some (.slice _), .slice none 0 0 => some (.val (.int .i64 0) [])
  | some (.slice _), .slice (some ⟨_, _, some 0⟩) _ c => some (.val (.int .i64 c) [])
  | _, _ => none

theorem cap_sound (hT : T.Ok P) {o : Oper} {ts : List Value} {σ : St} {t : TypeId} {x : Operand} {v : Value} {r : ORes} (ho : o.op = .call { callee := .builtin .cap, args := #[x], argTypes := #[t] }) (hx : ev ts x = some v) (h : opCap T t v = some r) : Sound P o ts σ r := by
  have hb : ∀ (consts : Array Bool) (as : Array Value), builtin .cap #[t] o.type consts as = (do pure (.value (← Builtin.cap_ #[t] o.type as))) := fun _ _ => rfl
  unfold opCap at h
  split at h
  · rename_i e hu
    cases h
    refine val_sound fun ρ w a hts => ⟨_, exec_builtin ho fun consts => ?_, .int _ _⟩
    have hv := ev_VR hts hx
    generalize he : a.eval x = xv at hv
    cases hv
    rw [hb]
    simp [he, Builtin.cap_, run_underlying (hT.und hu), goInt]
  · rename_i e b off n cap hu
    cases h
    refine val_sound fun ρ w a hts => ⟨_, exec_builtin ho fun consts => ?_, .int _ _⟩
    have hv := ev_VR hts hx
    generalize he : a.eval x = xv at hv
    rw [hb]
    cases hv
    simp [he, Builtin.cap_, run_underlying (hT.und hu), goInt]
  · cases h

def opMax (x y : Value) : Option ORes :=
  match x, y with
  | .int k a, .int _ b => some (.val (.int k (if b > a then b else a)) [])
  | _, _ => none
def opMin (x y : Value) : Option ORes :=
  match x, y with
  | .int k a, .int _ b => some (.val (.int k (if b < a then b else a)) [])
  | _, _ => none

theorem max_sound {o : Oper} {ts : List Value} {σ : St} {tys : Array TypeId} {x y : Operand} {u v : Value} {r : ORes} (ho : o.op = .call { callee := .builtin .max, args := #[x, y], argTypes := tys }) (hx : ev ts x = some u) (hy : ev ts y = some v) (h : opMax u v = some r) : Sound P o ts σ r := by
  have hb : ∀ (consts : Array Bool) (as : Array Value), builtin .max tys o.type consts as = (do pure (.value (← Builtin.max_ tys o.type as))) := fun _ _ => rfl
  unfold opMax at h
  split at h
  · cases h
    refine val_sound fun ρ w a hts => ⟨_, exec_builtin ho fun consts => ?_, .int _ _⟩
    have hvx := ev_VR hts hx
    have hvy := ev_VR hts hy
    generalize he : a.eval x = xv at hvx
    generalize he' : a.eval y = yv at hvy
    cases hvx; cases hvy
    rw [hb]
    simp [he, he', Builtin.max_, Builtin.max2]
  · cases h

theorem min_sound {o : Oper} {ts : List Value} {σ : St} {tys : Array TypeId} {x y : Operand} {u v : Value} {r : ORes} (ho : o.op = .call { callee := .builtin .min, args := #[x, y], argTypes := tys }) (hx : ev ts x = some u) (hy : ev ts y = some v) (h : opMin u v = some r) : Sound P o ts σ r := by
  have hb : ∀ (consts : Array Bool) (as : Array Value), builtin .min tys o.type consts as = (do pure (.value (← Builtin.min_ tys o.type as))) := fun _ _ => rfl
  unfold opMin at h
  split at h
  · cases h
    refine val_sound fun ρ w a hts => ⟨_, exec_builtin ho fun consts => ?_, .int _ _⟩
    have hvx := ev_VR hts hx
    have hvy := ev_VR hts hy
    generalize he : a.eval x = xv at hvx
    generalize he' : a.eval y = yv at hvy
    cases hvx; cases hvy
    rw [hb]
    simp [he, he', Builtin.min_, Builtin.min2]
  · cases h

/-! ### copy -/
def opCopy (T : TT) (σ : St) (t : TypeId) (d s : Value) : Option ORes :=
  match T.und t, srcLen s with
  | some (.slice e), some k =>
    match T.info e with
    | some i =>
      match d with
      | .slice none 0 0 => match srcCells σ i.size s 0 with
        | some (_, rd) => some (.val (.int .i64 0) rd)
        | none => none
      | .slice (some ⟨b, off, some _⟩) len _ =>
        match srcCells σ i.size s (Nat.min k len), σ.get b with
        | some (xs, _), some (.cells vs false) =>
          if off + (Nat.min k len) * i.size ≤ vs.length ∧ oneCells xs = true ∧ Nat.min k len ≠ 0 then some (.eff (.int .i64 (Nat.min k len : Nat)) (σ.set b (.cells (over vs off xs) false)) [b])
          else if Nat.min k len = 0 then some (.val (.int .i64 0) []) else none
        | _, _ => none
      | _ => none
    | none => none
  | _, _ => none

theorem copy_sound (hT : T.Ok P) {o : Oper} {ts : List Value} {σ : St} {t t' : TypeId} {x y : Operand} {u v : Value} {r : ORes} (ho : o.op = .call { callee := .builtin .copy, args := #[x, y], argTypes := #[t, t'] })
    (hx : ev ts x = some u) (hy : ev ts y = some v) (h : opCopy T σ t u v = some r) : Sound P o ts σ r := by
  have hb : ∀ (consts : Array Bool) (as : Array Value), builtin .copy #[t, t'] o.type consts as = (do pure (.value (← Builtin.copy_ #[t, t'] o.type as))) := fun _ _ => rfl
  unfold opCopy at h
  split at h
  · rename_i e k hu hk
    split at h
    · rename_i i hi
      have hu1 := hT.und hu
      have hi1 := hT.info _ _ hi
      split at h
      · split at h
        · rename_i xs rd hxs
          cases h
          intro ρ w a hts hrd
          have hvx := ev_VR hts hx
          have hvy := ev_VR hts hy
          generalize he : a.eval x = xv at hvx
          cases hvx
          obtain ⟨xs', h1, h2, h3⟩ := srcCells_run (P := P) hxs ⟨k, hk, Nat.zero_le _⟩ hvy hrd
          refine ⟨_, exec_builtin ho fun consts => ?_, .int _ _⟩
          rw [hb]
          simp [he, Builtin.copy_, run_underlying hu1, srcLen_run hk hvy w, run_sizeOf hi1, h1 w rfl, goInt]
        · cases h
      · rename_i b off sp len cap
        split at h
        · rename_i xs rd vs hxs hg
          split at h
          · rename_i hc
            obtain ⟨hfit, hone, hne⟩ := hc
            cases h
            refine ⟨?_, logged_put _ _ _⟩
            intro ρ w a hw hts
            have hvx := ev_VR hts hx
            have hvy := ev_VR hts hy
            obtain ⟨xs', h1, h2, h3⟩ := srcCells_run (P := P) hxs ⟨k, hk, Nat.min_le_left _ _⟩ hvy (hw.reads rd)
            have key : ∀ (l : Loc) (cap' : Nat), ρ b = some l → a.eval x = .slice (some ⟨l.block, l.off + off, none⟩) len cap' →
                ∃ w', (execOp a.eval o).run P w = .ok (.value (.int .i64 (Nat.min k len : Nat))) w' ∧ Aft ρ σ w ρ (σ.set b (.cells (over vs off xs) false)) w' := fun l cap' hlo he => by
              obtain ⟨w', g1, g2, ⟨o', g3⟩, g4, g5, g6⟩ := OR.over (P := P) (hw.obj b l _ hlo hg) off xs xs' h2 (by omega) hone
              refine ⟨w', exec_builtin ho fun consts => ?_, Aft.put hw hlo (by rw [hg]; simp) g3 g4 g5 g6 g2⟩
              rw [hb]
              simp [he, Builtin.copy_, run_underlying hu1, srcLen_run hk hvy w, run_sizeOf hi1, h1 w rfl, goInt, g1]
            generalize he : a.eval x = xv at hvx
            cases hvx with
            | sliceX hlo => obtain ⟨w', k1, k2⟩ := key _ _ hlo he; exact ⟨ρ, _, w', .inl k1, .int _ _, k2⟩
            | sliceG hlo hcc hgg => obtain ⟨w', k1, k2⟩ := key _ _ hlo he; exact ⟨ρ, _, w', .inl k1, .int _ _, k2⟩
            | sliceE => exact absurd (Nat.min_zero k) hne
          · split at h
            · rename_i hz
              cases h
              intro ρ w a hts _
              have hvx := ev_VR hts hx
              have hvy := ev_VR hts hy
              refine ⟨_, exec_builtin ho fun consts => ?_, .int _ _⟩
              rw [hb]
              have hz' : Nat.min k len = 0 := hz
              have hfc : ∀ v' : Value, VR ρ v v' → (Builtin.firstCells i.size 0 v').run P w = .ok #[] w := fun v' hv' => by
                unfold srcLen at hk
                split at hk <;> first
                  | (cases hv' <;> simp [Builtin.firstCells, loadCells, loadCellsFrom]; done)
                  | cases hk
              have hadr : ∃ ad cap', a.eval x = .slice (some ad) len cap' := by
                generalize he : a.eval x = xv at hvx
                cases hvx <;> exact ⟨_, _, rfl⟩
              obtain ⟨ad, cap', he⟩ := hadr
              simp [he, Builtin.copy_, run_underlying hu1, srcLen_run hk hvy w, run_sizeOf hi1, hz', hfc _ hvy, storeCells, goInt]
            · cases h
        · cases h
      · cases h
    · cases h
  · cases h

/-! ### maps -/
def opMakeMap (σ : St) (r : Option Value) : Option ORes :=
  match r with
  | none => some (.new (.map [] 0) (.map (some σ.next)) [])
  | some (.int _ _) => some (.new (.map [] 0) (.map (some σ.next)) [])
  | _ => none

theorem makeMap_sound {o : Oper} {ts : List Value} {σ : St} {t : TypeId} {x : Option Operand} {v : Option Value} {r : ORes} (ho : o.op = .makeMap t x) (hmap : ∃ k e, P.underlying t = some (.map k e)) (hx : evo ts x = some v) (h : opMakeMap σ v = some r) : Sound P o ts σ r := by
  have key : Sound P o ts σ (.new (.map [] 0) (.map (some σ.next)) []) ∨ (∀ r, opMakeMap σ v ≠ some r) := by
    by_cases hv : opMakeMap σ v = none
    · exact .inr fun r => by rw [hv]; simp
    · refine .inl ?_
      intro ρ w a hts _
      refine ⟨.map (some w.heap.size), w.alloc (.map #[] 0), .map #[] 0, 0, ?_, rfl, rfl, rfl, rfl, fun ρ' hle hn => ⟨.map hn, ⟨#[], by show (w.heap.push _)[w.heap.size]? = _; simp, trivial⟩⟩⟩
      have hxv := evo_VR hts hx
      obtain ⟨k, e, hu⟩ := hmap
      cases x with
      | none => simp [execOp, ho, Instr.makeMap]
      | some x =>
        cases v with
        | none => exact hxv.elim
        | some v =>
          have hxv' : VR ρ v (a.eval x) := hxv
          generalize he : a.eval x = xv at hxv'
          cases hxv' <;> first
            | (simp [execOp, ho, Instr.makeMap, run_underlying hu, he, asInt, asIntOf]; done)
            | (simp [opMakeMap] at hv; done)
  rcases key with h1 | h1
  · unfold opMakeMap at h
    split at h
    · cases h; exact h1
    · cases h; exact h1
    · cases h
  · exact absurd h (h1 r)

/-- Are two keys the same? -/
def keyEq (T : TT) (t : TypeId) : Value → Value → Option Bool
  | .int k a, .int k' b => match T.und t with | some (.int _) => if k = k' then some (a == b) else none | _ => none
  | .string a, .string b => match T.und t with | some .string => some (a == b) | _ => none
  | .bool a, .bool b => match T.und t with | some .bool => some (a == b) | _ => none
  | .agg ⟨xs⟩, .agg ⟨ys⟩ => match T.flat t with | some sh => eqCells sh xs ys | none => none
  | _, _ => none

/-- May this value be a key? -/
def keyOk (T : TT) (t : TypeId) : Value → Bool
  | .int _ _ => match T.und t with | some (.int _) => true | _ => false
  | .string _ => match T.und t with | some .string => true | _ => false
  | .bool _ => match T.und t with | some .bool => true | _ => false
  | .agg ⟨xs⟩ => match T.flat t with | some sh => inShape sh xs | none => false
  | _ => false

def findA (T : TT) (t : TypeId) (k : Value) : List MapEntry → Nat → Option (Option (Nat × MapEntry))
  | [], _ => some none
  | e :: es, i => match keyEq T t k e.key with
    | none => none
    | some true => some (some (i, e))
    | some false => findA T t k es (i + 1)

theorem inShape_VRL {ρ : Ren} : ∀ {sh : List CK} {xs ys : List Value}, inShape sh xs = true → VRL ρ xs ys → ys = xs
  | [], [], _, _, .nil => rfl
  | [], _ :: _, _, h, _ => by simp [inShape] at h
  | _ :: _, [], _, h, _ => by simp [inShape] at h
  | c :: sh, x :: xs, _, h, .cons hx tx => by
    cases c <;> cases x <;> simp only [inShape, Bool.false_eq_true] at h <;> (cases hx; rw [inShape_VRL h tx])

theorem keyOk_VR {ρ : Ren} {t : TypeId} {k k' : Value} (h : keyOk T t k = true) (hk : VR ρ k k') : k' = k := by
  unfold keyOk at h
  split at h
  · cases hk; rfl
  · cases hk; rfl
  · cases hk; rfl
  · split at h
    · cases hk with | agg hl => rw [inShape_VRL h hl]
    · cases h
  · cases h

theorem checkKey_run (hT : T.Ok P) {t : TypeId} {k : Value} (h : keyOk T t k = true) (e : Bool) (w : World) : (Instr.checkKey e 10000 t k).run P w = .ok () w := by
  obtain ⟨d, hd⟩ : ∃ d, 10000 = d + 1 := ⟨9999, rfl⟩
  unfold keyOk at h
  split at h
  · split at h
    · rename_i hu; rw [hd]; simp [Instr.checkKey, run_underlying (hT.und hu)]
    · cases h
  · split at h
    · rename_i hu; rw [hd]; simp [Instr.checkKey, run_underlying (hT.und hu)]
    · cases h
  · split at h
    · rename_i hu; rw [hd]; simp [Instr.checkKey, run_underlying (hT.und hu)]
    · cases h
  · split at h
    · rename_i hf; exact (hT.flat _ _ hf).key e _ w h
    · cases h
  · cases h

theorem bytes_eq {a b : ByteArray} (h : (a.toList == b.toList) = true) : a = b := by
  rw [ByteArray.toList_eq, ByteArray.toList_eq, beq_iff_eq] at h
  obtain ⟨⟨x⟩⟩ := a
  obtain ⟨⟨y⟩⟩ := b
  cases h
  rfl
theorem bytes_self (a : ByteArray) : (a == a) = true := by rw [beq_toListBytes]; simp

theorem eqCells_true : ∀ {sh : List CK} {xs ys : List Value}, eqCells sh xs ys = some true → xs = ys := by
  intro sh
  induction sh with
  | nil =>
    intro xs ys h
    cases xs <;> cases ys <;> first | rfl | (simp [eqCells] at h)
  | cons c sh ih =>
    intro xs ys h
    unfold eqCells at h
    split at h
    · rename_i he; cases he
    · rename_i he
      cases he
      split at h
      · rename_i hk
        split at h
        · rename_i hab; simp only [beq_iff_eq] at hab; rw [hk, hab, ih h]
        · cases h
      · cases h
    · rename_i he
      cases he
      split at h
      · rename_i hab; simp only [beq_iff_eq] at hab; rw [hab, ih h]
      · cases h
    · rename_i he
      cases he
      split at h
      · rename_i hab; rw [bytes_eq hab, ih h]
      · cases h
    · cases h

theorem keyEq_true {t : TypeId} {k k' : Value} (h : keyEq T t k k' = some true) : k = k' := by
  unfold keyEq at h
  split at h
  · split at h
    · split at h
      · rename_i hk; simp only [Option.some.injEq, beq_iff_eq] at h; rw [hk, h]
      · cases h
    · cases h
  · split at h
    · simp only [Option.some.injEq] at h
      rw [beq_toListBytes] at h
      rw [bytes_eq h]
    · cases h
  · split at h
    · simp only [Option.some.injEq, beq_iff_eq] at h; rw [h]
    · cases h
  · split at h
    · rw [eqCells_true h]
    · cases h
  · cases h

theorem sameBits_self {t : TypeId} {k : Value} (h : keyOk T t k = true) (n : Nat) : Instr.sameBits (n + 2) k k = true := by
  unfold keyOk at h
  split at h
  · simp [Instr.sameBits]
  · simp [Instr.sameBits, bytes_self]
  · simp [Instr.sameBits]
  · split at h
    · rename_i xs _ sh _
      simp only [Instr.sameBits, beq_self_eq_true, Bool.true_and, List.all_eq_true]
      have key : ∀ (sh : List CK) (xs : List Value), inShape sh xs = true → ∀ p ∈ xs.zip xs, Instr.sameBits (n + 1) p.1 p.2 = true := by
        intro sh
        induction sh with
        | nil => intro xs hs; cases xs <;> simp [inShape] at hs ⊢
        | cons c sh ih =>
          intro xs hs
          cases xs with
          | nil => simp
          | cons x xs =>
            cases c <;> cases x <;> simp only [inShape, Bool.false_eq_true] at hs <;>
              (intro p hp
               simp only [List.zip_cons_cons, List.mem_cons] at hp
               rcases hp with rfl | hp
               · simp [Instr.sameBits, bytes_self]
               · exact ih xs hs p hp)
      intro p hp
      exact key sh xs h p hp
    · cases h
  · cases h

/-- What was found: the same place, the same value. -/
def FoundR (ρ : Ren) (es es' : List MapEntry) (i : Nat) : Option (Nat × MapEntry) → Option (Nat × Value) → Prop
  | none, none => True
  | some (j, e), some (j', v) => j = j' ∧ i ≤ j ∧ es[j - i]? = some e ∧ ∃ e', es'[j - i]? = some e' ∧ VR ρ e.val e'.val ∧ v = e'.val
  | _, _ => False

theorem FoundR.shift {ρ : Ren} {x x' : MapEntry} {es es' : List MapEntry} {i : Nat} {r : Option (Nat × MapEntry)} {r' : Option (Nat × Value)} (h : FoundR ρ es es' (i + 1) r r') : FoundR ρ (x :: es) (x' :: es') i r r' := by
  unfold FoundR at h ⊢
  split at h
  · trivial
  · obtain ⟨h1, h2, h3, e', h4, h5⟩ := h
    rename_i j e j' v
    have : j - i = (j - (i + 1)) + 1 := by omega
    exact ⟨h1, by omega, by rw [this]; simpa using h3, e', by rw [this]; simpa using h4, h5⟩
  · exact h.elim

theorem findNow_run (hT : T.Ok P) {ρ : Ren} {t : TypeId} {d : TypeDesc} {k : Value} (hu : T.und t = some d) (hd : (∃ kk n, k = .int kk n) ∨ (∃ s, k = .string s) ∨ (∃ b, k = .bool b)) : ∀ {es es' : List MapEntry} {i : Nat} {r : Option (Nat × MapEntry)}, findA T t k es i = some r → ME ρ es es' →
    ∃ r', Instr.findNow d k es' i = some r' ∧ FoundR ρ es es' i r r'
  | [], [], i, r, h, _ => by
    simp only [findA, Option.some.injEq] at h
    subst h
    exact ⟨none, rfl, trivial⟩
  | x :: es, x' :: es', i, r, h, hm => by
    obtain ⟨⟨hk, hv, hb⟩, hm⟩ := hm
    simp only [findA] at h
    have same : ∀ b, keyEq T t k x.key = some b → Instr.sameNow d k x'.key = some b := fun b hb => by
      unfold keyEq at hb
      rcases hd with ⟨kk, n, rfl⟩ | ⟨s, rfl⟩ | ⟨bb, rfl⟩
      all_goals
        generalize hq : x.key = q at hb hk
        generalize x'.key = q' at hk
        cases q <;> simp only [reduceCtorEq] at hb
        cases hk
        rw [hu] at hb
        cases d <;> simp only [reduceCtorEq] at hb
        simp only [Instr.sameNow]
        exact hb
    split at h
    · cases h
    · rename_i hkq
      cases h
      refine ⟨some (i, x'.val), ?_, rfl, Nat.le_refl _, by simp, x', by simp, hv, rfl⟩
      simp only [Instr.findNow, same true hkq]
    · rename_i hkq
      obtain ⟨r', h1, h2⟩ := findNow_run hT hu hd h hm
      refine ⟨r', ?_, h2.shift⟩
      simp only [Instr.findNow, same false hkq, h1]
  | [], _ :: _, _, _, _, hm => hm.elim
  | _ :: _, [], _, _, _, hm => hm.elim

theorem findAsking_run (hT : T.Ok P) {ρ : Ren} {t : TypeId} {xs : List Value} (w : World) {k' : Value} (hkk : VR ρ (.agg ⟨xs⟩) k') : ∀ {es es' : List MapEntry} {i : Nat} {r : Option (Nat × MapEntry)}, findA T t (.agg ⟨xs⟩) es i = some r → ME ρ es es' →
    ∃ r', (Instr.findAsking t k' es' i).run P w = .ok r' w ∧ FoundR ρ es es' i r r'
  | [], [], i, r, h, _ => by
    simp only [findA, Option.some.injEq] at h
    subst h
    exact ⟨none, rfl, trivial⟩
  | x :: es, x' :: es', i, r, h, hm => by
    obtain ⟨⟨hk, hv, hb⟩, hm⟩ := hm
    simp only [findA] at h
    have same : ∀ b, keyEq T t (.agg ⟨xs⟩) x.key = some b → (Op.equal t k' x'.key).run P w = .ok b w := fun b hb => by
      refine run_equal_eqOp hT (u := .agg ⟨xs⟩) (v := x.key) ?_ hkk hk w
      unfold keyEq at hb
      generalize hq : x.key = q at hb hk
      cases q <;> simp only [reduceCtorEq] at hb
      exact hb
    split at h
    · cases h
    · rename_i hkq
      cases h
      refine ⟨some (i, x'.val), ?_, rfl, Nat.le_refl _, by simp, x', by simp, hv, rfl⟩
      simp [Instr.findAsking, same true hkq]
    · rename_i hkq
      obtain ⟨r', h1, h2⟩ := findAsking_run hT w hkk h hm
      refine ⟨r', ?_, h2.shift⟩
      simp [Instr.findAsking, same false hkq, h1]
  | [], _ :: _, _, _, _, hm => hm.elim
  | _ :: _, [], _, _, _, hm => hm.elim

/-- What is found in a map, and at which place. -/
theorem findKey_run (hT : T.Ok P) {ρ : Ren} {t : TypeId} {k : Value} (hk : keyOk T t k = true) (w : World) {es es' : List MapEntry} {r : Option (Nat × MapEntry)} (h : findA T t k es 0 = some r) (hm : ME ρ es es') :
    ∃ r', (Instr.findKey t k es').run P w = .ok r' w ∧ FoundR ρ es es' 0 r r' := by
  have scalar : ∀ d, T.und t = some d → ((∃ kk n, k = .int kk n) ∨ (∃ s, k = .string s) ∨ (∃ b, k = .bool b)) → ∃ r', (Instr.findKey t k es').run P w = .ok r' w ∧ FoundR ρ es es' 0 r r' := fun d hu hd => by
    obtain ⟨r', h1, h2⟩ := findNow_run hT hu hd h hm
    exact ⟨r', by simp [Instr.findKey, run_underlying (hT.und hu), h1], h2⟩
  have hk' := hk
  unfold keyOk at hk
  split at hk
  · split at hk
    · rename_i hu; exact scalar _ hu (.inl ⟨_, _, rfl⟩)
    · cases hk
  · split at hk
    · rename_i hu; exact scalar _ hu (.inr (.inl ⟨_, rfl⟩))
    · cases hk
  · split at hk
    · rename_i hu; exact scalar _ hu (.inr (.inr ⟨_, rfl⟩))
    · cases hk
  · rename_i xs
    split at hk
    · rename_i sh hf
      obtain ⟨d, hud, hag⟩ := (hT.flat _ _ hf).desc
      have hself : VR ρ (.agg ⟨xs⟩) (.agg ⟨xs⟩) := by
        refine .agg (plainL_VR ρ xs ?_)
        clear hk' h scalar hf
        induction sh generalizing xs with
        | nil => cases xs <;> first | rfl | (simp [inShape] at hk)
        | cons c sh ih =>
          cases xs with
          | nil => rfl
          | cons x xs => cases c <;> cases x <;> simp only [inShape, Bool.false_eq_true] at hk <;> simp [plainL, plain, ih xs hk]
      obtain ⟨r', h1, h2⟩ := findAsking_run hT w hself h hm
      cases es' with
      | nil =>
        cases es with
        | nil =>
          simp only [findA, Option.some.injEq] at h
          subst h
          exact ⟨none, by simp [Instr.findKey, run_underlying hud, Instr.findNow], trivial⟩
        | cons _ _ => exact hm.elim
      | cons x' es' =>
        refine ⟨r', ?_, h2⟩
        have hnow : Instr.findNow d (.agg ⟨xs⟩) (x' :: es') 0 = none := by
          simp only [Instr.findNow]
          cases d <;> simp [isAggB] at hag <;> simp [Instr.sameNow]
        simp [Instr.findKey, run_underlying hud, hnow, h1]
    · cases hk
  · cases hk

def opLookup (T : TT) (σ : St) (t : TypeId) (ok : Bool) (x k : Value) : Option ORes :=
  match T.und t with
  | some (.map kt et) =>
    match T.info et with
    | some i => match i.zero with
      | some z =>
        if keyOk T kt k = true ∧ plain z = true then
          match x with
          | .map none => some (.val (if ok then .tuple ⟨[z, .bool false]⟩ else z) [])
          | .map (some r) => match σ.get r with
            | some (.map es _) => match findA T kt k es 0 with
              | some none => some (.val (if ok then .tuple ⟨[z, .bool false]⟩ else z) [r])
              | some (some (_, e)) => some (.val (if ok then .tuple ⟨[e.val, .bool true]⟩ else e.val) [r])
              | none => none
            | _ => none
          | _ => none
        else none
      | none => none
    | none => none
  | _ => none

theorem lookup_sound (hT : T.Ok P) {o : Oper} {ts : List Value} {σ : St} {t : TypeId} {ok : Bool} {x y : Operand} {u v : Value} {r : ORes} (ho : o.op = .lookup t x y ok) (hx : ev ts x = some u) (hy : ev ts y = some v) (h : opLookup T σ t ok u v = some r) : Sound P o ts σ r := by
  unfold opLookup at h
  split at h
  · rename_i kt et hu
    split at h
    · rename_i i hi
      split at h
      · rename_i z hz
        split at h
        · rename_i hc
          obtain ⟨hko, hpz⟩ := hc
          have zr := fun w => run_zeroValue (P := P) (hT.info _ _ hi) hz w
          split at h
          · cases h
            refine val_sound fun ρ w a hts => ?_
            have hvx := ev_VR hts hx
            have hvy := ev_VR hts hy
            have hke := keyOk_VR hko hvy
            generalize he : a.eval x = xv at hvx
            cases hvx
            refine ⟨if ok then .tuple #[z, .bool false] else z, ?_, ?_⟩
            · have hck := checkKey_run (P := P) hT hko true w
              have hfk : (Instr.findKey kt v []).run P w = .ok none w := by
                obtain ⟨r', h1, h2⟩ := findKey_run hT (ρ := ρ) hko w (es := []) (es' := []) (r := none) rfl trivial
                cases r' with | none => exact h1 | some _ => exact h2.elim
              simp [execOp, ho, Instr.lookup, run_underlying (hT.und hu), he, hke, hck, hfk, zr]
            · cases ok
              · exact plain_VR ρ z hpz
              · exact .tuple (.cons (plain_VR ρ z hpz) (.cons (.bool _) .nil))
          · rename_i r'
            split at h
            · rename_i es clock hg
              have key : ∀ (fr : Option (Nat × MapEntry)), findA T kt v es 0 = some fr → Sound P o ts σ (.val (match fr with | none => (if ok then .tuple ⟨[z, .bool false]⟩ else z) | some (_, e) => (if ok then .tuple ⟨[e.val, .bool true]⟩ else e.val)) [r']) := fun fr hfr => by
                intro ρ w a hts hrd
                have hvx := ev_VR hts hx
                have hvy := ev_VR hts hy
                have hke := keyOk_VR hko hvy
                generalize he : a.eval x = xv at hvx
                cases hvx with
                | map hl =>
                  rename_i l
                  obtain ⟨es', h1, h2⟩ := hrd r' (by simp) l _ hl hg
                  obtain ⟨r2, h3, h4⟩ := findKey_run hT hko w hfr h2
                  have hck := checkKey_run (P := P) hT hko es'.isEmpty w
                  have hget : (getObj l.block).run P w = .ok (.map es' clock) w := by simp [getObj, Sem.run, h1]
                  cases fr with
                  | none =>
                    cases r2 with
                    | some _ => exact h4.elim
                    | none =>
                      refine ⟨if ok then .tuple #[z, .bool false] else z, ?_, ?_⟩
                      · simp [execOp, ho, Instr.lookup, run_underlying (hT.und hu), he, hke, hget, hck, h3, zr]
                      · cases ok
                        · exact plain_VR ρ z hpz
                        · exact .tuple (.cons (plain_VR ρ z hpz) (.cons (.bool _) .nil))
                  | some p =>
                    obtain ⟨j, e⟩ := p
                    cases r2 with
                    | none => exact h4.elim
                    | some q =>
                      obtain ⟨j', v'⟩ := q
                      obtain ⟨_, _, _, e', _, h6, h7⟩ := h4
                      subst h7
                      refine ⟨if ok then .tuple #[e'.val, .bool true] else e'.val, ?_, ?_⟩
                      · simp [execOp, ho, Instr.lookup, run_underlying (hT.und hu), he, hke, hget, hck, h3]
                      · cases ok
                        · exact h6
                        · exact .tuple (.cons h6 (.cons (.bool _) .nil))
              split at h
              · rename_i hf; cases h; exact key none hf
              · rename_i j e hf; cases h; exact key (some (j, e)) hf
              · cases h
            · cases h
          · cases h
        · cases h
      · cases h
    · cases h
  · cases h

end Go.Ab
