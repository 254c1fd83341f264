/- Types whose values are plain cells: equality is cell by cell. -/
import Derived.Test.YtlipmhhndhhgdaaGreatTa
set_option linter.unusedSimpArgs false
set_option linter.unusedVariables false
namespace Go.Ab

variable {P : Program}

def shapeFields (P : Program) (S : TypeId → Option (List CK)) : List Field → Nat → Option (List CK)
  | [], _ => some []
  | f :: fs, off =>
    if f.name == "_" || f.offset != off then none else
    match S f.type, P.info? f.type with
    | some sh, some i => if i.size = sh.length then (match shapeFields P S fs (off + sh.length) with | some r => some (sh ++ r) | none => none) else none
    | _, _ => none

def repShape (sh : List CK) : Nat → List CK
  | 0 => []
  | n + 1 => sh ++ repShape sh n

def shapeOf (P : Program) : Nat → TypeId → Option (List CK)
  | 0, _ => none
  | n + 1, t => match P.underlying t with
    | some (.int _) => some [.int]
    | some .bool => some [.bool]
    | some .string => some [.string]
    | some (.struct fs) => if P.stoodInHeld t then none else shapeFields P (shapeOf P n) fs.toList 0
    | some (.array len e) => match shapeOf P n e, P.info? e with
      | some sh, some i => if i.size = sh.length then some (repShape sh len) else none
      | _, _ => none
    | _ => none

theorem eqCells_append : ∀ {s₁ s₂ : List CK} {X Y : List Value} {r : Bool}, eqCells (s₁ ++ s₂) X Y = some r →
    (eqCells s₁ (X.take s₁.length) (Y.take s₁.length) = some false ∧ r = false) ∨
    (eqCells s₁ (X.take s₁.length) (Y.take s₁.length) = some true ∧ eqCells s₂ (X.drop s₁.length) (Y.drop s₁.length) = some r)
  | [], s₂, X, Y, r, h => .inr ⟨by simp [eqCells], by simpa using h⟩
  | k :: s₁, s₂, X, Y, r, h => by
    cases X with
    | nil => cases k <;> simp [eqCells] at h
    | cons x X =>
      cases Y with
      | nil => cases k <;> cases x <;> simp [eqCells] at h
      | cons y Y =>
        simp only [List.length_cons, List.take_succ_cons, List.drop_succ_cons, List.cons_append] at h ⊢
        cases k <;> cases x <;> cases y <;> simp only [eqCells] at h ⊢ <;> try (cases h; done)
        · split at h
          · rename_i hk
            rw [if_pos hk]
            split at h
            · rename_i he; rw [if_pos he]; exact eqCells_append h
            · rename_i he; rw [if_neg he]; cases h; exact .inl ⟨rfl, rfl⟩
          · cases h
        · split at h
          · rename_i he; rw [if_pos he]; exact eqCells_append h
          · rename_i he; rw [if_neg he]; cases h; exact .inl ⟨rfl, rfl⟩
        · split at h
          · rename_i he; rw [if_pos he]; exact eqCells_append h
          · rename_i he; rw [if_neg he]; cases h; exact .inl ⟨rfl, rfl⟩

theorem inShape_append : ∀ {s₁ s₂ : List CK} {X : List Value}, inShape (s₁ ++ s₂) X = true → inShape s₁ (X.take s₁.length) = true ∧ inShape s₂ (X.drop s₁.length) = true
  | [], s₂, X, h => ⟨by simp [inShape], by simpa using h⟩
  | k :: s₁, s₂, X, h => by
    cases X with
    | nil => cases k <;> simp [inShape] at h
    | cons x X =>
      simp only [List.length_cons, List.take_succ_cons, List.drop_succ_cons, List.cons_append] at h ⊢
      cases k <;> cases x <;> simp only [inShape] at h ⊢ <;> first | (cases h; done) | exact inShape_append h

/-- The cells of a value of a type. -/
def CellsOf (P : Program) (t : TypeId) (v : Value) (xs : List Value) : Prop :=
  ∃ d, P.underlying t = some d ∧ ((isAggD d = true ∧ v = .agg ⟨xs⟩) ∨ (isAggD d = false ∧ xs = [v]))

theorem run_part {t : TypeId} {i : TypeInfo} {sh : List CK} {n : Nat} (hs : shapeOf P n t = some sh) (hi : P.info? t = some i) (hsz : i.size = sh.length) (cs : List Value) (off : Nat) (w : World)
    (hne : isAggD ((P.underlying t).getD default) = false → (cs.drop off).take sh.length ≠ []) :
    ∃ v, (part t ⟨cs⟩ off).run P w = .ok v w ∧ CellsOf P t v ((cs.drop off).take sh.length) := by
  cases n with
  | zero => cases hs
  | succ n =>
    simp only [shapeOf] at hs
    cases hu : P.underlying t with
    | none => rw [hu] at hs; cases hs
    | some d =>
      rw [hu] at hs hne
      unfold part
      cases ha : isAggD d with
      | true =>
        refine ⟨.agg ⟨(cs.drop off).take sh.length⟩, ?_, d, hu, .inl ⟨ha, rfl⟩⟩
        simp only [Sem.run_bind, run_isAgg hu, ha, Result.andThen_ok, if_true, run_sizeOf hi, hsz]
        simp [List.extract_eq_take_drop, List.take_drop]
      | false =>
        have h1 : sh.length = 1 := by
          cases d <;> simp [isAggD] at ha <;> simp at hs <;> (try (cases hs; rfl))
        have h2 := hne (by simpa using ha)
        rw [h1] at h2 ⊢
        cases hx : cs[off]? with
        | none =>
          rw [List.drop_eq_nil_of_le (by simpa using hx)] at h2
          simp at h2
        | some v =>
          have e : (cs.drop off).take 1 = [v] := by
            obtain ⟨hlt, hv⟩ := List.getElem?_eq_some_iff.1 hx
            rw [List.drop_eq_getElem_cons hlt, hv]; rfl
          refine ⟨v, ?_, d, hu, .inr ⟨ha, e⟩⟩
          simp [run_isAgg hu, ha, hx]

def EqT (P : Program) (d : Nat) (t : TypeId) (sh : List CK) : Prop :=
  ∀ (u v : Value) (xs ys : List Value) (r : Bool) (w : World), CellsOf P t u xs → CellsOf P t v ys → eqCells sh xs ys = some r → (Op.equalIn d t u v).run P w = .ok r w

theorem ne_nil_of_eqCells {sh : List CK} {xs ys : List Value} {r : Bool} (h : eqCells sh xs ys = some r) (hs : sh ≠ []) : xs ≠ [] ∧ ys ≠ [] := by
  cases sh with
  | nil => exact absurd rfl hs
  | cons k sh =>
    cases xs with
    | nil => cases k <;> simp [eqCells] at h
    | cons x xs => cases ys with
      | nil => cases k <;> cases x <;> simp [eqCells] at h
      | cons y ys => exact ⟨by simp, by simp⟩

theorem shape_ne {n : Nat} {t : TypeId} {sh : List CK} (hs : shapeOf P n t = some sh) (ha : isAggD ((P.underlying t).getD default) = false) : sh ≠ [] := by
  cases n with
  | zero => cases hs
  | succ n =>
    simp only [shapeOf] at hs
    cases hu : P.underlying t with
    | none => rw [hu] at hs; cases hs
    | some d =>
      rw [hu] at hs ha
      cases d <;> simp [isAggD] at ha <;> simp at hs <;> (try (cases hs; simp))

theorem fields_eq {n d : Nat} (ih : ∀ t sh, shapeOf P n t = some sh → EqT P d t sh) {xs ys : List Value} : ∀ (fs : List Field) (off : Nat) (sh : List CK) (r : Bool) (w : World), shapeFields P (shapeOf P n) fs off = some sh → eqCells sh (xs.drop off) (ys.drop off) = some r →
    (Op.eqFields d ⟨xs⟩ ⟨ys⟩ fs).run P w = .ok r w
  | [], off, sh, r, w, hs, h => by
    simp only [shapeFields, Option.some.injEq] at hs
    subst hs
    have : r = true := by
      cases hx : xs.drop off <;> cases hy : ys.drop off <;> rw [hx, hy] at h <;> simp [eqCells] at h
      first | exact h | exact h.symm
    subst this
    simp [Op.eqFields]
  | f :: fs, off, sh, r, w, hs, h => by
    simp only [shapeFields] at hs
    split at hs
    · cases hs
    · rename_i hf
      simp only [Bool.or_eq_true, not_or, bne_iff_ne, ne_eq, Decidable.not_not, beq_iff_eq] at hf
      obtain ⟨hn, ho⟩ := hf
      split at hs
      · rename_i sh₁ i h1 hi
        split at hs
        · rename_i hsz
          split at hs
          · rename_i sh₂ h2
            cases hs
            have ap := eqCells_append h
            have ne : isAggD ((P.underlying f.type).getD default) = false → (xs.drop off).take sh₁.length ≠ [] ∧ (ys.drop off).take sh₁.length ≠ [] := fun ha => by
              have hne := shape_ne h1 ha
              rcases ap with ⟨a, _⟩ | ⟨a, _⟩ <;> exact ne_nil_of_eqCells a hne
            obtain ⟨u, hu1, hu2⟩ := run_part h1 hi hsz xs off w fun ha => (ne ha).1
            obtain ⟨v, hv1, hv2⟩ := run_part h1 hi hsz ys off w fun ha => (ne ha).2
            simp only [Op.eqFields, ne_eq, hn, not_false_eq_true, if_true, Sem.run_bind, ho, hu1, hv1, Result.andThen_ok]
            rcases ap with ⟨a, rfl⟩ | ⟨a, b⟩
            · rw [ih _ _ h1 u v _ _ _ w hu2 hv2 a]
              simp
            · rw [ih _ _ h1 u v _ _ _ w hu2 hv2 a]
              simp only [Result.andThen_ok, Bool.not_true, Bool.false_eq_true, if_false]
              refine fields_eq ih fs _ _ r w h2 ?_
              rw [← List.drop_drop, ← List.drop_drop]; exact b
          · cases hs
        · cases hs
      · cases hs

theorem loop_eq {n d : Nat} {e : TypeId} {i : TypeInfo} {sh : List CK} (h1 : shapeOf P n e = some sh) (hi : P.info? e = some i) (hsz : i.size = sh.length) (ih : EqT P d e sh) {xs ys : List Value} : ∀ (m k : Nat) (r : Bool) (w : World), eqCells (repShape sh m) (xs.drop (k * sh.length)) (ys.drop (k * sh.length)) = some r →
    (forIn (List.range' k m) ((none, ()) : Option Bool × Unit) fun i _ => do
      let a ← part e ⟨xs⟩ (i * sh.length)
      let b ← part e ⟨ys⟩ (i * sh.length)
      let c ← Op.equalIn d e a b
      if (!c) = true then pure (ForInStep.done (some false, ())) else pure (ForInStep.yield (none, ()))).run P w = .ok ((if r then none else some false), ()) w
  | 0, k, r, w, h => by
    have : r = true := by
      simp only [repShape] at h
      cases hx : xs.drop (k * sh.length) <;> cases hy : ys.drop (k * sh.length) <;> rw [hx, hy] at h <;> simp [eqCells] at h
      first | exact h | exact h.symm
    subst this
    simp
  | m + 1, k, r, w, h => by
    simp only [repShape] at h
    have ap := eqCells_append h
    have ne : isAggD ((P.underlying e).getD default) = false → (xs.drop (k * sh.length)).take sh.length ≠ [] ∧ (ys.drop (k * sh.length)).take sh.length ≠ [] := fun ha => by
      have hne := shape_ne h1 ha
      rcases ap with ⟨a, _⟩ | ⟨a, _⟩ <;> exact ne_nil_of_eqCells a hne
    obtain ⟨u, hu1, hu2⟩ := run_part h1 hi hsz xs (k * sh.length) w fun ha => (ne ha).1
    obtain ⟨v, hv1, hv2⟩ := run_part h1 hi hsz ys (k * sh.length) w fun ha => (ne ha).2
    rw [List.range'_succ, List.forIn_cons]
    simp only [Sem.run_bind, hu1, hv1, Result.andThen_ok]
    rcases ap with ⟨a, rfl⟩ | ⟨a, b⟩
    · rw [ih u v _ _ _ w hu2 hv2 a]
      simp
    · rw [ih u v _ _ _ w hu2 hv2 a]
      simp only [Result.andThen_ok, Bool.not_true, Bool.false_eq_true, if_false, Sem.run_pure]
      refine loop_eq h1 hi hsz ih m (k + 1) r w ?_
      rw [Nat.add_mul, Nat.one_mul, ← List.drop_drop, ← List.drop_drop]; exact b

theorem eq_shape : ∀ (n d : Nat) (t : TypeId) (sh : List CK), n ≤ d → shapeOf P n t = some sh → EqT P d t sh := by
  intro n
  induction n with
  | zero => intro d t sh _ h; cases h
  | succ n ih =>
    intro d t sh hd hs u v xs ys r w hu hv he
    obtain ⟨d, rfl⟩ : ∃ k, d = k + 1 := ⟨d - 1, by omega⟩
    have hs0 := hs
    simp only [shapeOf] at hs
    obtain ⟨td, hut, hu⟩ := hu
    obtain ⟨td', hvt, hv⟩ := hv
    rw [hut] at hvt; cases hvt
    rw [hut] at hs
    have scalar : ∀ k, sh = [k] → isAggD td = false → xs = [u] ∧ ys = [v] := fun k _ ha => by
      rcases hu with ⟨h, _⟩ | ⟨_, h⟩
      · rw [ha] at h; cases h
      · rcases hv with ⟨h', _⟩ | ⟨_, h'⟩
        · rw [ha] at h'; cases h'
        · exact ⟨h, h'⟩
    have aggr : isAggD td = true → u = .agg ⟨xs⟩ ∧ v = .agg ⟨ys⟩ := fun ha => by
      rcases hu with ⟨_, h⟩ | ⟨h, _⟩
      · rcases hv with ⟨_, h'⟩ | ⟨h', _⟩
        · exact ⟨h, h'⟩
        · rw [ha] at h'; cases h'
      · rw [ha] at h; cases h
    cases td with
    | int k =>
      simp only [Option.some.injEq] at hs; subst hs
      obtain ⟨rfl, rfl⟩ := scalar _ rfl rfl
      cases u <;> cases v <;> simp only [eqCells] at he <;> try (cases he; done)
      split at he
      · rename_i hk; subst hk
        rw [run_equalIn_int w d t _ _ _ _ hut]
        split at he
        · rename_i h; rw [h]; cases he; rfl
        · rename_i h; simp only [Bool.not_eq_true] at h; rw [h]; cases he; rfl
      · cases he
    | bool =>
      simp only [Option.some.injEq] at hs; subst hs
      obtain ⟨rfl, rfl⟩ := scalar _ rfl rfl
      cases u <;> cases v <;> simp only [eqCells] at he <;> try (cases he; done)
      rw [run_equalIn_bool' w d t _ _ hut]
      split at he
      · rename_i h; rw [h]; cases he; rfl
      · rename_i h; simp only [Bool.not_eq_true] at h; rw [h]; cases he; rfl
    | string =>
      simp only [Option.some.injEq] at hs; subst hs
      obtain ⟨rfl, rfl⟩ := scalar _ rfl rfl
      cases u <;> cases v <;> simp only [eqCells] at he <;> try (cases he; done)
      rw [run_equalIn_string w d t _ _ hut]
      split at he
      · rename_i h; rw [h]; cases he; rfl
      · rename_i h; simp only [Bool.not_eq_true] at h; rw [h]; cases he; rfl
    | struct fs =>
      simp only at hs
      split at hs
      · cases hs
      · rename_i hp
        obtain ⟨rfl, rfl⟩ := aggr rfl
        have hf : P.fieldsOf t = fs := by unfold Program.fieldsOf; rw [hut]
        rw [run_equalIn_struct w d t _ _ (by rw [hf]; exact hut) (by simpa using hp), hf]
        exact fields_eq (fun t sh h => ih d t sh (by omega) h) fs.toList 0 sh r w hs (by simpa using he)
    | array len e =>
      simp only at hs
      split at hs
      · rename_i sh₁ i h1 hi
        split at hs
        · rename_i hsz
          cases hs
          obtain ⟨rfl, rfl⟩ := aggr rfl
          simp only [Op.equalIn, Sem.run_bind, run_underlying hut, Result.andThen_ok, run_sizeOf hi, hsz]
          rw [Std.Legacy.Range.forIn_eq_forIn_range']
          have := loop_eq h1 hi hsz (ih d e sh₁ (by omega) h1) (xs := xs) (ys := ys) len 0 r w (by simpa using he)
          have hr : (Std.Legacy.Range.size [:len]) = len := by simp [Std.Legacy.Range.size]
          rw [hr]
          simp only at this ⊢
          rw [this]
          cases r <;> simp
        · cases hs
      · cases hs
    | _ => simp at hs

/-! ### keys -/
def KeyT (P : Program) (emp : Bool) (d : Nat) (t : TypeId) (sh : List CK) : Prop :=
  ∀ (u : Value) (xs : List Value) (w : World), CellsOf P t u xs → inShape sh xs = true → (Instr.checkKey emp d t u).run P w = .ok () w

theorem ne_nil_of_inShape {sh : List CK} {xs : List Value} (h : inShape sh xs = true) (hs : sh ≠ []) : xs ≠ [] := by
  cases sh with
  | nil => exact absurd rfl hs
  | cons k sh => cases xs with
    | nil => cases k <;> simp [inShape] at h
    | cons x xs => simp

theorem fields_key {emp : Bool} {n d : Nat} (ih : ∀ t sh, shapeOf P n t = some sh → KeyT P emp d t sh) {xs : List Value} : ∀ (fs : List Field) (off : Nat) (sh : List CK) (w : World), shapeFields P (shapeOf P n) fs off = some sh → inShape sh (xs.drop off) = true →
    (forIn fs () fun (f : Field) _ => if f.name ≠ "_" then do
        let a ← part f.type ⟨xs⟩ f.offset
        Instr.checkKey emp d f.type a
        pure (ForInStep.yield ())
      else pure (ForInStep.yield ())).run P w = .ok () w
  | [], off, sh, w, hs, h => by simp
  | f :: fs, off, sh, w, hs, h => by
    simp only [shapeFields] at hs
    split at hs
    · cases hs
    · rename_i hf
      simp only [Bool.or_eq_true, not_or, bne_iff_ne, ne_eq, Decidable.not_not, beq_iff_eq] at hf
      obtain ⟨hn, ho⟩ := hf
      split at hs
      · rename_i sh₁ i h1 hi
        split at hs
        · rename_i hsz
          split at hs
          · rename_i sh₂ h2
            cases hs
            have ap := inShape_append h
            obtain ⟨u, hu1, hu2⟩ := run_part h1 hi hsz xs off w fun ha => ne_nil_of_inShape ap.1 (shape_ne h1 ha)
            rw [List.forIn_cons]
            simp only [ne_eq, hn, not_false_eq_true, if_true, Sem.run_bind, ho, hu1, Result.andThen_ok, ih _ _ h1 u _ w hu2 ap.1, Sem.run_pure]
            refine fields_key ih fs _ _ w h2 ?_
            rw [← List.drop_drop]; exact ap.2
          · cases hs
        · cases hs
      · cases hs

theorem loop_key {emp : Bool} {n d : Nat} {e : TypeId} {i : TypeInfo} {sh : List CK} (h1 : shapeOf P n e = some sh) (hi : P.info? e = some i) (hsz : i.size = sh.length) (ih : KeyT P emp d e sh) {xs : List Value} : ∀ (m k : Nat) (w : World), inShape (repShape sh m) (xs.drop (k * sh.length)) = true →
    (forIn (List.range' k m) () fun i _ => do
      let n ← sizeOf e
      let a ← part e ⟨xs⟩ (i * n)
      Instr.checkKey emp d e a
      pure (ForInStep.yield ())).run P w = .ok () w
  | 0, k, w, h => by simp
  | m + 1, k, w, h => by
    simp only [repShape] at h
    have ap := inShape_append h
    obtain ⟨u, hu1, hu2⟩ := run_part h1 hi hsz xs (k * sh.length) w fun ha => ne_nil_of_inShape ap.1 (shape_ne h1 ha)
    rw [List.range'_succ, List.forIn_cons]
    simp only [Sem.run_bind, run_sizeOf hi, hsz, hu1, Result.andThen_ok, ih u _ w hu2 ap.1, Sem.run_pure]
    refine loop_key h1 hi hsz ih m (k + 1) w ?_
    rw [Nat.add_mul, Nat.one_mul, ← List.drop_drop]; exact ap.2

theorem key_shape {emp : Bool} : ∀ (n d : Nat) (t : TypeId) (sh : List CK), n ≤ d → shapeOf P n t = some sh → KeyT P emp d t sh := by
  intro n
  induction n with
  | zero => intro d t sh _ h; cases h
  | succ n ih =>
    intro d t sh hd hs u xs w hu he
    obtain ⟨d, rfl⟩ : ∃ k, d = k + 1 := ⟨d - 1, by omega⟩
    simp only [shapeOf] at hs
    obtain ⟨td, hut, hu⟩ := hu
    rw [hut] at hs
    have aggr : isAggD td = true → u = .agg ⟨xs⟩ := fun ha => by
      rcases hu with ⟨_, h⟩ | ⟨h, _⟩
      · exact h
      · rw [ha] at h; cases h
    cases td with
    | int k => simp [Instr.checkKey, run_underlying hut]
    | bool => simp [Instr.checkKey, run_underlying hut]
    | string => simp [Instr.checkKey, run_underlying hut]
    | struct fs =>
      simp only at hs
      split at hs
      · cases hs
      · obtain rfl := aggr rfl
        simp only [Instr.checkKey, Sem.run_bind, run_underlying hut, Result.andThen_ok]
        rw [← Array.forIn_toList]
        have := fields_key (fun t sh h => ih d t sh (by omega) h) fs.toList 0 sh w hs (emp := emp) (xs := xs) (by simpa using he)
        exact (congrArg (fun r : Result Unit => r.andThen fun _ w' => Sem.run P (pure ()) w') this).trans rfl
    | array len e =>
      simp only at hs
      split at hs
      · rename_i sh₁ i h1 hi
        split at hs
        · rename_i hsz
          cases hs
          obtain rfl := aggr rfl
          simp only [Instr.checkKey, Sem.run_bind, run_underlying hut, Result.andThen_ok]
          rw [Std.Legacy.Range.forIn_eq_forIn_range']
          have := loop_key h1 hi hsz (ih d e sh₁ (by omega) h1) (emp := emp) (xs := xs) len 0 w (by simpa using he)
          have hr : (Std.Legacy.Range.size [:len]) = len := by simp [Std.Legacy.Range.size]
          rw [hr]
          exact (congrArg (fun r : Result Unit => r.andThen fun _ w' => Sem.run P (pure ()) w') this).trans rfl
        · cases hs
      · cases hs
    | _ => simp at hs

/-- The shapes of a program's types, those of structs and arrays whose comparison asks nothing else. -/
def flats (P : Program) (t : TypeId) : Option (List CK) :=
  match P.underlying t with
  | some d => if isAggB d && !P.eqGuardType P.depth t then shapeOf P 50 t else none
  | none => none

theorem flats_ok (t : TypeId) (sh : List CK) (h : flats P t = some sh) : FlatEq P t sh := by
  unfold flats at h
  split at h
  · rename_i d hd
    split at h
    · rename_i hc
      simp only [Bool.and_eq_true, Bool.not_eq_true'] at hc
      have hag : isAggD d = true := by cases d <;> simp [isAggB] at hc <;> rfl
      exact { guard := hc.2
              eq := fun xs ys r w he => eq_shape 50 Op.maxDepth t sh (by decide) h _ _ xs ys r w ⟨d, hd, .inl ⟨hag, rfl⟩⟩ ⟨d, hd, .inl ⟨hag, rfl⟩⟩ he
              key := fun e xs w hs => key_shape 50 10000 t sh (by decide) h _ xs w ⟨d, hd, .inl ⟨hag, rfl⟩⟩ hs
              desc := ⟨d, hd, hc.1⟩ }
    · cases h
  · cases h

/-- All that is asked of a program: that regions are drawn in mixed order. -/
abbrev cP (P : Program) : Cx := cx P (flats P)
theorem cP_ok : (cP P).Ok P := cx_ok flats_ok

end Go.Ab
