/- Cutting slices, append, copy, lengths; each with its soundness. -/
import Derived.Test.YtlipmhhndhhgdaaGreatFe
import Derived.Deep.AppendSrc
set_option linter.unusedSimpArgs false
set_option linter.unusedVariables false
namespace Go.Ab

variable {P : Program} {T : TT}

/-! ### s[l:h:m] -/
def bnd (y : Nat) : Value → Option Nat
  | .int _ n => if 0 ≤ n ∧ n ≤ y then some n.toNat else none
  | _ => none

def sbA (len cap : Nat) (lo hi mx : Option Value) : Option (Nat × Nat × Nat) :=
  match (match mx with | none => some cap | some v => bnd cap v) with
  | none => none
  | some m =>
    match (match hi, mx with | none, none => some len | some v, _ => bnd m v | none, some _ => none) with
    | none => none
    | some h =>
      match (match lo with | none => some 0 | some v => bnd h v) with
      | none => none
      | some l => some (l, h, m)

def OVR (ρ : Ren) : Option Value → Option Value → Prop
  | none, none => True
  | some v, some w => VR ρ v w
  | _, _ => False

theorem bnd_run {ρ : Ren} {y y' n : Nat} {v v' : Value} (h : bnd y v = some n) (hy : y ≤ y') (hv : VR ρ v v') (code : BoundsCode) (w : World) : (Instr.sliceBound v' y' code).run P w = .ok n w ∧ n ≤ y := by
  unfold bnd at h
  split at h
  · rename_i k i
    split at h
    · rename_i hc
      cases h
      cases hv
      exact ⟨run_sliceBound w k i y' code hc.1 (by omega), by omega⟩
    · cases h
  · cases h

/-- The bounds, at a capacity that is at least the one that is known. -/
theorem sbA_run {ρ : Ren} {b : Bool} {len cap cap' l h m : Nat} {lo hi mx lo' hi' mx' : Option Value} (hs : sbA len cap lo hi mx = some (l, h, m)) (hc : cap ≤ cap') (hl : OVR ρ lo lo') (hh : OVR ρ hi hi') (hm : OVR ρ mx mx') (w : World) :
    (Instr.sliceBounds b len cap' lo' hi' mx').run P w = .ok (l, h, if mx.isSome then m else cap') w ∧ (mx.isSome = true → m ≤ cap) ∧ (mx = none → m = cap) ∧ (hi.isSome = true → h ≤ m) ∧ (hi = none → h = len) ∧ (lo.isSome = true → l ≤ h) ∧ (lo = none → l = 0) := by
  unfold sbA at hs
  split at hs
  · cases hs
  · rename_i m0 hm0
    split at hs
    · cases hs
    · rename_i h0 hh0
      split at hs
      · cases hs
      · rename_i l0 hl0
        cases hs
        cases mx with
        | none =>
          cases mx' with
          | some _ => exact hm.elim
          | none =>
            simp only [Option.some.injEq] at hm0
            subst hm0
            cases hi with
            | none =>
              cases hi' with
              | some _ => exact hh.elim
              | none =>
                simp only [Option.some.injEq] at hh0
                subst hh0
                cases lo with
                | none =>
                  cases lo' with
                  | some _ => exact hl.elim
                  | none => simp only [Option.some.injEq] at hl0; subst hl0; simp [Instr.sliceBounds]
                | some v =>
                  cases lo' with
                  | none => exact hl.elim
                  | some v' =>
                    obtain ⟨h1, h2⟩ := bnd_run (P := P) hl0 (Nat.le_refl _) hl .sliceB w
                    simp [Instr.sliceBounds, h1, h2]
            | some u =>
              cases hi' with
              | none => exact hh.elim
              | some u' =>
                have g1 := fun code => bnd_run (P := P) hh0 hc hh code w
                cases lo with
                | none =>
                  cases lo' with
                  | some _ => exact hl.elim
                  | none => simp only [Option.some.injEq] at hl0; subst hl0; simp [Instr.sliceBounds, (g1 _).1, (g1 .index).2]
                | some v =>
                  cases lo' with
                  | none => exact hl.elim
                  | some v' =>
                    obtain ⟨h1, h2⟩ := bnd_run (P := P) hl0 (Nat.le_refl _) hl .sliceB w
                    simp [Instr.sliceBounds, (g1 _).1, (g1 .index).2, h1, h2]
        | some mv =>
          cases mx' with
          | none => exact hm.elim
          | some mv' =>
            have g0 := fun code => bnd_run (P := P) hm0 hc hm code w
            cases hi with
            | none => cases hh0
            | some u =>
              cases hi' with
              | none => exact hh.elim
              | some u' =>
                have g1 := fun code => bnd_run (P := P) hh0 (Nat.le_refl _) hh code w
                cases lo with
                | none =>
                  cases lo' with
                  | some _ => exact hl.elim
                  | none => simp only [Option.some.injEq] at hl0; subst hl0; simp [Instr.sliceBounds, (g0 _).1, (g0 .index).2, (g1 _).1, (g1 .index).2]
                | some v =>
                  cases lo' with
                  | none => exact hl.elim
                  | some v' =>
                    have h1 := fun code => (bnd_run (P := P) hl0 (Nat.le_refl _) hl code w)
                    simp [Instr.sliceBounds, (g0 _).1, (g0 .index).2, (g1 _).1, (g1 .index).2, (h1 _).1, (h1 .index).2]

def opSlice (T : TT) (t : TypeId) (x : Value) (lo hi mx : Option Value) : Option ORes :=
  match T.und t, x with
  | some .string, .string s => if mx.isNone then (match sbA s.size s.size lo hi none with | some (l, h, _) => some (.val (.string (s.extract l h)) []) | none => none) else none
  | some (.slice e), .slice none 0 0 => match T.info e, sbA 0 0 lo hi mx with | some _, some _ => some (.val (.slice none 0 0) []) | _, _ => none
  | some (.slice e), .slice (some ⟨b, off, some sp⟩) len cap =>
    match T.info e, sbA len cap lo hi mx with
    | some i, some (l, h, m) =>
      if h < l then none else
      if sp = 0 then some (.val (.slice (some ⟨b, if m = l then off else off + l * i.size, some 0⟩) (h - l) (m - l)) [])
      else if sp = 1 then (if len = 0 ∧ cap = 0 then some (.val (.slice (some ⟨b, off, some 1⟩) 0 0) []) else none)
      else if mx.isSome then some (.val (.slice (some ⟨b, if m = l then off else off + l * i.size, some 0⟩) (h - l) (m - l)) [])
      else if sp = i.size + 2 then (if l < cap then some (.val (.slice (some ⟨b, off + l * i.size, some sp⟩) (h - l) (cap - l)) []) else if h = l then some (.val (.slice (some ⟨b, off, some 1⟩) 0 0) []) else none)
      else none
    | _, _ => none
  | some (.array n e), .pointer (some ⟨b, off, none⟩) =>
    match T.info e, sbA n n lo hi mx with
    | some i, some (l, h, m) => if h < l then none else some (.val (.slice (some ⟨b, if m = l then off else off + l * i.size, some 0⟩) (h - l) (m - l)) [])
    | _, _ => none
  | _, _ => none

def evo (ts : List Value) : Option Operand → Option (Option Value)
  | none => some none
  | some x => match ev ts x with
    | some v => some (some v)
    | none => none

theorem evo_VR {ρ : Ren} {ts : List Value} {a : Act} (h : VRL ρ ts a.tmps.toList) {x : Option Operand} {v : Option Value} (hv : evo ts x = some v) : OVR ρ v (x.map a.eval) := by
  cases x with
  | none => cases hv; trivial
  | some x =>
    simp only [evo] at hv
    split at hv
    · rename_i u hu; cases hv; exact ev_VR h hu
    · cases hv

theorem slice_sound (hT : T.Ok P) {o : Oper} {ts : List Value} {σ : St} {t : TypeId} {x : Operand} {lo hi mx : Option Operand} {v : Value} {lv hv mv : Option Value} {r : ORes} (ho : o.op = .slice t x lo hi mx)
    (hx : ev ts x = some v) (hl : evo ts lo = some lv) (hh : evo ts hi = some hv) (hm : evo ts mx = some mv) (h : opSlice T t v lv hv mv = some r) : Sound P o ts σ r := by
  unfold opSlice at h
  split at h
  · rename_i s hu
    split at h
    · rename_i hmn
      split at h
      · rename_i l h' m' hsb
        cases h
        refine val_sound fun ρ w a hts => ⟨.string (s.extract l h'), ?_, .string _⟩
        have hv' := ev_VR hts hx
        generalize he : a.eval x = xv at hv'
        cases hv'
        have hmv : mv = none := by simpa using hmn
        subst hmv
        have hm' := evo_VR hts hm
        have hmx : mx.map a.eval = none := by cases hq : mx.map a.eval with | none => rfl | some _ => rw [hq] at hm'; exact hm'.elim
        have hb := (sbA_run (P := P) (b := false) hsb (Nat.le_refl _) (evo_VR hts hl) (evo_VR hts hh) (mx' := none) trivial w).1
        simp [execOp, ho, he, Instr.sliceAt, Instr.slice, run_underlying (hT.und hu), hmx, hb]
      · cases h
    · cases h
  · rename_i e hu
    split at h
    · rename_i ie tr hie hsb
      obtain ⟨l, h', m⟩ := tr
      cases h
      refine val_sound fun ρ w a hts => ⟨.slice none 0 0, ?_, .sliceNil⟩
      have hv' := ev_VR hts hx
      generalize he : a.eval x = xv at hv'
      cases hv'
      obtain ⟨hb, b1, b2, b3, b4, b5, b6⟩ := sbA_run (P := P) (b := true) hsb (Nat.le_refl _) (evo_VR hts hl) (evo_VR hts hh) (evo_VR hts hm) w
      have hm0 : m = 0 := by cases mv with | none => exact b2 rfl | some _ => have := b1 rfl; omega
      have hh0 : h' = 0 := by cases hv with | none => exact b4 rfl | some _ => have := b3 rfl; omega
      have hl0 : l = 0 := by cases lv with | none => exact b6 rfl | some _ => have := b5 rfl; omega
      subst hm0 hh0 hl0
      have hb' : (Instr.sliceBounds true 0 0 (lo.map a.eval) (hi.map a.eval) (mx.map a.eval)).run P w = .ok (0, 0, 0) w := by
        rw [hb]; cases mv <;> rfl
      have hsz := run_sizeOf (hT.info _ _ hie) w
      simp [execOp, ho, he, Instr.sliceAt, run_underlying (hT.und hu), Instr.slice, hb', hsz]
    · cases h
  · rename_i e b off sp len cap hu
    split at h
    · rename_i i l h' m hi' hsb
      split at h
      · cases h
      · rename_i hlh
        -- the run, at whatever address and capacity
        have run : ∀ (ρ : Ren) (w : World) (a : Act), VRL ρ ts a.tmps.toList → ∀ (ad : Addr) (cap' : Nat), cap ≤ cap' → a.eval x = .slice (some ad) len cap' →
            (execOp a.eval o).run P w = .ok (.value (.slice (some (if (if mv.isSome then m else cap') = l then ad else ad.add (l * i.size))) (h' - l) ((if mv.isSome then m else cap') - l))) w ∧ (mv = none → m = cap) := fun ρ w a hts ad cap' hc he => by
          obtain ⟨hb, b1, b2, b3, b4, b5, b6⟩ := sbA_run (P := P) (b := true) hsb hc (evo_VR hts hl) (evo_VR hts hh) (evo_VR hts hm) w
          refine ⟨?_, b2⟩
          simp only [execOp, ho, he, Instr.sliceAt, Sem.run_bind, run_underlying (hT.und hu), Result.andThen_ok, Instr.slice, hb, run_sizeOf (hT.info _ _ hi'), Option.map_some]
          split <;> simp <;> split <;> rfl
        have hadd : ∀ (b o k : Nat), (⟨b, o, none⟩ : Addr).add k = ⟨b, o + k, none⟩ := fun b o k => Addr.add_lit b o k
        have hpush : ∀ (c : Prop) [Decidable c] (b o₁ o₂ : Nat), (if c then (⟨b, o₁, none⟩ : Addr) else ⟨b, o₂, none⟩) = ⟨b, if c then o₁ else o₂, none⟩ := fun c _ b o₁ o₂ => by split <;> rfl
        have hpull : ∀ (c : Prop) [Decidable c] (p q r : Nat), (if c then p + q else p + r) = p + (if c then q else r) := fun c _ p q r => by split <;> rfl
        split at h
        · rename_i hsp
          subst hsp
          cases h
          refine val_sound fun ρ w a hts => ?_
          have hv' := ev_VR hts hx
          generalize he : a.eval x = xv at hv'
          cases hv' with
          | sliceX hlo =>
            rename_i lc
            obtain ⟨hr, hm0⟩ := run ρ w a hts _ _ (Nat.le_refl _) he
            have e1 : (if mv.isSome then m else cap) = m := by cases mv with | none => rw [hm0 rfl]; rfl | some _ => rfl
            rw [e1, hadd, hpush, Nat.add_assoc, hpull] at hr
            exact ⟨_, hr, .sliceX hlo⟩
        · split at h
          · rename_i hsp0 hsp
            subst hsp
            split at h
            · rename_i hz
              obtain ⟨rfl, rfl⟩ := hz
              cases h
              refine val_sound fun ρ w a hts => ?_
              have hv' := ev_VR hts hx
              generalize he : a.eval x = xv at hv'
              cases hv' with
              | sliceE =>
                rename_i cap' ad
                obtain ⟨hr, hm0⟩ := run ρ w a hts _ _ (Nat.zero_le _) he
                obtain ⟨_, b1, b2, b3, b4, b5, b6⟩ := sbA_run (P := P) (b := true) hsb (Nat.zero_le cap') (evo_VR hts hl) (evo_VR hts hh) (evo_VR hts hm) w
                have hm1 : m = 0 := by cases mv with | none => exact b2 rfl | some _ => have := b1 rfl; omega
                have hh1 : h' = 0 := by cases hv with | none => exact b4 rfl | some _ => have := b3 rfl; omega
                have hl1 : l = 0 := by omega
                subst hm1 hh1 hl1
                exact ⟨_, hr, .sliceE⟩
            · cases h
          · rename_i hsp0 hsp1
            obtain ⟨u, rfl⟩ : ∃ u, sp = u + 2 := ⟨sp - 2, by omega⟩
            split at h
            · rename_i hms
              cases h
              refine val_sound fun ρ w a hts => ?_
              have hv' := ev_VR hts hx
              generalize he : a.eval x = xv at hv'
              cases hv' with
              | sliceG hlo hc hg =>
                rename_i lc
                obtain ⟨hr, hm0⟩ := run ρ w a hts _ _ hc he
                rw [if_pos hms, hadd, hpush, Nat.add_assoc, hpull] at hr
                exact ⟨_, hr, .sliceX hlo⟩
            · rename_i hms
              split at h
              · rename_i hu2
                obtain rfl : u = i.size := by omega
                have hmn : mv = none := by cases mv with | none => rfl | some _ => exact absurd rfl hms
                split at h
                · rename_i hlc
                  cases h
                  refine val_sound fun ρ w a hts => ?_
                  have hv' := ev_VR hts hx
                  generalize he : a.eval x = xv at hv'
                  cases hv' with
                  | sliceG hlo hc hg =>
                    rename_i cap' lc
                    obtain ⟨hr, hm0⟩ := run ρ w a hts _ _ hc he
                    rw [if_neg hms, if_neg (by omega), hadd, Nat.add_assoc] at hr
                    refine ⟨_, hr, .sliceG hlo (by omega) ?_⟩
                    have e2 : cap' * i.size = l * i.size + (cap' - l) * i.size := by rw [← Nat.add_mul]; congr 1; omega
                    omega
                · rename_i hlc
                  split at h
                  · rename_i hhl
                    cases h
                    refine val_sound fun ρ w a hts => ?_
                    have hv' := ev_VR hts hx
                    generalize he : a.eval x = xv at hv'
                    cases hv' with
                    | sliceG hlo hc hg =>
                      obtain ⟨hr, hm0⟩ := run ρ w a hts _ _ hc he
                      rw [hhl, Nat.sub_self] at hr
                      exact ⟨_, hr, .sliceE⟩
                  · cases h
              · cases h
    · cases h
  · rename_i n e b off hu
    split at h
    · rename_i i l h' m hi' hsb
      split at h
      · cases h
      · rename_i hlh
        cases h
        refine val_sound fun ρ w a hts => ?_
        have hv' := ev_VR hts hx
        generalize he : a.eval x = xv at hv'
        cases hv' with
        | ptr hlo =>
          rename_i lc
          obtain ⟨hb, b1, b2, b3, b4, b5, b6⟩ := sbA_run (P := P) (b := false) hsb (Nat.le_refl _) (evo_VR hts hl) (evo_VR hts hh) (evo_VR hts hm) w
          have hb' : (Instr.sliceBounds false n n (lo.map a.eval) (hi.map a.eval) (mx.map a.eval)).run P w = .ok (l, h', m) w := by
            rw [hb]; cases mv with | none => rw [b2 rfl]; rfl | some _ => rfl
          refine ⟨.slice (some ⟨lc.block, lc.off + (if m = l then off else off + l * i.size), none⟩) (h' - l) (m - l), ?_, .sliceX hlo⟩
          simp only [execOp, ho, he, Instr.sliceAt, Sem.run_bind, run_underlying (hT.und hu), Result.andThen_ok, Instr.sureAddr, Sem.run_pure, hb', run_sizeOf (hT.info _ _ hi')]
          split <;> simp [Addr.add_lit, Nat.add_assoc]
    · cases h
  · cases h

/-! ### append, copy -/
/-- The cells that are appended or copied: so many elements of so many cells, and the block that is looked at. -/
def srcCells (σ : St) (sz : Nat) : Value → Nat → Option (List Value × List Nat)
  | .slice none 0 0, _ => some ([], [])
  | .slice (some ⟨b, off, some _⟩) _ _, n =>
    if n * sz = 0 then some ([], []) else
    match σ.get b with
    | some (.cells vs _) => if off + n * sz ≤ vs.length then some ((vs.drop off).take (n * sz), [b]) else none
    | _ => none
  | .string s, n => if sz = 1 then some ((s.data.toList.take n).map fun b => .int .u8 b.toNat, []) else none
  | _, _ => none

def srcLen : Value → Option Nat
  | .slice none 0 0 => some 0
  | .slice (some ⟨_, _, some _⟩) n _ => some n
  | .string s => some s.size
  | _ => none

theorem srcLen_run {ρ : Ren} {v v' : Value} {n : Nat} (h : srcLen v = some n) (hv : VR ρ v v') (w : World) : (Builtin.lenOf v').run P w = .ok n w := by
  unfold srcLen at h
  split at h <;> first
    | (cases h; cases hv <;> rfl)
    | cases h

theorem srcCells_run {ρ : Ren} {σ : St} {H : Array Obj} {v v' : Value} {sz n : Nat} {xs : List Value} {rd : List Nat} (h : srcCells σ sz v n = some (xs, rd)) (hn : ∃ k, srcLen v = some k ∧ n ≤ k) (hv : VR ρ v v') (hrd : Reads ρ σ H rd) :
    ∃ xs' : List Value, (∀ w : World, w.heap = H → (Builtin.firstCells sz n v').run P w = .ok ⟨xs'⟩ w) ∧ VRL ρ xs xs' ∧ xs.length = n * sz := by
  unfold srcCells at h
  split at h
  · cases h
    cases hv
    obtain ⟨k, h1, h2⟩ := hn
    simp only [srcLen, Option.some.injEq] at h1
    obtain rfl : n = 0 := by omega
    exact ⟨[], fun _ _ => rfl, .nil, by simp⟩
  · rename_i b off sp len cap
    split at h
    · rename_i hz
      cases h
      refine ⟨[], fun w _ => ?_, .nil, hz.symm⟩
      cases hv <;> (simp only [Builtin.firstCells, loadCells]; rw [hz]; rfl)
    · rename_i hz
      split at h
      · rename_i vs ro hg
        split at h
        · rename_i hfit
          cases h
          have key : ∀ (l : Loc) (cap' : Nat), ρ b = some l → v' = .slice (some ⟨l.block, l.off + off, none⟩) len cap' → ∃ xs' : List Value, (∀ w : World, w.heap = H → (Builtin.firstCells sz n v').run P w = .ok ⟨xs'⟩ w) ∧ VRL ρ ((vs.drop off).take (n * sz)) xs' ∧ ((vs.drop off).take (n * sz)).length = n * sz := fun l cap' hl he => by
            subst he
            obtain ⟨cs, hcs, hc⟩ := (hrd b (by simp) l _ hl hg).cellsAt
            have hlen := hcs.length
            refine ⟨(cs.drop off).take (n * sz), fun w hw => ?_, (hcs.drop off).take _, by simp; omega⟩
            have hlen2 : ((cs.drop off).take (n * sz)).length = n * sz := by simp; omega
            have := run_loadCells_list (P := P) w ⟨l.block, l.off + off, none⟩ ((cs.drop off).take (n * sz)) (fun j u hj => by
              rw [Addr.add_lit]
              rw [List.getElem?_take] at hj
              split at hj
              · rw [List.getElem?_drop] at hj
                have := hc w hw (off + j) u hj
                rwa [← Nat.add_assoc] at this
              · cases hj)
            rw [hlen2] at this
            exact this
          cases hv with
          | sliceX hl => exact key _ _ hl rfl
          | sliceG hl => exact key _ _ hl rfl
          | sliceE =>
            obtain ⟨k, h1, h2⟩ := hn
            simp only [srcLen, Option.some.injEq] at h1
            obtain rfl : n = 0 := by omega
            simp at hz
        · cases h
      · cases h
  · rename_i s
    split at h
    · rename_i hsz
      subst hsz
      cases h
      cases hv
      obtain ⟨k, h1, h2⟩ := hn
      simp only [srcLen, Option.some.injEq] at h1
      subst h1
      refine ⟨(s.data.toList.take n).map fun b => .int .u8 b.toNat, fun w _ => ?_, ?_, ?_⟩
      · simp only [Builtin.firstCells, Sem.run_pure]
        congr 1
        apply Array.ext'
        simp [ByteArray.data_extract]
      · have : ∀ l : List UInt8, VRL ρ (l.map fun b => .int .u8 b.toNat) (l.map fun b => .int .u8 b.toNat) := fun l => by
          induction l with
          | nil => exact .nil
          | cons b l ih => exact .cons (.int _ _) ih
        exact this _
      · simp
        exact Nat.min_eq_left h2
    · cases h
  · cases h

/-- An old block is not spoken of any more. -/
theorem Aft.kill {ρ ρ' : Ren} {σ σ' : St} {w w' : World} (h : Aft ρ σ w ρ' σ' w') {b : Nat} {l : Loc} (hb : b < σ.next) (hl : ρ b = some l) (hg : σ.get b ≠ none) : Aft ρ σ w ρ' (σ'.put b none) w' where
  ext := h.ext
  wr := ⟨fun c k hk => h.wr.dom c k hk, fun c k o hk hg' => by
      rw [St.get_put] at hg'; split at hg'
      · cases hg'
      · exact h.wr.obj c k o hk hg', fun c c' k k' hk hk' hg1 hg2 hbl => by
      rw [St.get_put] at hg1 hg2
      split at hg1
      · exact absurd rfl hg1
      · split at hg2
        · exact absurd rfl hg2
        · exact h.wr.inj c c' k k' hk hk' hg1 hg2 hbl⟩
  size := h.size
  fr := h.fr
  nxt := h.nxt
  kept c hc hn := by
    rw [St.get_put, if_neg]
    · exact h.kept c hc hn
    · intro e; subst e; rw [hl] at hn; cases hn
  dead c hc hd := by
    rw [St.get_put]; split
    · rfl
    · exact h.dead c hc hd
  fresh := h.fresh
  tape := h.tape
  os := h.os
  out := h.out

/-- A block is spoken of under a new number, from some cell on, its cells turned. -/
theorem Aft.move {ρ : Ren} {σ : St} {w w' : World} {b off : Nat} {l : Loc} {ob : AObj} {o' : Obj} (hw : WR ρ σ w.heap) (hl : ρ b = some l) (hlive : σ.get b ≠ none)
    (hh : w'.heap = w.heap.setIfInBounds l.block o') (ht : w'.tape = w.tape) (hos : w'.os = w.os) (hout : w'.output = w.output)
    (ho : OR (ρ.add σ.next ⟨l.block, l.off + off, l.size - off, none⟩) ⟨l.block, l.off + off, l.size - off, none⟩ w'.heap ob) :
    Aft ρ σ w (ρ.add σ.next ⟨l.block, l.off + off, l.size - off, none⟩) ((σ.new ob).put b none) w' := by
  have hlt := hw.dom b l hl
  have hle : ρ.le (ρ.add σ.next ⟨l.block, l.off + off, l.size - off, none⟩) := fun c k hk => by
    rw [Ren.add_other]; exact hk
    have := (hw.dom c k hk).1; omega
  have hother : ∀ k, k ≠ l.block → w'.heap[k]? = w.heap[k]? := fun k hk => by
    rw [hh, Array.getElem?_setIfInBounds_ne (by omega)]
  have hsize : w'.heap.size = w.heap.size := by rw [hh]; simp
  -- a live block of the new state, seen in the old one
  have live : ∀ c k, ρ.add σ.next ⟨l.block, l.off + off, l.size - off, none⟩ c = some k → ((σ.new ob).put b none).get c ≠ none → c ≠ b ∧ ((c = σ.next ∧ k = ⟨l.block, l.off + off, l.size - off, none⟩) ∨ (c ≠ σ.next ∧ ρ c = some k ∧ σ.get c ≠ none)) := fun c k hk hg => by
    rw [St.get_put] at hg
    split at hg
    · exact absurd rfl hg
    · rename_i hcb
      refine ⟨fun e => hcb e.symm, ?_⟩
      by_cases e : c = σ.next
      · subst e; rw [Ren.add_same] at hk; cases hk; exact .inl ⟨rfl, rfl⟩
      · rw [Ren.add_other _ _ e] at hk
        rw [St.get_new, if_neg (by omega)] at hg
        exact .inr ⟨e, hk, hg⟩
  refine { ext := fun c hc => Ren.add_other ρ _ (by omega), wr := ⟨?_, ?_, ?_⟩, size := by omega, fr := ?_, nxt := by simp, kept := ?_, dead := ?_, fresh := ?_, tape := ht, os := hos, out := hout }
  · intro c k hk
    by_cases e : c = σ.next
    · subst e; rw [Ren.add_same] at hk; cases hk
      exact ⟨by simp, by rw [hsize]; exact hlt.2⟩
    · rw [Ren.add_other _ _ e] at hk
      have := hw.dom c k hk
      exact ⟨by simp; omega, by omega⟩
  · intro c k o hk hg
    obtain ⟨hcb, h1 | ⟨h1, h2, h3⟩⟩ := live c k hk (by rw [hg]; simp)
    · obtain ⟨rfl, rfl⟩ := h1
      rw [St.get_put, if_neg (fun e => hcb e.symm), St.get_new, if_pos rfl] at hg
      cases hg
      exact ho
    · rw [St.get_put, if_neg (fun e => hcb e.symm), St.get_new, if_neg (by omega)] at hg
      refine ((hw.obj c k o h2 hg).of_block (hother _ fun he => hcb ?_)).mono hle
      exact hw.inj c b k l h2 hl h3 hlive he
  · intro c c' k k' hk hk' hg hg' hbl
    obtain ⟨hcb, h1 | ⟨h1, h2, h3⟩⟩ := live c k hk hg
    · obtain ⟨rfl, rfl⟩ := h1
      obtain ⟨hcb', h1' | ⟨h1', h2', h3'⟩⟩ := live c' k' hk' hg'
      · exact h1'.1.symm
      · exact absurd (hw.inj c' b k' l h2' hl h3' hlive hbl.symm) hcb'
    · obtain ⟨hcb', h1' | ⟨h1', h2', h3'⟩⟩ := live c' k' hk' hg'
      · obtain ⟨rfl, rfl⟩ := h1'
        exact absurd (hw.inj c b k l h2 hl h3 hlive hbl) hcb
      · exact hw.inj c c' k k' h2 h2' h3 h3' hbl
  · intro k _ hn
    exact hother k fun e => hn b l hl hlive e.symm
  · intro c hc hn
    rw [St.get_put, if_neg, St.get_new, if_neg (by omega)]
    intro e; subst e; rw [hl] at hn; cases hn
  · intro c hc hd
    rw [St.get_put]; split
    · rfl
    · rw [St.get_new, if_neg (by omega)]; exact hd
  · intro c k hc hk
    by_cases e : c = σ.next
    · subst e; rw [Ren.add_same] at hk; cases hk
      exact .inr ⟨b, l, hl, hlive, rfl⟩
    · rw [Ren.add_other _ _ e] at hk
      have := (hw.dom c k hk).1; omega

def isSeqD : TypeDesc → Bool
  | .slice _ | .string => true
  | _ => false

/-- append(s, x...) -/
def opAppend (T : TT) (σ : St) (t t' : TypeId) (s x : Value) : Option ORes :=
  match T.und t, T.und t', srcLen x with
  | some (.slice e), some d', some n =>
    match T.info e with
    | some i =>
      match i.zero, srcCells σ i.size x n with
      | some z, some (xs, rd) =>
        if isSeqD d' = false ∨ i.size = 0 ∨ 4096 < i.bytes ∨ 4294967296 ≤ n ∨ oneCells xs = false ∨ plain z = false ∨ (vcells z).length ≠ i.size then none else
        match s with
        | .slice none 0 0 => if n = 0 then some (.val (.slice none 0 0) rd) else some (.new (.cells xs false) (.slice (some ⟨σ.next, 0, some (i.size + 2)⟩) n n) rd)
        | .slice (some ⟨b, off, some sp⟩) len cap =>
          if 4294967296 ≤ len then none else
          if n = 0 then (if len ≤ cap then some (.val (.slice (some ⟨b, off, some sp⟩) len cap) rd) else none) else
          if sp = 1 then none else
          match σ.get b with
          | some (.cells vs ro) =>
            if off + len * i.size ≤ vs.length then
              if len + n ≤ cap then
                (if ro = false ∧ off + (len + n) * i.size ≤ vs.length then some (.eff (.slice (some ⟨b, off, some sp⟩) (len + n) cap) (σ.set b (.cells (over vs (off + len * i.size) xs) false)) [b]) else none)
              else if sp = 0 then some (.new (.cells ((vs.drop off).take (len * i.size) ++ xs) false) (.slice (some ⟨σ.next, 0, some (i.size + 2)⟩) (len + n) (len + n)) (b :: rd))
              else if sp = i.size + 2 ∧ ro = false then
                some (.eff (.slice (some ⟨σ.next, 0, some (i.size + 2)⟩) (len + n) (len + n)) ((σ.new (.cells ((vs.drop off).take (len * i.size) ++ xs) false)).put b none) [b])
              else none
            else none
          | _ => none
        | _ => none
      | _, _ => none
    | none => none
  | _, _, _ => none

theorem isSeqD_kind {t' : TypeId} {d' : TypeDesc} (hu' : P.underlying t' = some d') (hd : isSeqD d' = true) : (∃ e', P.underlying t' = some (.slice e')) ∨ P.underlying t' = some .string := by
  cases d' <;> first
    | (simp [isSeqD] at hd; done)
    | exact .inl ⟨_, hu'⟩
    | exact .inr hu'

/-- What append comes to where there is room. -/
theorem run_append_in {t t' ty e : TypeId} {i : TypeInfo} {x : Value} {n len cap : Nat} {w w' : World} {xs : List Value} {ad : Addr} (hu : P.underlying t = some (.slice e)) (hk : (∃ e', P.underlying t' = some (.slice e')) ∨ P.underlying t' = some .string) (hi : P.info? e = some i)
    (hn : (Builtin.lenOf x).run P w = .ok n w) (hx : (Builtin.firstCells i.size n x).run P w = .ok ⟨xs⟩ w) (hroom : len + n ≤ cap) (hst : (storeCells (ad.add (len * i.size)) xs).run P w = .ok () w') :
    (Builtin.append_ #[t, t'] ty #[.slice (some ad) len cap, x]).run P w = .ok (.slice (some ad) (len + n) cap) w' := by
  rcases hk with ⟨e', hk⟩ | hk <;> simp [Builtin.append_, run_underlying hu, run_underlying hk, sizeOf, typeInfo, hi, hn, hroom, hx, hst]

theorem run_append_nilnil {t t' ty e : TypeId} {i : TypeInfo} {x : Value} {w : World} (hu : P.underlying t = some (.slice e)) (hk : (∃ e', P.underlying t' = some (.slice e')) ∨ P.underlying t' = some .string) (hi : P.info? e = some i)
    (hn : (Builtin.lenOf x).run P w = .ok 0 w) (hx : (Builtin.firstCells i.size 0 x).run P w = .ok ⟨[]⟩ w) :
    (Builtin.append_ #[t, t'] ty #[.slice none 0 0, x]).run P w = .ok (.slice none 0 0) w := by
  rcases hk with ⟨e', hk⟩ | hk <;> simp [Builtin.append_, run_underlying hu, run_underlying hk, sizeOf, typeInfo, hi, hn, hx]

/-- The call of a builtin, as an operation. -/
theorem exec_builtin {o : Oper} {b : Builtin} {xs : Array Operand} {tys : Array TypeId} {a : Act} {w w' : World} {v : Value} (ho : o.op = .call { callee := .builtin b, args := xs, argTypes := tys })
    (h : ∀ consts, (builtin b tys o.type consts (xs.map a.eval)).run P w = .ok (.value v) w') : (execOp a.eval o).run P w = .ok (.value v) w' := by
  simp only [execOp, ho, resolve, Sem.run_bind, Sem.run_pure, Result.andThen_ok, invoke]
  exact h _

theorem append_sound (hT : T.Ok P) {o : Oper} {ts : List Value} {σ : St} {t t' : TypeId} {x y : Operand} {u v : Value} {r : ORes} (ho : o.op = .call { callee := .builtin .append, args := #[x, y], argTypes := #[t, t'] })
    (hx : ev ts x = some u) (hy : ev ts y = some v) (h : opAppend T σ t t' u v = some r) : Sound P o ts σ r := by
  unfold opAppend at h
  split at h
  · rename_i e d' n hu hu' hn
    split at h
    · rename_i i hi
      split at h
      · rename_i z xs rd hz hxs
        split at h
        · cases h
        · rename_i hc
          simp only [not_or, Bool.not_eq_false] at hc
          obtain ⟨hd, hsz, hby, hn32, hone, hpz, hzl⟩ := hc
          have hk := isSeqD_kind (hT.und hu') hd
          have hu1 := hT.und hu
          have hi1 := hT.info _ _ hi
          -- what the source yields
          have src : ∀ (ρ : Ren) (H : Array Obj) (a : Act), VRL ρ ts a.tmps.toList → Reads ρ σ H rd → ∃ xs' : List Value, (∀ w' : World, (Builtin.lenOf (a.eval y)).run P w' = .ok n w') ∧ (∀ w' : World, w'.heap = H → (Builtin.firstCells i.size n (a.eval y)).run P w' = .ok ⟨xs'⟩ w') ∧ VRL ρ xs xs' ∧ xs.length = n * i.size := fun ρ H a hts hrd => by
            have hvy := ev_VR hts hy
            obtain ⟨xs', h1, h2, h3⟩ := srcCells_run (P := P) hxs ⟨n, hn, Nat.le_refl _⟩ hvy hrd
            exact ⟨xs', fun w' => srcLen_run hn hvy w', h1, h2, h3⟩
          have hbt : ∀ (consts : Array Bool) (as : Array Value), builtin .append #[t, t'] o.type consts as = (do pure (.value (← Builtin.append_ #[t, t'] o.type as))) := fun _ _ => rfl
          -- where it grows: the new row
          have grow : ∀ (ρ : Ren) (w : World) (a : Act) (base : Option Addr) (len cap : Nat) (os os' : List Value), VRL ρ ts a.tmps.toList → Reads ρ σ w.heap rd → a.eval x = .slice base len cap → VRL ρ os os' → os.length = len * i.size →
              (∀ w' : World, w'.heap = w.heap → (Builtin.firstCells i.size len (.slice base len cap)).run P w' = .ok ⟨os'⟩ w') → cap < len + n → len < 4294967296 →
              ∃ (c : Nat) (cs' : Array Value), (execOp a.eval o).run P w = .ok (.value (.slice (some ⟨w.heap.size, 0, none⟩) (len + n) c)) (w.drew.alloc (.cells cs' e)) ∧ len + n ≤ c ∧ cs'.size = c * i.size ∧ VRL ρ (os ++ xs) (cs'.toList.take ((len + n) * i.size)) := fun ρ w a base len cap os os' hts hrd he hos hlo hold hlt hl32 => by
            obtain ⟨xs', h1, h2, h3, h4⟩ := src ρ w.heap a hts hrd
            have hl3 := h3.length
            have hsrc : Src P i.size t' (a.eval y) n xs' w := ⟨hk, h1, h2 w rfl, h2 w.drew rfl, by omega, oneCells_VRL h3 hone⟩
            have hfit : Builtin.nextslicecap (len + n) cap * i.bytes ≤ 281474976710656 := by
              have g1 := nextslicecap_le (need := len + n) (old := cap) hlt
              have g2 : Builtin.nextslicecap (len + n) cap * i.bytes ≤ (2 * (len + n)) * 4096 := Nat.mul_le_mul g1 (by omega)
              omega
            have hrun := run_append_grow_src (P := P) w t t' o.type e i z hu1 hi1 hz base len cap os' (hold w.drew rfl) (a.eval y) n xs' hsrc hlt (by omega) hfit
            have hge := grownCap_ge w (len + n) cap e
            have hzc : z.cells.size = i.size := by have := (vcells_VR (plain_VR ρ z (by simpa using hpz))).length; simp at this; omega
            have hl1 := hos.length
            have hmul : (len + n) * i.size = len * i.size + n * i.size := Nat.add_mul _ _ _
            refine ⟨grownCap w (len + n) cap e, (os' ++ xs').toArray ++ Builtin.zeroCells z.cells (grownCap w (len + n) cap e - (len + n)), ?_, hge, ?_, ?_⟩
            · refine exec_builtin ho fun consts => ?_
              rw [hbt]
              simp only [List.map_toArray, List.map_cons, List.map_nil, he, Sem.run_bind, hrun, Result.andThen_ok, Sem.run_pure]
            · have e1 : grownCap w (len + n) cap e * i.size = (len + n) * i.size + (grownCap w (len + n) cap e - (len + n)) * i.size := by rw [← Nat.add_mul]; congr 1; omega
              simp only [Array.size_append, List.size_toArray, List.length_append, size_zeroCells, hzc]
              omega
            · have e2 : (((os' ++ xs').toArray ++ Builtin.zeroCells z.cells (grownCap w (len + n) cap e - (len + n))).toList.take ((len + n) * i.size)) = os' ++ xs' := by
                rw [Array.toList_append]
                exact List.take_left' (by simp; omega)
              rw [e2]
              exact hos.append h3
          -- where there is room, or nothing to append
          have fits : ∀ (w w' : World) (a : Act) (ad : Addr) (len cap : Nat) (xs' : List Value), a.eval x = .slice (some ad) len cap → (Builtin.lenOf (a.eval y)).run P w = .ok n w → (Builtin.firstCells i.size n (a.eval y)).run P w = .ok ⟨xs'⟩ w → len + n ≤ cap →
              (storeCells (ad.add (len * i.size)) xs').run P w = .ok () w' → (execOp a.eval o).run P w = .ok (.value (.slice (some ad) (len + n) cap)) w' := fun w w' a ad len cap xs' he h1 h2 h3 h4 => by
            refine exec_builtin ho fun consts => ?_
            rw [hbt]
            have := run_append_in (ty := o.type) hu1 hk hi1 h1 h2 h3 h4
            simp only [List.map_toArray, List.map_cons, List.map_nil, he, Sem.run_bind, this, Result.andThen_ok, Sem.run_pure]
          have hmul : ∀ m : Nat, (m + n) * i.size = m * i.size + n * i.size := fun m => Nat.add_mul _ _ _
          split at h
          · split at h
            · rename_i hn0
              cases h
              intro ρ w a hts hrd
              have hvx := ev_VR hts hx
              generalize he : a.eval x = xv at hvx
              cases hvx
              obtain ⟨xs', h1, h2, h3, h4⟩ := src ρ w.heap a hts hrd
              subst hn0
              have hx0 : xs' = [] := by have := h3.length; rw [h4] at this; simpa using this.symm
              refine ⟨.slice none 0 0, ?_, .sliceNil⟩
              refine exec_builtin ho fun consts => ?_
              rw [hbt]
              have := run_append_nilnil (ty := o.type) hu1 hk hi1 (h1 w) (by have := h2 w rfl; rw [hx0] at this; exact this)
              simp only [List.map_toArray, List.map_cons, List.map_nil, he, Sem.run_bind, this, Result.andThen_ok, Sem.run_pure]
            · rename_i hn0
              cases h
              intro ρ w a hts hrd
              have hvx := ev_VR hts hx
              generalize he : a.eval x = xv at hvx
              cases hvx
              obtain ⟨c, cs', h1, h2, h3, h4⟩ := grow ρ w a none 0 0 [] [] hts hrd he .nil (by simp) (fun _ _ => rfl) (by omega) (by omega)
              simp only [Nat.zero_add, List.nil_append] at h1 h2 h4
              refine ⟨_, _, .cells cs' e, c * i.size, h1, rfl, rfl, rfl, rfl, fun ρ' hle hnx => ⟨?_, ?_⟩⟩
              · refine .sliceG hnx h2 (by simp)
              · obtain ⟨xs', _, _, _, hlx⟩ := src ρ w.heap a hts hrd
                refine ⟨cs', e, (0, 0), by show (w.heap.push _)[w.heap.size]? = _; simp, by simp [h3], by rw [hlx]; exact Nat.mul_le_mul_right _ h2, ⟨fun _ => rfl, fun h => by cases h⟩, ?_⟩
                rw [hlx]; simpa using h4.mono hle
          · rename_i b off sp len cap
            split at h
            · cases h
            · rename_i hl32
              split at h
              · rename_i hn0
                split at h
                · rename_i hlc
                  cases h
                  intro ρ w a hts hrd
                  have hvx := ev_VR hts hx
                  obtain ⟨xs', h1, h2, h3, h4⟩ := src ρ w.heap a hts hrd
                  subst hn0
                  have hx0 : xs' = [] := by have := h3.length; rw [h4] at this; simpa using this.symm
                  subst hx0
                  have key : ∀ (ad : Addr) (cap' : Nat), cap ≤ cap' → a.eval x = .slice (some ad) len cap' → (execOp a.eval o).run P w = .ok (.value (.slice (some ad) len cap')) w := fun ad cap' hc he => fits w w a ad len cap' [] he (h1 w) (h2 w rfl) (by omega) rfl
                  generalize he : a.eval x = xv at hvx
                  cases hvx with
                  | sliceX hlo => exact ⟨_, key _ _ (Nat.le_refl _) he, .sliceX hlo⟩
                  | sliceG hlo hc hg => exact ⟨_, key _ _ hc he, .sliceG hlo hc hg⟩
                  | sliceE => exact ⟨_, key _ _ (Nat.zero_le _) he, .sliceE⟩
                · cases h
              · rename_i hn0
                split at h
                · cases h
                · rename_i hsp1
                  split at h
                  · rename_i vs ro hg
                    split at h
                    · rename_i hfit
                      split at h
                      · rename_i hroom
                        split at h
                        · rename_i hc
                          obtain ⟨hro, hfit2⟩ := hc
                          subst hro
                          cases h
                          refine ⟨?_, logged_put _ _ _⟩
                          intro ρ w a hw hts
                          have hvx := ev_VR hts hx
                          obtain ⟨xs', h1, h2, h3, h4⟩ := src ρ w.heap a hts (hw.reads rd)
                          have hm := hmul len
                          have key : ∀ (l : Loc) (cap' : Nat), cap ≤ cap' → ρ b = some l → a.eval x = .slice (some ⟨l.block, l.off + off, none⟩) len cap' →
                              ∃ w', (execOp a.eval o).run P w = .ok (.value (.slice (some ⟨l.block, l.off + off, none⟩) (len + n) cap')) w' ∧ Aft ρ σ w ρ (σ.set b (.cells (over vs (off + len * i.size) xs) false)) w' := fun l cap' hc hlo he => by
                            obtain ⟨w', g1, g2, ⟨o', g3⟩, g4, g5, g6⟩ := OR.over (P := P) (hw.obj b l _ hlo hg) (off + len * i.size) xs xs' h3 (by omega) hone
                            refine ⟨w', fits w w' a _ len cap' xs' he (h1 w) (h2 w rfl) (by omega) ?_, Aft.put hw hlo (by rw [hg]; simp) g3 g4 g5 g6 g2⟩
                            rw [Addr.add_lit, Nat.add_assoc]; exact g1
                          generalize he : a.eval x = xv at hvx
                          cases hvx with
                          | sliceX hlo => obtain ⟨w', k1, k2⟩ := key _ _ (Nat.le_refl _) hlo he; exact ⟨ρ, _, w', .inl k1, .sliceX hlo, k2⟩
                          | sliceG hlo hcc hgg => obtain ⟨w', k1, k2⟩ := key _ _ hcc hlo he; exact ⟨ρ, _, w', .inl k1, .sliceG hlo hcc hgg, k2⟩
                          | sliceE => exact absurd rfl hsp1
                        · cases h
                      · rename_i hroom
                        -- the cells that were there
                        have olds : ∀ (ρ : Ren) (H : Array Obj) (l : Loc) (cap' : Nat), OR ρ l H (.cells vs ro) → ∃ os' : List Value, VRL ρ ((vs.drop off).take (len * i.size)) os' ∧ ∀ w' : World, w'.heap = H → (Builtin.firstCells i.size len (.slice (some ⟨l.block, l.off + off, none⟩) len cap')).run P w' = .ok ⟨os'⟩ w' := fun ρ H l cap' hob => by
                          obtain ⟨cs, hcs, hcell⟩ := hob.cellsAt
                          have hlen := hcs.length
                          refine ⟨(cs.drop off).take (len * i.size), (hcs.drop off).take _, fun w' hw' => ?_⟩
                          have hlen2 : ((cs.drop off).take (len * i.size)).length = len * i.size := by simp; omega
                          have := run_loadCells_list (P := P) w' ⟨l.block, l.off + off, none⟩ ((cs.drop off).take (len * i.size)) (fun j u hj => by
                            rw [Addr.add_lit]
                            rw [List.getElem?_take] at hj
                            split at hj
                            · rw [List.getElem?_drop] at hj
                              have := hcell w' hw' (off + j) u hj
                              rwa [← Nat.add_assoc] at this
                            · cases hj)
                          rw [hlen2] at this
                          exact this
                        have hol : ((vs.drop off).take (len * i.size)).length = len * i.size := by simp; omega
                        split at h
                        · rename_i hsp0
                          subst hsp0
                          cases h
                          intro ρ w a hts hrd
                          have hvx := ev_VR hts hx
                          generalize he : a.eval x = xv at hvx
                          cases hvx with
                          | sliceX hlo =>
                            rename_i l
                            have hrd' : Reads ρ σ w.heap rd := fun c hc => hrd c (by simp [hc])
                            obtain ⟨os', k1, k2⟩ := olds ρ w.heap l cap (hrd b (by simp) l _ hlo hg)
                            obtain ⟨c, cs', h1, h2, h3, h4⟩ := grow ρ w a _ len cap _ os' hts hrd' he k1 hol k2 (by omega) (by omega)
                            refine ⟨_, _, .cells cs' e, c * i.size, h1, rfl, rfl, rfl, rfl, fun ρ' hle hnx => ⟨.sliceG hnx h2 (by simp), ?_⟩⟩
                            obtain ⟨xs', _, _, _, hlx⟩ := src ρ w.heap a hts hrd'
                            have hml := hmul len
                            have hll : ((vs.drop off).take (len * i.size) ++ xs).length = (len + n) * i.size := by rw [List.length_append, hol, hlx]; omega
                            refine ⟨cs', e, (0, 0), by show (w.heap.push _)[w.heap.size]? = _; simp, by simp [h3], by rw [hll]; exact Nat.mul_le_mul_right _ h2, ⟨fun _ => rfl, fun h => by cases h⟩, ?_⟩
                            rw [hll]; simpa using h4.mono hle
                        · split at h
                          · rename_i hsp0 hc
                            obtain ⟨hsp, hro⟩ := hc
                            subst hsp hro
                            cases h
                            refine ⟨?_, by simp, fun c hc hn => by rw [St.get_put, if_neg (by intro e; subst e; simp at hn), St.get_new, if_neg (by omega)]⟩
                            intro ρ w a hw hts
                            have hvx := ev_VR hts hx
                            have hlive : σ.get b ≠ none := by rw [hg]; simp
                            obtain ⟨xs', h1, h2, h3, h4⟩ := src ρ w.heap a hts (hw.reads rd)
                            have hml := hmul len
                            have hll : ((vs.drop off).take (len * i.size) ++ xs).length = (len + n) * i.size := by rw [List.length_append, hol, h4]; omega
                            generalize he : a.eval x = xv at hvx
                            cases hvx with
                            | sliceG hlo hcc hgg =>
                              rename_i cap' l
                              have hob := hw.obj b l _ hlo hg
                              have hdom := hw.dom b l hlo
                              by_cases hin : len + n ≤ cap'
                              · -- in place
                                have hle2 : (len + n) * i.size ≤ cap' * i.size := Nat.mul_le_mul_right _ hin
                                obtain ⟨cA, eA, fzA, a1, a2, a3, a4, a5⟩ := hob
                                obtain rfl := a4.1 rfl
                                have hl3 := h3.length
                                have hst := run_storeCells_at P l.block (l.off + off + len * i.size) eA xs' 0 cA w a1 (by omega) (oneCells_VRL h3 hone)
                                have hrun := fits w _ a ⟨l.block, l.off + off, none⟩ len cap' xs' he (h1 w) (h2 w rfl) hin (by rw [Addr.add_lit]; exact hst)
                                refine ⟨_, _, _, .inl hrun, ?_, Aft.move (off := off) (o' := .cells (cA.toList.take (l.off + off + len * i.size + 0) ++ xs' ++ cA.toList.drop (l.off + off + len * i.size + 0 + xs'.length)).toArray eA (0, 0)) hw hlo hlive ?_ rfl rfl rfl ?_⟩
                                · refine .sliceG (l := ⟨l.block, l.off + off, l.size - off, none⟩) (Ren.add_same _ _ _) hin ?_
                                  simp; omega
                                · have hlt : l.block < w.heap.size := hdom.2
                                  have hv : w.heap[l.block] = .cells cA eA (0, 0) := (Array.getElem?_eq_some_iff.1 a1).2
                                  apply Array.ext_getElem?
                                  intro k
                                  simp only [World.setRow, Array.getElem?_modify, Array.getElem?_setIfInBounds]
                                  by_cases hk : l.block = k
                                  · subst hk; simp [hlt, hv]
                                  · simp [hk]
                                · refine ⟨_, eA, (0, 0), setRow_heap w l.block cA _ eA (0, 0) a1, ?_, ?_, ⟨fun _ => rfl, fun h => by cases h⟩, ?_⟩
                                  · simp; omega
                                  · rw [hll]; simp; omega
                                  · rw [hll]
                                    have hcl : cA.toList.length = l.off + l.size := by simpa using a2
                                    have e3 : ((cA.toList.take (l.off + off + len * i.size + 0) ++ xs' ++ cA.toList.drop (l.off + off + len * i.size + 0 + xs'.length)).toArray.toList.drop (l.off + off)).take ((len + n) * i.size) = (((cA.toList.drop l.off).take vs.length).drop off).take (len * i.size) ++ xs' := by
                                      have e4 := splice_drop_take cA.toList (l.off + off) ((len + n) * i.size) (len * i.size) xs' (by omega) (by omega)
                                      simp only [Nat.add_zero]
                                      rw [e4, List.drop_eq_nil_of_le (as := (List.take ((len + n) * i.size) (List.drop (l.off + off) cA.toList))) (by simp; omega), List.append_nil, List.take_take, Nat.min_eq_left (by omega), List.drop_take, List.take_take, Nat.min_eq_left (by omega), List.drop_drop]
                                    rw [e3]
                                    exact (((a5.drop off).take _).append h3).mono (fun c k hk => by rw [Ren.add_other]; exact hk; have := (hw.dom c k hk).1; omega)
                              · -- a new row
                                obtain ⟨os', k1, k2⟩ := olds ρ w.heap l cap' hob
                                obtain ⟨c, cs', g1, g2, g3, g4⟩ := grow ρ w a _ len cap' _ os' hts (hw.reads rd) he k1 hol k2 (by omega) (by omega)
                                refine ⟨ρ.add σ.next ⟨w.heap.size, 0, c * i.size, none⟩, _, _, .inl g1, .sliceG (Ren.add_same _ _ _) g2 (by simp), Aft.kill (Aft.push (w' := w.drew.alloc (.cells cs' e)) (obj := .cells cs' e) hw rfl rfl rfl rfl ?_) hdom.1 hlo hlive⟩
                                refine ⟨cs', e, (0, 0), by show (w.heap.push _)[w.heap.size]? = _; simp, by simp [g3], by rw [hll]; exact Nat.mul_le_mul_right _ g2, ⟨fun _ => rfl, fun h => by cases h⟩, ?_⟩
                                rw [hll]
                                have := g4.mono (ρ' := ρ.add σ.next ⟨w.heap.size, 0, c * i.size, none⟩) (fun c k hk => by rw [Ren.add_other]; exact hk; have := (hw.dom c k hk).1; omega)
                                simpa using this
                          · cases h
                    · cases h
                  · cases h
          · cases h
      · cases h
    · cases h
  · cases h

end Go.Ab
