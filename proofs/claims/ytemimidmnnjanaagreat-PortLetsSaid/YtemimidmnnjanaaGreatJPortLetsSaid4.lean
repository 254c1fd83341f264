/- PortLetsSaid: part 5 of 7 of the proof that it returns true for every input and leaves its arguments as they were; no condition. -/
import Derived.Test.YtemimidmnnjanaaGreatJPortLetsSaid3
import Derived.Maps.RangeRun
import Derived.Test.YtemimidmnnjanaaGreatJPortLetsSaid2
import Derived.Sort.AssemblyPlain
set_option linter.unusedSimpArgs false
set_option linter.unusedVariables false
namespace Go.Ab
variable {P : Program}
def afterS (ρ : Ren) (σ : St) (w : World) (S : RR → Prop) : Exit → Act → World → Prop := fun e a' w' => ∃ r, S r ∧ Logged σ r.σ r.lg ∧ after ρ σ w r e a' w'
def GS (W : WT) (rnd : Bool) (fr : Fr) (σ : St) (S : RR → Prop) : Prop := ∀ (ro : Option Nat), (rnd = false → ro = none) → ∀ (ρ : Ren) (w : World) (a : Act), WR ρ σ w.heap → FR ρ fr a → W (fence ro) (afterS ρ σ w S) a w
def codeS (P : Program) (rnd : Bool) (c : Code) (fr : Fr) (σ : St) (S : RR → Prop) : Prop := GS (fun F Q => c.wpIn F 0 P Q) rnd fr σ S
def loopS (P : Program) (rnd : Bool) (c : Code) (fr : Fr) (σ : St) (S : RR → Prop) : Prop := GS (fun F Q => LoopIn F 0 P c Q) rnd fr σ S
theorem GS.of {W : WT} (hW : WT.Mono W) {rnd : Bool} {fr : Fr} {σ : St} {r : RR} {S : RR → Prop} (h : DG W rnd fr σ r) (k : S r) : GS W rnd fr σ S :=
 fun ro hro ρ w a hw hf => hW _ _ _ _ _ (h.2 ro hro ρ w a hw hf) fun _ _ _ q => ⟨r, k, h.1, q⟩
theorem GS.mono {W : WT} (hW : WT.Mono W) {rnd : Bool} {fr : Fr} {σ : St} {S S' : RR → Prop} (h : GS W rnd fr σ S) (k : ∀ r, Logged σ r.σ r.lg → S r → S' r) : GS W rnd fr σ S' :=
 fun ro hro ρ w a hw hf => hW _ _ _ _ _ (h ro hro ρ w a hw hf) fun _ _ _ ⟨r, h1, h2, h3⟩ => ⟨r, k r h2 h1, h2, h3⟩
theorem GS.bind {V W W' : WT} (hV : WT.Mono V) (hW' : WT.Mono W') {rnd : Bool} {fr : Fr} {σ : St} {S : RR → Prop} (h : GS V rnd fr σ (thenW (fun fr σ Q => GS W' rnd fr σ Q) S))
  (hW : ∀ F Q a w, V F (Exit.then (W' F Q) Q) a w → W F Q a w) : GS W rnd fr σ S := fun ro hro ρ w a hw hf => by
 refine hW _ _ _ _ (hV _ _ _ _ _ (h ro hro ρ w a hw hf) ?_)
 rintro e a' w' ⟨r, hr, hl, ρ', h1, h2, h3⟩
 unfold thenW at hr
 cases hx : r.x with
 | norm =>
  rw [hx] at hr h1
  obtain rfl := XR.norm_iff h1
  exact hW' _ _ _ _ _ (hr ro hro ρ' w' a' h3.wr h2) fun e2 a2 w2 ⟨q, hq, hlq, hA⟩ => ⟨q.pre r.lg, hq, hl.trans hlq, after_trans h3 hA⟩
 | exit i => rw [hx] at hr; exact then_of_not (h1.not_norm (by rw [hx]; rfl)) ⟨r, hr, hl, ρ', h1, h2, h3⟩
 | goto i => rw [hx] at hr; exact then_of_not (h1.not_norm (by rw [hx]; rfl)) ⟨r, hr, hl, ρ', h1, h2, h3⟩
 | ret => rw [hx] at hr; exact then_of_not (h1.not_norm (by rw [hx]; rfl)) ⟨r, hr, hl, ρ', h1, h2, h3⟩
 | panic ch => rw [hx] at hr; exact then_of_not (h1.not_norm (by rw [hx]; rfl)) ⟨r, hr, hl, ρ', h1, h2, h3⟩
section code
variable {c d : Code} {rnd : Bool} {fr : Fr} {σ : St} {S S' : RR → Prop}
theorem codeS.mono (h : codeS P rnd c fr σ S) (k : ∀ r, Logged σ r.σ r.lg → S r → S' r) : codeS P rnd c fr σ S' := GS.mono (code_mono c) h k
theorem codeS.seq (h : codeS P rnd c fr σ (thenW (codeS P rnd d) S)) : codeS P rnd (.seq c d) fr σ S :=
 GS.bind (code_mono c) (code_mono d) h fun _ _ _ _ h => wpIn_seq h
theorem loopS.step (h : codeS P rnd c fr σ (thenW (loopS P rnd c) S)) : loopS P rnd c fr σ S :=
 GS.bind (code_mono c) (loop_mono c) h fun _ _ _ _ h => loopIn_step h
theorem codeS.loop (h : loopS P rnd c fr σ S) : codeS P rnd (.loop c) fr σ S := fun ro hro ρ w a hw hf => wpIn_of_loopIn (h ro hro ρ w a hw hf)
theorem codeS.of_wp {C : Cx} {p : PureTab P} (hC : C.Ok P) (hm : P.follows .mixedOrders = true) {bt : Nat → List Nat} (hs : statAll bt c = true) (h : wp C p bt rnd c fr σ S) : codeS P rnd c fr σ S :=
 let ⟨_, h1, h2⟩ := wp_sound hC hm c fr σ S hs h
 GS.of (code_mono c) h1 h2
theorem codeS.block {id : Nat} (h : codeS P rnd c fr σ (blockW id S)) : codeS P rnd (.block id c) fr σ S := fun ro hro ρ w a hw hf => wpIn_block (wpIn_mono (h ro hro ρ w a hw hf) fun e a' w' ⟨r, hr, hl, ρ', h1, h2⟩ => by
 have fin : ∀ e, XR ρ' (r.x.inBlock id) e → afterS ρ σ w S e a' w' := fun e hx => ⟨_, hr, hl, ρ', hx, h2⟩
 cases e with
 | exit i =>
  simp only [Exit.inBlock]
  generalize hq : r.x = x at h1
  cases x <;> try exact h1.elim
  rename_i j
  have : j = i := h1
  subst this
  rw [hq] at fin
  by_cases hj : j = id
  ·rw [if_pos hj]; exact fin _ (by simp only [AX.inBlock, if_pos hj]; trivial)
  ·rw [if_neg hj]; exact fin _ (by simp only [AX.inBlock, if_neg hj]; rfl)
 | normal => refine fin _ ?_; generalize r.x = x at h1; cases x <;> first | exact h1.elim | exact h1
 | goto l => refine fin _ ?_; generalize r.x = x at h1; cases x <;> first | exact h1.elim | exact h1
 | ret => refine fin _ ?_; generalize r.x = x at h1; cases x <;> first | exact h1.elim | exact h1
 | panic ch => refine fin _ ?_; generalize r.x = x at h1; cases x <;> first | exact h1.elim | exact h1
 | outgrown => generalize r.x = x at h1; cases x <;> exact h1.elim)
end code
theorem thenW_mono {k k' : Fr → St → (RR → Prop) → Prop} {S : RR → Prop} {r : RR} (hk : ∀ fr σ Q, k fr σ Q → k' fr σ Q) (h : thenW k S r) : thenW k' S r := by
 unfold thenW at h ⊢
 cases hx : r.x with
 | norm => rw [hx] at h; exact hk _ _ _ h
 | exit i => rw [hx] at h; exact h
 | goto i => rw [hx] at h; exact h
 | ret => rw [hx] at h; exact h
 | panic ch => rw [hx] at h; exact h
theorem codeS.pre {c X : Code} {rnd : Bool} {fr : Fr} {σ : St} {S : RR → Prop} {C : Cx} {p : PureTab P} (hC : C.Ok P) (hm : P.follows .mixedOrders = true) {bt : Nat → List Nat} (hs : statAll bt c = true) (k : Fr → St → (RR → Prop) → Prop) (h : wp C p bt rnd c fr σ (thenW k S))
  (hk : ∀ fr σ Q, k fr σ Q → codeS P rnd X fr σ Q) : codeS P rnd (.seq c X) fr σ S :=
 codeS.seq ((codeS.of_wp hC hm hs h).mono fun _ _ hr => thenW_mono hk hr)
def callN (P : Program) (f : FuncId) (args : List Value) (σ : St) (K : AE → St → Log → Prop) : Prop :=
 ∀ (ρ : Ren) (w : World) (args' : Array Value), WR ρ σ w.heap → VRL ρ args args'.toList → CallsIn (fence none) 0 P f args' w fun e' w' => ∃ e σ' l, K e σ' l ∧ Logged σ σ' l ∧ ∃ ρ', ER ρ' e e' ∧ Aft ρ σ w ρ' σ' w'
theorem callsIn_mono {F : Fence} {n : Nat} {f : FuncId} {args' : Array Value} {w : World} {R R' : Ending → World → Prop} (hc : CallsIn F n P f args' w R) (hr : ∀ e w, R e w → R' e w) : CallsIn F n P f args' w R' :=
 ⟨hc.1, fun cs hroom => let ⟨e, w', fr, r, rest⟩ := hc.2 cs hroom; ⟨e, w', fr, hr _ _ r, rest⟩⟩
theorem callN.of {f : FuncId} {args : List Value} {σ : St} {K : AE → St → Log → Prop} (h : callX P f args σ K) : callN P f args σ K :=
 let ⟨e, σ', l, h1, h2⟩ := h
 fun ρ w args' hw ha => callsIn_mono (h1.2 ρ w args' hw ha) fun _ _ q => ⟨e, σ', l, h2, h1.1, q⟩
theorem callN.use {f : FuncId} {args : List Value} {σ : St} {K K' : AE → St → Log → Prop} (h : callN P f args σ K') (k : ∀ e σ' l, Logged σ σ' l → K' e σ' l → K e σ' l) : callN P f args σ K :=
 fun ρ w args' hw ha => callsIn_mono (h ρ w args' hw ha) fun _ _ ⟨e, σ', l, h1, h2, h3⟩ => ⟨e, σ', l, k e σ' l h2 h1, h2, h3⟩
theorem callN.enter {C : Cx} (hC : C.Ok P) {f : FuncId} {fn : Func} {c : Code} {args : List Value} {σ : St} {K : AE → St → Log → Prop} (hf : P.funcs[f]? = some fn) (hb : fn.body = some c)
  (h : codeS P false c (start args fn.ntmps) σ (endW C fn.results.toList K)) : callN P f args σ K := fun ρ w args' hw ha => by
 refine callsIn_of_wp hf hb trivial (wpIn_mono (h none (fun _ => rfl) ρ w _ hw (start_FR ha _)) fun e a' w' ⟨r, h1, h2, h3⟩ => ?_)
 unfold endW at h1
 split at h1
 ·rename_i ae he
  have hp := endsA_post hC.T he h3
  exact bodyPost_mono hp fun e' w' q => ⟨ae, r.σ, r.lg, h1, h2, q⟩
 ·exact h1.elim
where
 bodyPost_mono {fn : Func} {R R' : Ending → World → Prop} {e : Exit} {a : Act} {w : World} (h : bodyPost P fn R e a w) (k : ∀ e w, R e w → R' e w) : bodyPost P fn R' e a w := by
  unfold bodyPost at h ⊢
  revert h
  cases e <;> intro h <;> first | exact h.elim | skip
  all_goals first
   | exact ⟨h.1, let ⟨v, a, b⟩ := h.2; ⟨v, a, k _ _ b⟩⟩
   | exact ⟨h.1, k _ _ h.2⟩
   | exact k _ _ h
def callNO (P : Program) (f : FuncId) (args : List Value) (σ : St) (K : AE → St → Log → Prop) : Option Value → Prop
 | some v => K (.ret v) σ []
 | none => callN P f args σ K
def callNW (p : PureTab P) (f : FuncId) (args : List Value) (σ : St) (K : AE → St → Log → Prop) : Prop := callNO P f args σ K (p.get f args)
theorem callNW.sound {p : PureTab P} {f : FuncId} {args : List Value} {σ : St} {K : AE → St → Log → Prop} (h : callNW p f args σ K) : callN P f args σ K := by
 unfold callNW at h
 cases hp : p.get f args with
 | some v => rw [hp] at h; exact callN.of ⟨_, _, _, p.ok f args v hp σ, h⟩
 | none => rw [hp] at h; exact h
def opsS (p : PureTab P) (dst : Option Tmp) (fr : Fr) (σ : St) (lg : Log) (k : Fr → St → Log → Prop) (Q : RR → Prop) : Option ORes → Prop
 | some (.val v _) => k (fr.put dst v) σ lg
 | some (.new ob v _) => k (fr.put dst v) (σ.new ob) lg
 | some (.eff v σ' l) => k (fr.put dst v) σ' (lg ++ l)
 | some (.enter f args) => callNW p f args σ (retW fr dst lg k Q)
 | _ => False
def wOpsS (C : Cx) (p : PureTab P) (ops : List Oper) (Q : RR → Prop) : List Oper → Fr → St → Log → Prop
 | [], fr, σ, lg => Q ⟨.norm, fr, σ, lg⟩
 | o :: rest, fr, σ, lg => opsS p o.dst fr σ lg (wOpsS C p ops Q rest) Q (wantK C.T C.bodies o fr.ts σ (wantedA ops o fr.ts))
theorem wOpsS_sound {C : Cx} (hC : C.Ok P) {p : PureTab P} {ops : Array Oper} {Q : RR → Prop} {ro : Option Nat} {ρ₀ : Ren} {σ₀ : St} {w₀ : World} : ∀ (rest : List Oper) (fr : Fr) (σ : St) (lg : Log), wOpsS C p ops.toList Q rest fr σ lg → Logged σ₀ σ lg →
  ∀ (k : Nat), ops.toList.drop k = rest → ∀ (ρ : Ren) (w : World) (a : Act), Aft ρ₀ σ₀ w₀ ρ σ w → FR ρ fr a →
   wpOpsIn (fence ro) 0 P ops (fun e a' w' => ∃ r, Q r ∧ Logged σ₀ r.σ r.lg ∧ ∃ ρ', XR ρ' r.x e ∧ FR ρ' r.fr a' ∧ Aft ρ₀ σ₀ w₀ ρ' r.σ w') (List.range' k rest.length) a w := by
 have two : ∀ {o : Oper} {rest : List Oper} {k : Nat}, ops.toList.drop k = o :: rest → ops[k]? = some o ∧ ops.toList.drop (k + 1) = rest := fun {o rest k} hk => by
  refine ⟨?_, ?_⟩
  ·have := congrArg (·[0]?) hk
   simpa using this
  ·have := congrArg (List.drop 1) hk
   simpa [List.drop_drop, Nat.add_comm] using this
 intro rest
 induction rest with
 | nil => intro fr σ lg h hl k hk ρ w a hA hF; exact ⟨_, h, hl, ρ, trivial, hF, hA⟩
 | cons o rest ih =>
  intro fr σ lg h hl k hk ρ w a hA hF
  obtain ⟨hko, hrest⟩ := two hk
  have eff : ∀ {σ₁ : St} {v : Value} {l : Log}, wantedA ops.toList o fr.ts = true → SimEff P o fr.ts σ v σ₁ → (∀ c, o.op ≠ .defer c) → wOpsS C p ops.toList Q rest (fr.put o.dst v) σ₁ (lg ++ l) → Logged σ σ₁ l →
    wpOpsIn (fence ro) 0 P ops (fun e a' w' => ∃ r, Q r ∧ Logged σ₀ r.σ r.lg ∧ ∃ ρ', XR ρ' r.x e ∧ FR ρ' r.fr a' ∧ Aft ρ₀ σ₀ w₀ ρ' r.σ w') (List.range' k (o :: rest).length) a w := fun {σ₁ v l} hw hs hd hn hlg => by
   rw [List.length_cons, List.range'_succ]
   simp only [wpOpsIn, hko, wanted_VR hF, hw]
   rw [if_pos trivial]
   exact ⟨fun _ _ => trivial, Sound.quiet_next hs hA.wr hF.ts ro hd fun ρ' v' w' hv hA' => ih _ _ _ hn (hl.trans hlg) (k + 1) hrest ρ' w' _ (hA.trans hA') ((hF.mono (hA'.le hA.wr)).put o.dst hv)⟩
  simp only [wOpsS] at h
  cases hw : wantedA ops.toList o fr.ts with
  | false =>
   rw [hw] at h
   rw [List.length_cons, List.range'_succ]
   simp only [wpOpsIn, hko, wanted_VR hF, hw]
   rw [if_neg (by simp)]
   exact ⟨fun _ _ => trivial, ih _ _ _ h hl (k + 1) hrest ρ w _ hA (hF.put _ (undef_VR ρ))⟩
  | true =>
   rw [hw] at h
   simp only [wantK] at h
   unfold opsS at h
   split at h
   ·rename_i hs
    exact eff hw (SimVal.eff (stepOp_sound hC.T hC.bodies hs)) (not_defer hs (fun _ => by simp)) (l := []) (by rw [List.append_nil]; exact h) (logged_self _ _)
   ·rename_i hs
    exact eff hw (SimNew.eff (stepOp_sound hC.T hC.bodies hs)) (not_defer hs (fun _ => by simp)) (l := []) (by rw [List.append_nil]; exact h) (logged_new _ _)
   ·rename_i v σ' l hs
    exact eff hw (stepOp_sound hC.T hC.bodies hs : SimEff P o fr.ts σ v σ' ∧ Logged σ σ' l).1 (not_defer hs (fun _ => by simp)) h (stepOp_log hC hs)
   ·rename_i f args hs
    rw [List.length_cons, List.range'_succ]
    simp only [wpOpsIn, hko, wanted_VR hF, hw]
    rw [if_pos trivial]
    refine ⟨fun _ _ => trivial, ?_⟩
    obtain ⟨args', h1, h2⟩ := stepOp_sound hC.T hC.bodies hs ρ w a hF.ts
    have hd := not_defer hs (fun _ => by simp)
    show o.uponIn (fence ro) 0 P a _ _ ((o.semAt ro a.eval).run P w)
    rw [Oper.semAt_eq ro a.eval o hd, h1]
    refine ⟨fun hdp => by simp [fence] at hdp, ?_⟩
    have hc := h.sound ρ w args' hA.wr h2
    refine ⟨trivial, fun cs hroom => ?_⟩
    obtain ⟨e, w', fr', ⟨ae, σ₁, l₁, hk1, hlg, ρ', he, hA'⟩, rest'⟩ := hc.2 cs (room_fence _ _)
    refine ⟨e, w', fr', ?_, rest'⟩
    cases ae with
    | ret v =>
     cases e with
     | returned v' => exact ih _ _ _ hk1 (hl.trans hlg) (k + 1) hrest ρ' w' _ (hA.trans hA') ((hF.mono (hA'.le hA.wr)).put o.dst he)
     | panicked c => exact he.elim
     | outgrown => exact he.elim
    | panic c =>
     cases e with
     | returned v' => exact he.elim
     | panicked c' => exact ⟨_, hk1, hl.trans hlg, ρ', he, hF.mono (hA'.le hA.wr), hA.trans hA'⟩
     | outgrown => exact he.elim
   ·exact h.elim
section eqs
variable {C : Cx} {p : PureTab P} {dst : Option Tmp} {fr : Fr} {σ σ' : St} {lg l : Log} {k : Fr → St → Log → Prop} {Q : RR → Prop} {v : Value} {rd : List Nat} {ob : AObj} {f : FuncId} {args : List Value} {ops rest : List Oper} {o : Oper} {K : AE → St → Log → Prop}
theorem wOpsS_nil : wOpsS C p ops Q [] fr σ lg = Q ⟨.norm, fr, σ, lg⟩ := rfl
theorem wOpsS_cons : wOpsS C p ops Q (o :: rest) fr σ lg = opsS p o.dst fr σ lg (wOpsS C p ops Q rest) Q (wantK C.T C.bodies o fr.ts σ (wantedA ops o fr.ts)) := rfl
theorem opsS_val : opsS p dst fr σ lg k Q (some (.val v rd)) = k (fr.put dst v) σ lg := rfl
theorem opsS_new : opsS p dst fr σ lg k Q (some (.new ob v rd)) = k (fr.put dst v) (σ.new ob) lg := rfl
theorem opsS_eff : opsS p dst fr σ lg k Q (some (.eff v σ' l)) = k (fr.put dst v) σ' (lg ++ l) := rfl
theorem opsS_enter : opsS p dst fr σ lg k Q (some (.enter f args)) = callNW p f args σ (retW fr dst lg k Q) := rfl
theorem callNO_some : callNO P f args σ K (some v) = K (.ret v) σ [] := rfl
theorem callNO_none : callNO P f args σ K none = callN P f args σ K := rfl
theorem opsS_congr {r r' : Option ORes} (h : r = r') : opsS p dst fr σ lg k Q r = opsS p dst fr σ lg k Q r' := by rw [h]
theorem wOpsS_congr {fr' : Fr} {lg' : Log} (h : fr = fr') (h1 : σ = σ') (h2 : lg = lg') : wOpsS C p ops Q rest fr σ lg = wOpsS C p ops Q rest fr' σ' lg' := by rw [h, h1, h2]
theorem callNO_congr {x x' : Option Value} (h : x = x') : callNO P f args σ K x = callNO P f args σ K x' := by rw [h]
theorem callNW_congr {args' : List Value} (h : args = args') (h1 : σ = σ') : callNW p f args σ K = callNW p f args' σ' K := by rw [h, h1]
theorem callN_congr {args' : List Value} (h : args = args') (h1 : σ = σ') : callN P f args σ K = callN P f args' σ' K := by rw [h, h1]
end eqs
theorem codeS.region {C : Cx} (hC : C.Ok P) {p : PureTab P} {rnd : Bool} {id : Nat} {ops : Array Oper} {fr : Fr} {σ : St} {Q : RR → Prop} (h : wOpsS C p ops.toList Q ops.toList fr σ []) : codeS P rnd (.region id ops false) fr σ Q :=
 fun ro hro ρ w a hw hf => wpIn_region (by
  have := wOpsS_sound hC (ro := ro) ops.toList fr σ [] h (logged_self _ _) 0 rfl ρ w a (Aft.refl hw) hf
  rw [List.range_eq_range']
  rw [Array.length_toList] at this
  exact this)
attribute [go_sem] wOpsS_nil wOpsS_cons opsS_val opsS_new opsS_eff opsS_enter callNO_some callNO_none
attribute [congr] opsS_congr wOpsS_congr callNO_congr callNW_congr callN_congr
end Go.Ab
namespace Go.Ab
variable {P : Program}
theorem ME.back {ρ : Ren} : ∀ {a b : List MapEntry}, ME ρ a b → ∀ y ∈ b, ∃ x ∈ a, VR ρ x.key y.key ∧ VR ρ x.val y.val ∧ x.born = y.born
 | [], [], _, y, hy => by cases hy
 | x :: a, z :: b, h, y, hy => by
  rcases List.mem_cons.1 hy with rfl | hy
  ·exact ⟨x, by simp, h.1⟩
  ·obtain ⟨x', h1, h2⟩ := ME.back h.2 y hy
   exact ⟨x', List.mem_cons_of_mem _ h1, h2⟩
 | [], _ :: _, h, _, _ => h.elim
 | _ :: _, [], h, _, _ => h.elim
def allOld (since : Nat) : List MapEntry → Bool
 | [] => true
 | e :: es => Nat.blt e.born since && allOld since es
theorem ME.old {ρ : Ren} {since : Nat} : ∀ {a b : List MapEntry}, ME ρ a b → allOld since a = true → ∀ y ∈ b, y.born < since
 | [], [], _, _, y, hy => by cases hy
 | x :: a, z :: b, h, ho, y, hy => by
  simp only [allOld, Bool.and_eq_true, Nat.blt_eq] at ho
  rcases List.mem_cons.1 hy with rfl | hy
  ·rw [← h.1.2.2]; exact ho.1
  ·exact ME.old h.2 ho.2 y hy
 | [], _ :: _, h, _, _, _ => h.elim
 | _ :: _, [], h, _, _, _ => h.elim
def stepTup (e : MapEntry) : Value := .tuple ⟨[.bool true, e.key, e.val]⟩
def stepSt (σ : St) (b m since : Nat) (seen : List Nat) (clock : Nat) (e : MapEntry) : St := σ.set b (.mapIter (some m) since ⟨seen ++ [e.born]⟩ clock)
theorem next_any {o : Oper} {ts : List Value} {σ : St} {it : Operand} {b m since last clock : Nat} {seen : List Nat} {es : List MapEntry} (ho : o.op = .next it false) (hx : ev ts it = some (.pointer (some ⟨b, 0, none⟩)))
  (hb : σ.get b = some (.mapIter (some m) since ⟨seen⟩ last)) (hm : σ.get m = some (.map es clock)) (hold : allOld since es = true) (hsc : since ≤ last) (hne : leftE seen es ≠ []) {ρ : Ren} {w : World} {a : Act} (hw : WR ρ σ w.heap) (hts : VRL ρ ts a.tmps.toList) :
  ∃ e ∈ leftE seen es, ∃ v' w', (execOp a.eval o).run P w = .ok (.value v') w' ∧ VR ρ (stepTup e) v' ∧ Aft ρ σ w ρ (stepSt σ b m since seen clock e) w' := by
 have hv := ev_VR hts hx
 generalize he : a.eval it = xv at hv
 cases hv with
 | ptr hl =>
  rename_i l
  obtain ⟨h0, m', h1, h2⟩ := hw.obj b l _ hl hb
  cases h2 with
  | map hlm =>
   rename_i lm
   obtain ⟨es', h3, h4⟩ := hw.obj m lm _ hlm hm
   have hL := ME.left (seen := seen) h4
   have hlive : σ.get b ≠ none := by rw [hb]; simp
   have hlt : l.block < w.heap.size := (hw.dom b l hl).2
   rcases run_next_at (P := P) w o.type l.block lm.block since last ⟨seen⟩ es' clock h1 h3 (h4.old hold) hsc with ⟨hz, _⟩ | ⟨e', he', w1, hw1, hrun⟩
   ·exfalso
    apply hne
    have : (leftOf es' ⟨seen⟩).toList = [] := by
     have := hz
     rw [← Array.length_toList] at this
     exact List.eq_nil_of_length_eq_zero this
    unfold leftOf at this
    rw [Array.toList_filter] at this
    have h5 : List.filter (fun e => !(seen.contains e.born)) es'.toList = [] := by simpa using this
    rw [h5] at hL
    cases hq : leftE seen es with
    | nil => rfl
    | cons x xs => rw [hq] at hL; exact hL.elim
   ·unfold leftOf at he'
    rw [Array.toList_filter] at he'
    have h5 : e' ∈ List.filter (fun e => !(seen.contains e.born)) es'.toList := by simpa using he'
    obtain ⟨e, hel, hk, hvv, hbn⟩ := hL.back e' h5
    have hw1h : w1.heap = w.heap ∧ w1.tape = w.tape ∧ w1.os = w.os ∧ w1.output = w.output := by rcases hw1 with rfl | rfl <;> exact ⟨rfl, rfl, rfl, rfl⟩
    let ob : Obj := .mapIter (some lm.block) since ((⟨seen⟩ : Array Nat).push e'.born) clock
    have hex : (execOp a.eval o).run P w = .ok (.value (.tuple ⟨[.bool true, e'.key, e'.val]⟩)) (ChangeMaps.setBlock w1 l.block ob) := by
     simp [execOp, ho, he, h0, hrun, ob]
    refine ⟨e, hel, .tuple ⟨[.bool true, e'.key, e'.val]⟩, ChangeMaps.setBlock w1 l.block ob, hex, .tuple (.cons (.bool _) (.cons hk (.cons hvv .nil))), ?_⟩
    refine Aft.put (o' := ob) hw hl hlive (hw.nofix hl hb (by simp)) ?_ ?_ ?_ ?_ ⟨h0, some lm.block, ?_, .map hlm⟩
    ·unfold ChangeMaps.setBlock; simp only [hw1h.1]
    ·unfold ChangeMaps.setBlock; exact hw1h.2.1
    ·unfold ChangeMaps.setBlock; exact hw1h.2.2.1
    ·unfold ChangeMaps.setBlock; exact hw1h.2.2.2
    ·unfold ChangeMaps.setBlock
     simp [hw1h.1, hlt, hbn, ob]
theorem codeS.next {C : Cx} (hC : C.Ok P) (p : PureTab P) {rnd : Bool} {id : Nat} {ops : Array Oper} {o : Oper} {rest : List Oper} {fr : Fr} {σ : St} {Q : RR → Prop} {it : Operand} {b m since last clock : Nat} {seen : List Nat} {es : List MapEntry}
  (hops : ops = ⟨o :: rest⟩) (hop : o.op = .next it false) (hg : o.guard = none) (hev : ev fr.ts it = some (.pointer (some ⟨b, 0, none⟩))) (hb : σ.get b = some (.mapIter (some m) since ⟨seen⟩ last)) (hm : σ.get m = some (.map es clock)) (hold : allOld since es = true) (hsc : since ≤ last) (hne : leftE seen es ≠ [])
  (h : ∀ e ∈ leftE seen es, wOpsS C p (o :: rest) Q rest (fr.put o.dst (stepTup e)) (stepSt σ b m since seen clock e) [b]) : codeS P rnd (.region id ops false) fr σ Q :=
 fun ro hro ρ w a hw hf => wpIn_region (by
  subst hops
  obtain ⟨e, he, v', w', hx, hv, hA⟩ := next_any (P := P) hop hev hb hm hold hsc hne hw hf.ts
  have h3 := wOpsS_sound hC (ops := ⟨o :: rest⟩) (ro := ro) rest _ _ _ (h e he) (logged_put _ _ _) 1 rfl ρ w' (a.put o.dst v') hA (hf.put o.dst hv)
  rw [List.range_eq_range']
  show wpOpsIn (fence ro) 0 P ⟨o :: rest⟩ _ (List.range' 0 (rest.length + 1)) a w
  rw [List.range'_succ]
  have hwant : wantedA (o :: rest) o fr.ts = true := by unfold wantedA; rw [hg]
  have hko : (⟨o :: rest⟩ : Array Oper)[0]? = some o := rfl
  simp only [wpOpsIn, hko, wanted_VR hf, hwant]
  rw [if_pos trivial]
  refine ⟨fun _ _ => trivial, ?_⟩
  show o.uponIn (fence ro) 0 P a _ _ ((o.semAt ro a.eval).run P w)
  rw [Oper.semAt_eq ro a.eval o (fun c => by rw [hop]; simp), hx]
  exact h3)
theorem opNext_done {σ : St} {b m since last clock : Nat} {seen : List Nat} {es : List MapEntry} (hb : σ.get b = some (.mapIter (some m) since ⟨seen⟩ last)) (hm : σ.get m = some (.map es clock)) (hl : leftE seen es = []) (hlt : ∀ e ∈ es, e.born < last) :
  opNext σ false (.pointer (some ⟨b, 0, none⟩)) = some (.val (.tuple ⟨[.bool false]⟩) [b, m]) := by
 have he : (!seen.isEmpty && !es.isEmpty && elderE last es) = false := by
  cases es with
  | nil => simp
  | cons e es =>
   have := hlt e (by simp)
   have h2 : Nat.ble last e.born = false := by
    cases hq : Nat.ble last e.born with
    | false => rfl
    | true => have := Nat.le_of_ble_eq_true hq; omega
   simp [elderE, h2]
 simp only [opNext, hb, hm, nextMap, he, hl, oneLeft]
theorem codeS.next_end {C : Cx} (hC : C.Ok P) (p : PureTab P) {rnd : Bool} {id : Nat} {ops : Array Oper} {o : Oper} {rest : List Oper} {fr : Fr} {σ : St} {Q : RR → Prop} {it : Operand} {b m since last clock : Nat} {seen : List Nat} {es : List MapEntry}
  (hops : ops = ⟨o :: rest⟩) (hop : o.op = .next it false) (hg : o.guard = none) (hev : ev fr.ts it = some (.pointer (some ⟨b, 0, none⟩))) (hb : σ.get b = some (.mapIter (some m) since ⟨seen⟩ last)) (hm : σ.get m = some (.map es clock)) (hl : leftE seen es = []) (hlt : ∀ e ∈ es, e.born < last)
  (h : wOpsS C p (o :: rest) Q rest (fr.put o.dst (.tuple ⟨[.bool false]⟩)) σ []) : codeS P rnd (.region id ops false) fr σ Q := by
 subst hops
 refine codeS.region hC (p := p) ?_
 show opsS p o.dst fr σ [] (wOpsS C p (o :: rest) Q rest) Q (wantK C.T C.bodies o fr.ts σ (wantedA (o :: rest) o fr.ts))
 have hwant : wantedA (o :: rest) o fr.ts = true := by unfold wantedA; rw [hg]
 rw [hwant]
 have hs : stepOp C.T C.bodies o fr.ts σ = some (.val (.tuple ⟨[.bool false]⟩) [b, m]) := by
  unfold stepOp
  rw [hop]
  simp only [hev]
  exact opNext_done hb hm hl hlt
 show opsS p o.dst fr σ [] _ Q (stepOp C.T C.bodies o fr.ts σ)
 rw [hs]
 exact h
theorem hasN_append (seen : List Nat) (b n : Nat) : hasN (seen ++ [b]) n = (hasN seen n || Nat.beq n b) := by
 rw [hasN_eq, hasN_eq, Bool.eq_iff_iff]
 simp only [List.contains_iff_mem, List.mem_append, List.mem_singleton, Bool.or_eq_true, Nat.beq_eq]
theorem leftE_mem {seen : List Nat} {e : MapEntry} : ∀ {es : List MapEntry}, e ∈ leftE seen es → e ∈ es ∧ hasN seen e.born = false
 | [], h => by cases h
 | x :: es, h => by
  unfold leftE at h
  split at h
  ·obtain ⟨a, b⟩ := leftE_mem h; exact ⟨List.mem_cons_of_mem _ a, b⟩
  ·rename_i hn
   rcases List.mem_cons.1 h with rfl | h
   ·exact ⟨by simp, hn⟩
   ·obtain ⟨a, b⟩ := leftE_mem h; exact ⟨List.mem_cons_of_mem _ a, b⟩
theorem leftE_same {seen : List Nat} {b : Nat} : ∀ {es : List MapEntry}, (∀ x ∈ es, x.born ≠ b) → leftE (seen ++ [b]) es = leftE seen es
 | [], _ => rfl
 | x :: es, h => by
  have h1 : Nat.beq x.born b = false := by
   cases hq : Nat.beq x.born b with
   | false => rfl
   | true => exact absurd (Nat.eq_of_beq_eq_true hq) (h x (by simp))
  unfold leftE
  rw [hasN_append, h1, Bool.or_false, leftE_same fun y hy => h y (List.mem_cons_of_mem _ hy)]
theorem leftE_step {seen : List Nat} {e : MapEntry} : ∀ {es : List MapEntry}, es.Pairwise (fun a b => a.born < b.born) → e ∈ leftE seen es → (leftE seen es).Perm (e :: leftE (seen ++ [e.born]) es)
 | [], _, h => by cases h
 | x :: es, hp, h => by
  obtain ⟨hx, hp'⟩ := List.pairwise_cons.1 hp
  by_cases hxe : x = e
  ·subst hxe
   have hn := (leftE_mem h).2
   have e1 : leftE seen (x :: es) = x :: leftE seen es := by
    show (match hasN seen x.born with | true => leftE seen es | false => x :: leftE seen es) = _
    rw [hn]
   have e2 : leftE (seen ++ [x.born]) (x :: es) = leftE seen es := by
    show (match hasN (seen ++ [x.born]) x.born with | true => leftE (seen ++ [x.born]) es | false => x :: leftE (seen ++ [x.born]) es) = _
    rw [hasN_append, hn]
    have : Nat.beq x.born x.born = true := Nat.beq_refl _
    rw [this]
    exact leftE_same fun y hy => by have := hx y hy; omega
   rw [e1, e2]
  ·have hem : e ∈ leftE seen es := by
    unfold leftE at h
    split at h
    ·exact h
    ·rcases List.mem_cons.1 h with h | h
     ·exact absurd h.symm hxe
     ·exact h
   have hne : Nat.beq x.born e.born = false := by
    have := hx e (leftE_mem hem).1
    cases hq : Nat.beq x.born e.born with
    | false => rfl
    | true => have := Nat.eq_of_beq_eq_true hq; omega
   have ih := leftE_step hp' hem
   unfold leftE
   rw [hasN_append, hne, Bool.or_false]
   cases hasN seen x.born with
   | true => exact ih
   | false => exact (List.Perm.cons x ih).trans (List.Perm.swap e x _)
theorem findE_is {e : MapEntry} : ∀ {es : List MapEntry}, es.Pairwise (fun a b => a.born < b.born) → e ∈ es → findE e.born es = some e
 | [], _, h => by cases h
 | x :: es, hp, h => by
  obtain ⟨hx, hp'⟩ := List.pairwise_cons.1 hp
  unfold findE
  rcases List.mem_cons.1 h with rfl | h
  ·rw [Nat.beq_refl]
  ·have : Nat.beq x.born e.born = false := by
    have := hx e h
    cases hq : Nat.beq x.born e.born with
    | false => rfl
    | true => have := Nat.eq_of_beq_eq_true hq; omega
   rw [this]
   exact findE_is hp' h
theorem opEntry_is {σ : St} {b m since clock : Nat} {seen : List Nat} {es : List MapEntry} {e : MapEntry} (hb : σ.get b = some (.mapIter (some m) since ⟨seen ++ [e.born]⟩ clock)) (hm : σ.get m = some (.map es clock)) (hp : es.Pairwise (fun a b => a.born < b.born)) (he : e ∈ es) :
  opEntry σ (.pointer (some ⟨b, 0, none⟩)) = some (.val (.tuple ⟨[e.key, e.val]⟩) [b, m]) := by
 have h1 : lastN (seen ++ [e.born]) = some e.born := by rw [lastN_eq]; simp
 have h2 : Nat.beq clock clock = true := Nat.beq_refl _
 simp only [opEntry, hb, hm, h1, h2, findE_is hp he]
end Go.Ab
namespace Go.Ab
open Go.Proofs
theorem known33_call (σ : St) : DCall Tryz.prog 5 [] σ (.ret (.bool true)) σ [] := whole_call (n := 300) (d := 30) (by kernel_rfl) rfl rfl σ
end Go.Ab
namespace Go.Ab
open Go.Proofs
attribute [go_sem] callW q0 lget_put lgetq_put List.length_set Tryz.underlying2 info2 Tryz.t2 Tryz.underlying3 info3 Tryz.t3 Tryz.underlying4 info4 Tryz.t4 Tryz.underlying5 info5 Tryz.t5 Tryz.underlying9 info9 Tryz.t9 Tryz.underlying30 info30 Tryz.t30 Tryz.underlying29 info29 Tryz.t29 Tryz.underlying94 info94 Tryz.t94 Tryz.underlying34 info34 Tryz.t34 Tryz.underlying40 info40 Tryz.t40 Tryz.underlying103 info103 Tryz.t103 Tryz.underlying124 info124 Tryz.t124 Tryz.underlying119 info119 Tryz.t119 Tryz.underlying133 info133 Tryz.t133 Tryz.underlying179 info179 Tryz.t179 Tryz.underlying164 info164 Tryz.t164 Tryz.underlying172 info172 Tryz.t172 Tryz.underlying173 info173 Tryz.t173 Tryz.underlying180 info180 Tryz.t180 Tryz.underlying184 info184 Tryz.t184 Tryz.underlying186 info186 Tryz.t186 Tryz.underlying187 info187 Tryz.t187
end Go.Ab
namespace Go.Ab
open Go.Proofs
instance : Inhabited Pk := ⟨⟨0, 0, 0⟩⟩
theorem arr_get {d : Array Pk} {i : Nat} (h : i < d.size) : d.toList[i]? = some d[i]! := by
 rw [getElem!_pos d i h, Array.getElem?_toList, Array.getElem?_eq_getElem h]
theorem arr_at {d : Array Pk} {G : List Value} {i : Nat} (h : i < d.size) : ((cellsP d.toList ++ G).drop (i * 3)).take 3 = d[i]!.cells := cellsP_at (arr_get h)
theorem arr_over {d : Array Pk} {G : List Value} {i : Nat} (x : Pk) (h : i < d.size) : over (cellsP d.toList ++ G) (i * 3) x.cells = cellsP (d.setIfInBounds i x).toList ++ G := by
 rw [overP_at (L := d.toList) x (by simpa using h)]
 simp
theorem arr_len {d : Array Pk} {G : List Value} : (cellsP d.toList ++ G).length = 3 * d.size + G.length := by
 rw [List.length_append, cellsP_length]; simp
structure Base (σ0 : St) (a : Nat) (σ : St) : Prop where
 nx : σ0.next ≤ σ.next
 get : ∀ c, c < σ0.next → c ≠ a → σ.get c = σ0.get c
theorem Base.set {σ0 : St} {a : Nat} {σ : St} (h : Base σ0 a σ) (o : AObj) : Base σ0 a (σ.set a o) := ⟨h.nx, fun c h1 h2 => by rw [St.get_set, if_neg (Ne.symm h2)]; exact h.get c h1 h2⟩
theorem Base.new {σ0 : St} {a : Nat} {σ : St} (h : Base σ0 a σ) (o : AObj) : Base σ0 a (σ.new o) := ⟨by rw [St.next_new]; have := h.nx; omega, fun c h1 h2 => by rw [St.get_new, if_neg (by have := h.nx; omega)]; exact h.get c h1 h2⟩
structure CmpOk (σ0 : St) (a : Nat) (g : FuncId) (ys : List Value) (lt : Pk → Pk → Bool) (p : Pk → Prop) : Prop where
 body : (cP Tryz.prog).bodies g = true
 call : ∀ σ, Base σ0 a σ → ∀ x y, p x → p y → ∃ r : Int, DCall Tryz.prog g (.agg ⟨x.cells⟩ :: .agg ⟨y.cells⟩ :: ys) σ (.ret (.int .i64 r)) σ [] ∧ decide (r < 0) = lt x y
structure SAt (σ0 : St) (a : Nat) (d : Array Pk) (G : List Value) (p : Pk → Prop) (σ : St) : Prop where
 base : Base σ0 a σ
 get : σ.get a = some (.cells (cellsP d.toList ++ G) false)
 lt : a < σ0.next
 all : ∀ i, i < d.size → p d[i]!
 small : d.size < 1000000
theorem swp_size {d : Array Pk} {i j : Nat} : (Sort.swp d i j).size = d.size := by simp [Sort.swp]
theorem swp_all {d : Array Pk} {p : Pk → Prop} {i j : Nat} (hi : i < d.size) (hj : j < d.size) (h : ∀ i, i < d.size → p d[i]!) : ∀ k, k < (Sort.swp d i j).size → p (Sort.swp d i j)[k]! := fun k hk => by
 rw [swp_size] at hk
 by_cases e1 : k = j
 ·rw [e1, Sort.swp_right d i j hj]; exact h i hi
 ·by_cases e2 : k = i
  ·rw [e2, Sort.swp_left d i j hi (fun e => e1 (e2.trans e))]; exact h j hj
  ·rw [Sort.swp_other d i j k e2 e1]; exact h k hk
theorem SAt.swp {σ0 : St} {a : Nat} {d : Array Pk} {G : List Value} {p : Pk → Prop} {σ : St} (h : SAt σ0 a d G p σ) {i j : Nat} (hi : i < d.size) (hj : j < d.size) (o : AObj) :
  SAt σ0 a (Sort.swp d i j) G p ((σ.set a o).set a (.cells (cellsP ((d.setIfInBounds i d[j]!).setIfInBounds j d[i]!).toList ++ G) false)) :=
 ⟨(h.base.set _).set _, by rw [St.get_set, if_pos rfl]; rfl, h.lt, swp_all hi hj h.all, by rw [swp_size]; exact h.small⟩
def sliceS (a : Nat) (s : Nat) (n cap : Nat) : Value := .slice (some ⟨a, 0, some s⟩) n cap
end Go.Ab
namespace Go.Ab
open Go.Proofs
noncomputable def insOutB : Code := loopOf (Tryz.f110.body.getD .skip)
structure FI (ts : List Value) (dv cv : Value) (a b i : Nat) : Prop where
 size : ts.length = 53
 t0 : lget ts 0 = dv
 t1 : lget ts 1 = .int .i64 a
 t2 : lget ts 2 = .int .i64 b
 t3 : lget ts 3 = cv
 t8 : lget ts 8 = .int .i64 i
section
variable {σ0 : St} {k s n cap : Nat} {g : FuncId} {ys : List Value} {lt : Pk → Pk → Bool} {p : Pk → Prop} {G : List Value}
def IIn (σ0 : St) (k s n cap : Nat) (g : FuncId) (ys : List Value) (lt : Pk → Pk → Bool) (p : Pk → Prop) (G : List Value) (a b i : Nat) (D : Array Pk) (m : Nat) (fr : Fr) (σ : St) : Prop :=
 ∃ ts d, fr = ⟨ts, []⟩ ∧ FI ts (sliceS k s n cap) (.func (.func g) ⟨[]⟩ ⟨ys⟩) a b i ∧ lget ts 9 = .int .i64 (m : Nat) ∧ m ≤ i ∧ SAt σ0 k d G p σ ∧ d.size = n ∧ Sort.insInner lt a m d = D
def EIn (σ0 : St) (k s n cap : Nat) (g : FuncId) (ys : List Value) (p : Pk → Prop) (G : List Value) (a b i : Nat) (D : Array Pk) (x : AX) (fr : Fr) (σ : St) : Prop :=
 x = .exit 2 ∧ ∃ ts, fr = ⟨ts, []⟩ ∧ FI ts (sliceS k s n cap) (.func (.func g) ⟨[]⟩ ⟨ys⟩) a b i ∧ SAt σ0 k D G p σ ∧ D.size = n
noncomputable def insInB : Code := loopOf (nthC 1 (blockOf (nthC 1 insOutB)))
set_option maxHeartbeats 1600000 in
set_option maxRecDepth 20000 in
theorem ins_in (hc : CmpOk σ0 k g ys lt p) {a b i : Nat} (hib : i < b) (hbn : b ≤ n) {D : Array Pk} : ∀ m fr σ, IIn σ0 k s n cap g ys lt p G a b i D m fr σ → loopX Tryz.prog false insInB fr σ (endL (EIn σ0 k s n cap g ys p G a b i D) fun z => z = k ∨ σ0.next ≤ z) := by
 refine loop_ind q0 110 (by kernel_rfl) _ _ _ ?_
 rintro m fr σ ⟨ts, d, rfl, F, h9, hmi, H, hdn, hD⟩
 have e0 := F.t0
 have e1 := F.t1
 have e2 := F.t2
 have e3 := F.t3
 have e8 := F.t8
 have el := F.size
 simp only [sliceS] at e0
 by_cases ha : a < m
 ·obtain ⟨j, rfl⟩ : ∃ j, m = j + 1 := ⟨m - 1, by omega⟩
  obtain ⟨r, hd, hr⟩ := hc.call σ H.base d[j + 1]! d[j]! (H.all _ (by omega)) (H.all _ (by omega))
  have hb := hc.body
  have g1 := H.get
  have x1 := arr_at (d := d) (G := G) (i := j + 1) (by omega)
  have x2 := arr_at (d := d) (G := G) (i := j) (by omega)
  have l1 : (j + 1) * 3 + 3 ≤ (cellsP d.toList ++ G).length := by rw [arr_len]; omega
  have l2 : j * 3 + 3 ≤ (cellsP d.toList ++ G).length := by rw [arr_len]; omega
  have c0 : (a : Int) < ((j + 1 : Nat) : Int) := by omega
  have c1 : (0 : Int) ≤ ((j + 1 : Nat) : Int) := by omega
  have c2 : ((j + 1 : Nat) : Int) < (n : Int) := by omega
  have c3 : (0 : Int) ≤ (j : Int) := by omega
  have c4 : (j : Int) < (n : Int) := by omega
  have w1 : IntKind.i64.wrap (((j + 1 : Nat) : Int) - 1) = (j : Int) := by
   have : ((j + 1 : Nat) : Int) - 1 = (j : Int) := by omega
   rw [this]; exact wrapIN (by have := H.small; omega)
  have nk : ¬ σ.next ≤ k := by have := H.lt; have := H.base.nx; omega
  simp only [Pk.cells] at x1 x2
  have o1 := arr_over (d := d) (G := G) (i := j + 1) d[j]! (by omega)
  have o2 := arr_over (d := d.setIfInBounds (j + 1) d[j]!) (G := G) (i := j) d[j + 1]! (by simp; omega)
  have l3 : j * 3 + 3 ≤ (cellsP (d.setIfInBounds (j + 1) d[j]!).toList ++ G).length := by rw [arr_len]; simp; omega
  simp only [Pk.cells] at o1 o2
  by_cases hr0 : r < 0
  ·simp only [go_sem, seval, if_pos rfl, opLen, undef, insInB, insOutB, blockOf, nthC, loopOf, Tryz.f110, Option.getD, Int.toNat_natCast, e0, e1, e2, e3, e8, el, h9, g1, hb, x1, x2, l1, l2, l3, o1, o2, c0, c1, c2, c3, c4, w1, nk]
   refine .of hd ?_
   simp only [go_sem, seval, if_pos rfl, opLen, undef, insInB, insOutB, blockOf, nthC, loopOf, Tryz.f110, Option.getD, Int.toNat_natCast, e0, e1, e2, e3, e8, el, h9, g1, hb, x1, x2, l1, l2, l3, o1, o2, c0, c1, c2, c3, c4, w1, nk, hr0]
   have hlt : lt d[j + 1]! d[j]! = true := by rw [← hr]; simp [hr0]
   refine ⟨.inl trivial, j, by omega, _, Sort.swp d (j + 1) j, rfl, ⟨by simp only [List.length_set, el], by simp only [go_sem, seval, if_pos rfl, opLen, el, e0] <;> rfl, by simp only [go_sem, seval, if_pos rfl, opLen, el, e1], by simp only [go_sem, seval, if_pos rfl, opLen, el, e2], by simp only [go_sem, seval, if_pos rfl, opLen, el, e3], by simp only [go_sem, seval, if_pos rfl, opLen, el, e8]⟩, by simp only [go_sem, seval, if_pos rfl, opLen, el], by omega, H.swp (by omega) (by omega) _, by rw [swp_size]; exact hdn, ?_⟩
   rw [← hD]
   simp only [Sort.insInner]
   rw [if_pos]
   simp [hlt, ha]
  ·simp only [go_sem, seval, if_pos rfl, opLen, undef, insInB, insOutB, blockOf, nthC, loopOf, Tryz.f110, Option.getD, Int.toNat_natCast, e0, e1, e2, e3, e8, el, h9, g1, hb, x1, x2, l1, l2, l3, o1, o2, c0, c1, c2, c3, c4, w1, nk]
   refine .of hd ?_
   simp only [go_sem, seval, if_pos rfl, opLen, undef, insInB, insOutB, blockOf, nthC, loopOf, Tryz.f110, Option.getD, Int.toNat_natCast, e0, e1, e2, e3, e8, el, h9, g1, hb, x1, x2, l1, l2, l3, o1, o2, c0, c1, c2, c3, c4, w1, nk, hr0]
   have hlt : lt d[j + 1]! d[j]! = false := by rw [← hr]; simp [hr0]
   have hDd : D = d := by
    rw [← hD]
    simp only [Sort.insInner]
    rw [if_neg]
    simp [hlt]
   exact ⟨rfl, _, rfl, ⟨by simp only [List.length_set, el], by simp only [go_sem, seval, if_pos rfl, opLen, el, e0] <;> rfl, by simp only [go_sem, seval, if_pos rfl, opLen, el, e1], by simp only [go_sem, seval, if_pos rfl, opLen, el, e2], by simp only [go_sem, seval, if_pos rfl, opLen, el, e3], by simp only [go_sem, seval, if_pos rfl, opLen, el, e8]⟩, hDd ▸ H, hDd ▸ hdn⟩
 ·have c0 : ¬ (a : Int) < ((m : Nat) : Int) := by omega
  have hDd : D = d := by
   rw [← hD]
   cases m with
   | zero => rfl
   | succ j =>
    simp only [Sort.insInner]
    rw [if_neg]
    simp
    intro h; omega
  simp only [go_sem, seval, if_pos rfl, opLen, undef, insInB, insOutB, blockOf, nthC, loopOf, Tryz.f110, Option.getD, Int.toNat_natCast, e0, e1, e2, e3, e8, el, h9, c0]
  exact ⟨rfl, _, rfl, ⟨by simp only [List.length_set, el], by simp only [go_sem, seval, if_pos rfl, opLen, el, e0] <;> rfl, by simp only [go_sem, seval, if_pos rfl, opLen, el, e1], by simp only [go_sem, seval, if_pos rfl, opLen, el, e2], by simp only [go_sem, seval, if_pos rfl, opLen, el, e3], by simp only [go_sem, seval, if_pos rfl, opLen, el, e8]⟩, hDd ▸ H, hDd ▸ hdn⟩
def IOut (σ0 : St) (k s n cap : Nat) (g : FuncId) (ys : List Value) (lt : Pk → Pk → Bool) (p : Pk → Prop) (G : List Value) (a b : Nat) (D : Array Pk) (m : Nat) (fr : Fr) (σ : St) : Prop :=
 ∃ ts d, ∃ i : Nat, fr = ⟨ts, []⟩ ∧ FI ts (sliceS k s n cap) (.func (.func g) ⟨[]⟩ ⟨ys⟩) a b i ∧ m = b - i ∧ SAt σ0 k d G p σ ∧ d.size = n ∧ Sort.insOuter lt a b i d = D
def EOut (σ0 : St) (k : Nat) (p : Pk → Prop) (G : List Value) (D : Array Pk) (x : AX) (fr : Fr) (σ : St) : Prop :=
 x = .exit 0 ∧ fr.ds = [] ∧ SAt σ0 k D G p σ
set_option maxHeartbeats 1600000 in
set_option maxRecDepth 20000 in
theorem ins_out (hc : CmpOk σ0 k g ys lt p) {a b : Nat} (hbn : b ≤ n) (hn : n < 1000000) {D : Array Pk} : ∀ m fr σ, IOut σ0 k s n cap g ys lt p G a b D m fr σ → loopX Tryz.prog false insOutB fr σ (endL (EOut σ0 k p G D) fun z => z = k ∨ σ0.next ≤ z) := by
 refine loop_ind q0 110 (by kernel_rfl) _ _ _ ?_
 rintro m fr σ ⟨ts, d, i, rfl, F, hm, H, hdn, hD⟩
 have e0 := F.t0
 have e1 := F.t1
 have e2 := F.t2
 have e3 := F.t3
 have e8 := F.t8
 have el := F.size
 by_cases hi : i < b
 ·have c0 : (i : Int) < (b : Int) := by omega
  have w1 : IntKind.i64.wrap ((i : Int) + 1) = ((i + 1 : Nat) : Int) := by
   have : (i : Int) + 1 = ((i + 1 : Nat) : Int) := by omega
   rw [this]; exact wrapIN (by omega)
  simp only [go_sem, seval, if_pos rfl, opLen, undef, insOutB, loopOf, Tryz.f110, Option.getD, e0, e1, e2, e3, e8, el, c0]
  refine loop_then (ins_in (s := s) (n := n) (cap := cap) (G := G) hc (a := a) (b := b) (i := i) hi hbn (D := Sort.insInner lt a i d) i _ _ ⟨_, d, rfl, ⟨by simp only [List.length_set, el], by simp only [go_sem, seval, if_pos rfl, opLen, el, e0] <;> rfl, by simp only [go_sem, seval, if_pos rfl, opLen, el, e1], by simp only [go_sem, seval, if_pos rfl, opLen, el, e2], by simp only [go_sem, seval, if_pos rfl, opLen, el, e3], by simp only [go_sem, seval, if_pos rfl, opLen, el, e8]⟩, by simp only [go_sem, seval, if_pos rfl, opLen, el], Nat.le_refl _, H, hdn, rfl⟩) ?_
  intro x fr' σ' lg hlg hB h
  obtain ⟨rfl, ts', rfl, F', H', hs'⟩ := h
  have f0 := F'.t0
  have f1 := F'.t1
  have f2 := F'.t2
  have f3 := F'.t3
  have f8 := F'.t8
  have fl := F'.size
  simp only [go_sem, seval, if_pos rfl, opLen, undef, f0, f1, f2, f3, f8, fl, w1]
  refine ⟨hB, b - (i + 1), by omega, _, _, i + 1, rfl, ⟨by simp only [List.length_set, fl], by simp only [go_sem, seval, if_pos rfl, opLen, fl, f0] <;> rfl, by simp only [go_sem, seval, if_pos rfl, opLen, fl, f1], by simp only [go_sem, seval, if_pos rfl, opLen, fl, f2], by simp only [go_sem, seval, if_pos rfl, opLen, fl, f3], by simp only [go_sem, seval, if_pos rfl, opLen, fl, f8]⟩, rfl, H', hs', ?_⟩
  rw [← hD, Sort.insOuter.eq_def lt a b i d, if_pos hi]
 ·have c0 : ¬ (i : Int) < (b : Int) := by omega
  simp only [go_sem, seval, if_pos rfl, opLen, undef, insOutB, loopOf, Tryz.f110, Option.getD, e0, e1, e2, e3, e8, el, c0]
  have hDd : D = d := by rw [← hD, Sort.insOuter.eq_def lt a b i d, if_neg hi]
  exact ⟨rfl, rfl, hDd ▸ H⟩
def SortR (σ0 : St) (k : Nat) (G : List Value) (p : Pk → Prop) (D : Array Pk) (σ' : St) (lg : Log) : Prop := (∀ z ∈ lg, z = k ∨ σ0.next ≤ z) ∧ SAt σ0 k D G p σ'
theorem ins_call (hc : CmpOk σ0 k g ys lt p) {a b : Nat} {d : Array Pk} {σ : St} (H : SAt σ0 k d G p σ) (hab : a ≤ b) (hbn : b ≤ d.size) :
  callX Tryz.prog 110 [sliceS k s d.size cap, .int .i64 a, .int .i64 b, .func (.func g) ⟨[]⟩ ⟨ys⟩] σ fun e σ' lg => e = .ret (.tuple ⟨[]⟩) ∧ SortR σ0 k G p (Sort.insertionSort lt d a b) σ' lg := by
 have w1 : IntKind.i64.wrap ((a : Int) + 1) = ((a + 1 : Nat) : Int) := by
  have : (a : Int) + 1 = ((a + 1 : Nat) : Int) := by omega
  rw [this]; exact wrapIN (by have := H.small; omega)
 refine enter (p := q0) Tryz.func110 rfl stat110 ?_
 simp only [go_sem, seval, if_pos rfl, opLen, undef, sliceS, Tryz.f110, w1]
 refine loop_then (ins_out (s := s) (n := d.size) (cap := cap) (G := G) hc (a := a) (b := b) hbn H.small (D := Sort.insertionSort lt d a b) _ _ _ ⟨_, d, a + 1, rfl, ⟨rfl, rfl, rfl, rfl, rfl, rfl⟩, rfl, H, rfl, rfl⟩) ?_
 intro x fr' σ' lg hlg hB h
 obtain ⟨rfl, hds, H'⟩ := h
 obtain ⟨ts', ds'⟩ := fr'
 simp only at hds
 subst hds
 simp only [go_sem, seval, if_pos rfl, opLen]
 exact ⟨hB, H'⟩
end
end Go.Ab
namespace Go.Ab
open Go.Proofs
noncomputable def siftB : Code := loopOf (Tryz.f121.body.getD .skip)
structure FD (ts : List Value) (dv cv : Value) (hi first root : Nat) : Prop where
 size : ts.length = 82
 t0 : lget ts 0 = dv
 t2 : lget ts 2 = .int .i64 hi
 t3 : lget ts 3 = .int .i64 first
 t4 : lget ts 4 = cv
 t10 : lget ts 10 = .int .i64 root
section
variable {σ0 : St} {k s n cap : Nat} {g : FuncId} {ys : List Value} {lt : Pk → Pk → Bool} {p : Pk → Prop} {G : List Value}
def IDn (σ0 : St) (k s n cap : Nat) (g : FuncId) (ys : List Value) (lt : Pk → Pk → Bool) (p : Pk → Prop) (G : List Value) (hi first : Nat) (D : Array Pk) (m : Nat) (fr : Fr) (σ : St) : Prop :=
 ∃ ts d, ∃ root : Nat, fr = ⟨ts, []⟩ ∧ FD ts (sliceS k s n cap) (.func (.func g) ⟨[]⟩ ⟨ys⟩) hi first root ∧ m = hi - root ∧ root < 1000000 ∧ SAt σ0 k d G p σ ∧ d.size = n ∧ Sort.siftDown lt hi first root d = D
def EDn (σ0 : St) (k : Nat) (p : Pk → Prop) (G : List Value) (D : Array Pk) (x : AX) (fr : Fr) (σ : St) : Prop :=
 (x = .exit 0 ∨ x = .ret) ∧ fr.ds = [] ∧ SAt σ0 k D G p σ
set_option maxHeartbeats 6400000 in
set_option maxRecDepth 20000 in
theorem sift_loop (hc : CmpOk σ0 k g ys lt p) {hi first : Nat} (hn : first + hi ≤ n) {D : Array Pk} : ∀ m fr σ, IDn σ0 k s n cap g ys lt p G hi first D m fr σ → loopX Tryz.prog false siftB fr σ (endL (EDn σ0 k p G D) fun z => z = k ∨ σ0.next ≤ z) := by
 refine loop_ind q0 121 (by kernel_rfl) _ _ _ ?_
 rintro m fr σ ⟨ts, d, root, rfl, F, hm, hrt, H, hdn, hD⟩
 have e0 := F.t0
 have e2 := F.t2
 have e3 := F.t3
 have e4 := F.t4
 have e10 := F.t10
 have el := F.size
 have hsm := H.small
 have hb := hc.body
 have g1 := H.get
 have nk : ¬ σ.next ≤ k := by have := H.lt; have := H.base.nx; omega
 have w1 : IntKind.i64.wrap (2 * (root : Int)) = ((2 * root : Nat) : Int) := by
  have : 2 * (root : Int) = ((2 * root : Nat) : Int) := by omega
  rw [this]; exact wrapIN (by omega)
 have w2 : IntKind.i64.wrap (((2 * root : Nat) : Int) + 1) = ((2 * root + 1 : Nat) : Int) := by
  have : ((2 * root : Nat) : Int) + 1 = ((2 * root + 1 : Nat) : Int) := by omega
  rw [this]; exact wrapIN (by omega)
 have w3 : IntKind.i64.wrap (((2 * root + 1 : Nat) : Int) + 1) = ((2 * root + 2 : Nat) : Int) := by
  have : ((2 * root + 1 : Nat) : Int) + 1 = ((2 * root + 2 : Nat) : Int) := by omega
  rw [this]; exact wrapIN (by omega)
 simp only [sliceS] at e0
 by_cases h1 : hi ≤ 2 * root + 1
 ·have c0 : (hi : Int) ≤ ((2 * root + 1 : Nat) : Int) := by omega
  have hDd : D = d := by rw [← hD, Sort.siftDown.eq_def lt hi first root d, dif_pos (by omega)]
  simp only [go_sem, seval, if_pos rfl, opLen, undef, siftB, loopOf, Tryz.f121, Option.getD, e0, e2, e3, e4, e10, el, w1, w2, c0]
  exact ⟨.inl rfl, rfl, hDd ▸ H⟩
 have c0 : ¬ (hi : Int) ≤ ((2 * root + 1 : Nat) : Int) := by omega
 have hA : first + root < d.size := by omega
 have hB : first + (2 * root + 1) < d.size := by omega
 have wA : IntKind.i64.wrap ((first : Int) + (root : Int)) = ((first + root : Nat) : Int) := by
  have : (first : Int) + (root : Int) = ((first + root : Nat) : Int) := by omega
  rw [this]; exact wrapIN (by omega)
 have wB : IntKind.i64.wrap ((first : Int) + ((2 * root + 1 : Nat) : Int)) = ((first + (2 * root + 1) : Nat) : Int) := by
  have : (first : Int) + ((2 * root + 1 : Nat) : Int) = ((first + (2 * root + 1) : Nat) : Int) := by omega
  rw [this]; exact wrapIN (by omega)
 have wC : IntKind.i64.wrap ((first : Int) + ((2 * root + 2 : Nat) : Int)) = ((first + (2 * root + 2) : Nat) : Int) := by
  have : (first : Int) + ((2 * root + 2 : Nat) : Int) = ((first + (2 * root + 2) : Nat) : Int) := by omega
  rw [this]; exact wrapIN (by omega)
 have wD : IntKind.i64.wrap (((first + (2 * root + 1) : Nat) : Int) + 1) = ((first + (2 * root + 2) : Nat) : Int) := by
  have : ((first + (2 * root + 1) : Nat) : Int) + 1 = ((first + (2 * root + 2) : Nat) : Int) := by omega
  rw [this]; exact wrapIN (by omega)
 have pA : (0 : Int) ≤ ((first + root : Nat) : Int) := by omega
 have pB : (0 : Int) ≤ ((first + (2 * root + 1) : Nat) : Int) := by omega
 have pC : (0 : Int) ≤ ((first + (2 * root + 2) : Nat) : Int) := by omega
 have qA : ((first + root : Nat) : Int) < (n : Int) := by omega
 have qB : ((first + (2 * root + 1) : Nat) : Int) < (n : Int) := by omega
 have xA := arr_at (d := d) (G := G) (i := first + root) hA
 have xB := arr_at (d := d) (G := G) (i := first + (2 * root + 1)) hB
 have lA : (first + root) * 3 + 3 ≤ (cellsP d.toList ++ G).length := by rw [arr_len]; omega
 have lB : (first + (2 * root + 1)) * 3 + 3 ≤ (cellsP d.toList ++ G).length := by rw [arr_len]; omega
 simp only [Pk.cells] at xA xB
 by_cases h2 : 2 * root + 2 < hi
 ·have c1 : ((2 * root + 2 : Nat) : Int) < (hi : Int) := by omega
  have hC : first + (2 * root + 2) < d.size := by omega
  have qC : ((first + (2 * root + 2) : Nat) : Int) < (n : Int) := by omega
  have xC := arr_at (d := d) (G := G) (i := first + (2 * root + 2)) hC
  have lC : (first + (2 * root + 2)) * 3 + 3 ≤ (cellsP d.toList ++ G).length := by rw [arr_len]; omega
  simp only [Pk.cells] at xC
  obtain ⟨r1, hd1, hr1⟩ := hc.call σ H.base d[first + (2 * root + 1)]! d[first + (2 * root + 2)]! (H.all _ hB) (H.all _ hC)
  by_cases hr : r1 < 0
  ·obtain ⟨r2, hd2, hr2⟩ := hc.call σ H.base d[first + root]! d[first + (2 * root + 2)]! (H.all _ hA) (H.all _ hC)
   have o1 := arr_over (d := d) (G := G) (i := first + root) d[first + (2 * root + 2)]! hA
   have o2 := arr_over (d := d.setIfInBounds (first + root) d[first + (2 * root + 2)]!) (G := G) (i := first + (2 * root + 2)) d[first + root]! (by simp; omega)
   have l3 : (first + (2 * root + 2)) * 3 + 3 ≤ (cellsP (d.setIfInBounds (first + root) d[first + (2 * root + 2)]!).toList ++ G).length := by rw [arr_len]; simp; omega
   simp only [Pk.cells] at o1 o2
   by_cases hr0 : r2 < 0
   ·simp only [go_sem, seval, if_pos rfl, opLen, undef, siftB, loopOf, Tryz.f121, Option.getD, Int.toNat_natCast, e0, e2, e3, e4, e10, el, hb, g1, nk, w1, w2, w3, wA, wB, wC, wD, pA, pB, pC, qA, qB, xA, xB, lA, lB, c0, o1, o2, l3, c1, qC, xC, lC, hr]
    refine .of hd1 ?_
    simp only [go_sem, seval, if_pos rfl, opLen, undef, siftB, loopOf, Tryz.f121, Option.getD, Int.toNat_natCast, e0, e2, e3, e4, e10, el, hb, g1, nk, w1, w2, w3, wA, wB, wC, wD, pA, pB, pC, qA, qB, xA, xB, lA, lB, c0, o1, o2, l3, c1, qC, xC, lC, hr]
    refine .of hd2 ?_
    simp only [go_sem, seval, if_pos rfl, opLen, undef, siftB, loopOf, Tryz.f121, Option.getD, Int.toNat_natCast, e0, e2, e3, e4, e10, el, hb, g1, nk, w1, w2, w3, wA, wB, wC, wD, pA, pB, pC, qA, qB, xA, xB, lA, lB, c0, o1, o2, l3, hr0, c1, qC, xC, lC, hr]
    have hlt2 : lt d[first + root]! d[first + (2 * root + 2)]! = true := by rw [← hr2]; simp [hr0]
    refine ⟨.inl trivial, hi - (2 * root + 2), by omega, _, Sort.swp d (first + root) (first + (2 * root + 2)), 2 * root + 2, rfl, ⟨by simp only [List.length_set, el], by simp only [go_sem, seval, if_pos rfl, opLen, el, e0] <;> rfl, by simp only [go_sem, seval, if_pos rfl, opLen, el, e2], by simp only [go_sem, seval, if_pos rfl, opLen, el, e3], by simp only [go_sem, seval, if_pos rfl, opLen, el, e4], by simp only [go_sem, seval, if_pos rfl, opLen, el]⟩, rfl, by omega, H.swp hA hC _, by rw [swp_size]; exact hdn, ?_⟩
    rw [← hD, Sort.siftDown.eq_def lt hi first root d, dif_neg (by omega)]
    have hlt1 : lt d[first + (2 * root + 1)]! d[first + (2 * root + 1) + 1]! = true := by show lt _ d[first + (2 * root + 2)]! = true; rw [← hr1]; simp [hr]
    rw [if_pos (by rw [hlt1]; simp; omega)]
    rw [if_neg (by simp [hlt2]), dif_pos h2]
   ·simp only [go_sem, seval, if_pos rfl, opLen, undef, siftB, loopOf, Tryz.f121, Option.getD, Int.toNat_natCast, e0, e2, e3, e4, e10, el, hb, g1, nk, w1, w2, w3, wA, wB, wC, wD, pA, pB, pC, qA, qB, xA, xB, lA, lB, c0, o1, o2, l3, c1, qC, xC, lC, hr]
    refine .of hd1 ?_
    simp only [go_sem, seval, if_pos rfl, opLen, undef, siftB, loopOf, Tryz.f121, Option.getD, Int.toNat_natCast, e0, e2, e3, e4, e10, el, hb, g1, nk, w1, w2, w3, wA, wB, wC, wD, pA, pB, pC, qA, qB, xA, xB, lA, lB, c0, o1, o2, l3, c1, qC, xC, lC, hr]
    refine .of hd2 ?_
    simp only [go_sem, seval, if_pos rfl, opLen, undef, siftB, loopOf, Tryz.f121, Option.getD, Int.toNat_natCast, e0, e2, e3, e4, e10, el, hb, g1, nk, w1, w2, w3, wA, wB, wC, wD, pA, pB, pC, qA, qB, xA, xB, lA, lB, c0, o1, o2, l3, hr0, c1, qC, xC, lC, hr]
    have hlt2 : lt d[first + root]! d[first + (2 * root + 2)]! = false := by rw [← hr2]; simp [hr0]
    have hDd : D = d := by
     rw [← hD, Sort.siftDown.eq_def lt hi first root d, dif_neg (by omega)]
     have hlt1 : lt d[first + (2 * root + 1)]! d[first + (2 * root + 1) + 1]! = true := by show lt _ d[first + (2 * root + 2)]! = true; rw [← hr1]; simp [hr]
     rw [if_pos (by rw [hlt1]; simp; omega)]
     rw [if_pos (by simp [hlt2])]
    exact ⟨.inr rfl, rfl, hDd ▸ H⟩
  ·obtain ⟨r2, hd2, hr2⟩ := hc.call σ H.base d[first + root]! d[first + (2 * root + 1)]! (H.all _ hA) (H.all _ hB)
   have o1 := arr_over (d := d) (G := G) (i := first + root) d[first + (2 * root + 1)]! hA
   have o2 := arr_over (d := d.setIfInBounds (first + root) d[first + (2 * root + 1)]!) (G := G) (i := first + (2 * root + 1)) d[first + root]! (by simp; omega)
   have l3 : (first + (2 * root + 1)) * 3 + 3 ≤ (cellsP (d.setIfInBounds (first + root) d[first + (2 * root + 1)]!).toList ++ G).length := by rw [arr_len]; simp; omega
   simp only [Pk.cells] at o1 o2
   by_cases hr0 : r2 < 0
   ·simp only [go_sem, seval, if_pos rfl, opLen, undef, siftB, loopOf, Tryz.f121, Option.getD, Int.toNat_natCast, e0, e2, e3, e4, e10, el, hb, g1, nk, w1, w2, w3, wA, wB, wC, wD, pA, pB, pC, qA, qB, xA, xB, lA, lB, c0, o1, o2, l3, c1, qC, xC, lC, hr]
    refine .of hd1 ?_
    simp only [go_sem, seval, if_pos rfl, opLen, undef, siftB, loopOf, Tryz.f121, Option.getD, Int.toNat_natCast, e0, e2, e3, e4, e10, el, hb, g1, nk, w1, w2, w3, wA, wB, wC, wD, pA, pB, pC, qA, qB, xA, xB, lA, lB, c0, o1, o2, l3, c1, qC, xC, lC, hr]
    refine .of hd2 ?_
    simp only [go_sem, seval, if_pos rfl, opLen, undef, siftB, loopOf, Tryz.f121, Option.getD, Int.toNat_natCast, e0, e2, e3, e4, e10, el, hb, g1, nk, w1, w2, w3, wA, wB, wC, wD, pA, pB, pC, qA, qB, xA, xB, lA, lB, c0, o1, o2, l3, hr0, c1, qC, xC, lC, hr]
    have hlt2 : lt d[first + root]! d[first + (2 * root + 1)]! = true := by rw [← hr2]; simp [hr0]
    refine ⟨.inl trivial, hi - (2 * root + 1), by omega, _, Sort.swp d (first + root) (first + (2 * root + 1)), 2 * root + 1, rfl, ⟨by simp only [List.length_set, el], by simp only [go_sem, seval, if_pos rfl, opLen, el, e0] <;> rfl, by simp only [go_sem, seval, if_pos rfl, opLen, el, e2], by simp only [go_sem, seval, if_pos rfl, opLen, el, e3], by simp only [go_sem, seval, if_pos rfl, opLen, el, e4], by simp only [go_sem, seval, if_pos rfl, opLen, el]⟩, rfl, by omega, H.swp hA hB _, by rw [swp_size]; exact hdn, ?_⟩
    rw [← hD, Sort.siftDown.eq_def lt hi first root d, dif_neg (by omega)]
    have hlt1 : lt d[first + (2 * root + 1)]! d[first + (2 * root + 1) + 1]! = false := by show lt _ d[first + (2 * root + 2)]! = false; rw [← hr1]; simp [hr]
    rw [if_neg (by rw [hlt1]; simp)]
    rw [if_neg (by simp [hlt2])]
   ·simp only [go_sem, seval, if_pos rfl, opLen, undef, siftB, loopOf, Tryz.f121, Option.getD, Int.toNat_natCast, e0, e2, e3, e4, e10, el, hb, g1, nk, w1, w2, w3, wA, wB, wC, wD, pA, pB, pC, qA, qB, xA, xB, lA, lB, c0, o1, o2, l3, c1, qC, xC, lC, hr]
    refine .of hd1 ?_
    simp only [go_sem, seval, if_pos rfl, opLen, undef, siftB, loopOf, Tryz.f121, Option.getD, Int.toNat_natCast, e0, e2, e3, e4, e10, el, hb, g1, nk, w1, w2, w3, wA, wB, wC, wD, pA, pB, pC, qA, qB, xA, xB, lA, lB, c0, o1, o2, l3, c1, qC, xC, lC, hr]
    refine .of hd2 ?_
    simp only [go_sem, seval, if_pos rfl, opLen, undef, siftB, loopOf, Tryz.f121, Option.getD, Int.toNat_natCast, e0, e2, e3, e4, e10, el, hb, g1, nk, w1, w2, w3, wA, wB, wC, wD, pA, pB, pC, qA, qB, xA, xB, lA, lB, c0, o1, o2, l3, hr0, c1, qC, xC, lC, hr]
    have hlt2 : lt d[first + root]! d[first + (2 * root + 1)]! = false := by rw [← hr2]; simp [hr0]
    have hDd : D = d := by
     rw [← hD, Sort.siftDown.eq_def lt hi first root d, dif_neg (by omega)]
     have hlt1 : lt d[first + (2 * root + 1)]! d[first + (2 * root + 1) + 1]! = false := by show lt _ d[first + (2 * root + 2)]! = false; rw [← hr1]; simp [hr]
     rw [if_neg (by rw [hlt1]; simp)]
     rw [if_pos (by simp [hlt2])]
    exact ⟨.inr rfl, rfl, hDd ▸ H⟩
 ·have c1 : ¬ ((2 * root + 2 : Nat) : Int) < (hi : Int) := by omega
  obtain ⟨r2, hd2, hr2⟩ := hc.call σ H.base d[first + root]! d[first + (2 * root + 1)]! (H.all _ hA) (H.all _ hB)
  have o1 := arr_over (d := d) (G := G) (i := first + root) d[first + (2 * root + 1)]! hA
  have o2 := arr_over (d := d.setIfInBounds (first + root) d[first + (2 * root + 1)]!) (G := G) (i := first + (2 * root + 1)) d[first + root]! (by simp; omega)
  have l3 : (first + (2 * root + 1)) * 3 + 3 ≤ (cellsP (d.setIfInBounds (first + root) d[first + (2 * root + 1)]!).toList ++ G).length := by rw [arr_len]; simp; omega
  simp only [Pk.cells] at o1 o2
  by_cases hr0 : r2 < 0
  ·simp only [go_sem, seval, if_pos rfl, opLen, undef, siftB, loopOf, Tryz.f121, Option.getD, Int.toNat_natCast, e0, e2, e3, e4, e10, el, hb, g1, nk, w1, w2, w3, wA, wB, wC, wD, pA, pB, pC, qA, qB, xA, xB, lA, lB, c0, o1, o2, l3, c1]
   refine .of hd2 ?_
   simp only [go_sem, seval, if_pos rfl, opLen, undef, siftB, loopOf, Tryz.f121, Option.getD, Int.toNat_natCast, e0, e2, e3, e4, e10, el, hb, g1, nk, w1, w2, w3, wA, wB, wC, wD, pA, pB, pC, qA, qB, xA, xB, lA, lB, c0, o1, o2, l3, hr0, c1]
   have hlt2 : lt d[first + root]! d[first + (2 * root + 1)]! = true := by rw [← hr2]; simp [hr0]
   refine ⟨.inl trivial, hi - (2 * root + 1), by omega, _, Sort.swp d (first + root) (first + (2 * root + 1)), 2 * root + 1, rfl, ⟨by simp only [List.length_set, el], by simp only [go_sem, seval, if_pos rfl, opLen, el, e0] <;> rfl, by simp only [go_sem, seval, if_pos rfl, opLen, el, e2], by simp only [go_sem, seval, if_pos rfl, opLen, el, e3], by simp only [go_sem, seval, if_pos rfl, opLen, el, e4], by simp only [go_sem, seval, if_pos rfl, opLen, el]⟩, rfl, by omega, H.swp hA hB _, by rw [swp_size]; exact hdn, ?_⟩
   rw [← hD, Sort.siftDown.eq_def lt hi first root d, dif_neg (by omega)]
   rw [if_neg (by simp; omega)]
   rw [if_neg (by simp [hlt2])]
  ·simp only [go_sem, seval, if_pos rfl, opLen, undef, siftB, loopOf, Tryz.f121, Option.getD, Int.toNat_natCast, e0, e2, e3, e4, e10, el, hb, g1, nk, w1, w2, w3, wA, wB, wC, wD, pA, pB, pC, qA, qB, xA, xB, lA, lB, c0, o1, o2, l3, c1]
   refine .of hd2 ?_
   simp only [go_sem, seval, if_pos rfl, opLen, undef, siftB, loopOf, Tryz.f121, Option.getD, Int.toNat_natCast, e0, e2, e3, e4, e10, el, hb, g1, nk, w1, w2, w3, wA, wB, wC, wD, pA, pB, pC, qA, qB, xA, xB, lA, lB, c0, o1, o2, l3, hr0, c1]
   have hlt2 : lt d[first + root]! d[first + (2 * root + 1)]! = false := by rw [← hr2]; simp [hr0]
   have hDd : D = d := by
    rw [← hD, Sort.siftDown.eq_def lt hi first root d, dif_neg (by omega)]
    rw [if_neg (by simp; omega)]
    rw [if_pos (by simp [hlt2])]
   exact ⟨.inr rfl, rfl, hDd ▸ H⟩
theorem sift_call (hc : CmpOk σ0 k g ys lt p) {lo hi first : Nat} {d : Array Pk} {σ : St} (H : SAt σ0 k d G p σ) (hn : first + hi ≤ d.size) (hlo : lo < 1000000) :
  callX Tryz.prog 121 [sliceS k s d.size cap, .int .i64 lo, .int .i64 hi, .int .i64 first, .func (.func g) ⟨[]⟩ ⟨ys⟩] σ fun e σ' lg => e = .ret (.tuple ⟨[]⟩) ∧ SortR σ0 k G p (Sort.siftDown lt hi first lo d) σ' lg := by
 refine enter (p := q0) Tryz.func121 rfl stat121 ?_
 simp only [go_sem, seval, if_pos rfl, opLen, undef, sliceS, Tryz.f121]
 refine loop_then (sift_loop (s := s) (n := d.size) (cap := cap) (G := G) hc (hi := hi) (first := first) hn (D := Sort.siftDown lt hi first lo d) _ _ _ ⟨_, d, lo, rfl, ⟨rfl, rfl, rfl, rfl, rfl, rfl⟩, rfl, hlo, H, rfl, rfl⟩) ?_
 intro x fr' σ' lg hlg hB h
 obtain ⟨hx, hds, H'⟩ := h
 obtain ⟨ts', ds'⟩ := fr'
 simp only at hds
 subst hds
 rcases hx with rfl | rfl
 ·simp only [go_sem, seval, if_pos rfl, opLen]
  exact ⟨hB, H'⟩
 ·simp only [go_sem, seval, if_pos rfl, opLen]
  exact ⟨hB, H'⟩
end
end Go.Ab
namespace Go.Ab
open Go.Proofs
noncomputable def hpB1 : Code := loopOf (nthC 3 (Tryz.f111.body.getD .skip))
noncomputable def hpB2 : Code := loopOf (dropC 4 (Tryz.f111.body.getD .skip))
structure FH (ts : List Value) (dv cv : Value) (first hi : Nat) : Prop where
 size : ts.length = 60
 t0 : lget ts 0 = dv
 t3 : lget ts 3 = cv
 t8 : lget ts 8 = .int .i64 first
 t9 : lget ts 9 = .int .i64 0
 t10 : lget ts 10 = .int .i64 hi
section
variable {σ0 : St} {k s n cap : Nat} {g : FuncId} {ys : List Value} {lt : Pk → Pk → Bool} {p : Pk → Prop} {G : List Value}
def IH1 (σ0 : St) (k s n cap : Nat) (g : FuncId) (ys : List Value) (lt : Pk → Pk → Bool) (p : Pk → Prop) (G : List Value) (first hi : Nat) (D : Array Pk) (m : Nat) (fr : Fr) (σ : St) : Prop :=
 ∃ ts d, fr = ⟨ts, []⟩ ∧ FH ts (sliceS k s n cap) (.func (.func g) ⟨[]⟩ ⟨ys⟩) first hi ∧ lget ts 11 = .int .i64 ((m : Int) - 1) ∧ m ≤ n + 1 ∧ SAt σ0 k d G p σ ∧ d.size = n ∧ Sort.heapBuild lt hi first m d = D
def EH1 (σ0 : St) (k s n cap : Nat) (g : FuncId) (ys : List Value) (p : Pk → Prop) (G : List Value) (first hi : Nat) (D : Array Pk) (x : AX) (fr : Fr) (σ : St) : Prop :=
 x = .exit 0 ∧ ∃ ts, fr = ⟨ts, []⟩ ∧ FH ts (sliceS k s n cap) (.func (.func g) ⟨[]⟩ ⟨ys⟩) first hi ∧ SAt σ0 k D G p σ ∧ D.size = n
def IH2 (σ0 : St) (k s n cap : Nat) (g : FuncId) (ys : List Value) (lt : Pk → Pk → Bool) (p : Pk → Prop) (G : List Value) (first hi : Nat) (D : Array Pk) (m : Nat) (fr : Fr) (σ : St) : Prop :=
 ∃ ts d, fr = ⟨ts, []⟩ ∧ FH ts (sliceS k s n cap) (.func (.func g) ⟨[]⟩ ⟨ys⟩) first hi ∧ lget ts 12 = .int .i64 ((m : Int) - 1) ∧ m ≤ hi ∧ SAt σ0 k d G p σ ∧ d.size = n ∧ Sort.heapPop lt first m d = D
def EH2 (σ0 : St) (k : Nat) (p : Pk → Prop) (G : List Value) (D : Array Pk) (x : AX) (fr : Fr) (σ : St) : Prop :=
 x = .exit 2 ∧ fr.ds = [] ∧ SAt σ0 k D G p σ
theorem sift_size {hi first : Nat} : ∀ (m root : Nat) (d : Array Pk), hi - root ≤ m → (Sort.siftDown lt hi first root d).size = d.size := by
 intro m
 induction m with
 | zero =>
  intro root d h
  rw [Sort.siftDown.eq_def, dif_pos (by omega)]
 | succ m ih =>
  intro root d h
  rw [Sort.siftDown.eq_def]
  split
  ·rfl
  ·split
   ·split
    ·rfl
    ·split
     ·rw [ih _ _ (by omega), swp_size]
     ·rfl
   ·split
    ·rfl
    ·rw [ih _ _ (by omega), swp_size]
set_option maxHeartbeats 1600000 in
set_option maxRecDepth 20000 in
theorem hp_build (hc : CmpOk σ0 k g ys lt p) {first hi : Nat} (hn : first + hi ≤ n) (hsm : n < 500000) {D : Array Pk} : ∀ m fr σ, IH1 σ0 k s n cap g ys lt p G first hi D m fr σ → loopX Tryz.prog false hpB1 fr σ (endL (EH1 σ0 k s n cap g ys p G first hi D) fun z => z = k ∨ σ0.next ≤ z) := by
 refine loop_ind q0 111 (by kernel_rfl) _ _ _ ?_
 rintro m fr σ ⟨ts, d, rfl, F, h11, hmn, H, hdn, hD⟩
 have e0 := F.t0
 have e3 := F.t3
 have e8 := F.t8
 have e9 := F.t9
 have e10 := F.t10
 have el := F.size
 cases m with
 | zero =>
  have c0 : ¬ (0 : Int) ≤ ((0 : Nat) : Int) - 1 := by omega
  simp only [Int.cast_ofNat_Int] at h11 c0
  simp only [go_sem, seval, if_pos rfl, opLen, undef, hpB1, nthC, loopOf, Tryz.f111, Option.getD, e0, e3, e8, e9, e10, el, h11, c0]
  exact ⟨rfl, _, rfl, ⟨by simp only [List.length_set, el], by simp only [go_sem, seval, if_pos rfl, opLen, el, e0], by simp only [go_sem, seval, if_pos rfl, opLen, el, e3], by simp only [go_sem, seval, if_pos rfl, opLen, el, e8], by simp only [go_sem, seval, if_pos rfl, opLen, el, e9], by simp only [go_sem, seval, if_pos rfl, opLen, el, e10]⟩, hD ▸ H, hD ▸ hdn⟩
 | succ i =>
  have ei : ((i + 1 : Nat) : Int) - 1 = (i : Int) := by omega
  rw [ei] at h11
  have c0 : (0 : Int) ≤ (i : Int) := by omega
  have w1 : IntKind.i64.wrap ((i : Int) - 1) = (i : Int) - 1 := wrapI (by omega) (by omega)
  simp only [go_sem, seval, if_pos rfl, opLen, undef, hpB1, nthC, loopOf, Tryz.f111, Option.getD, e0, e3, e8, e9, e10, el, h11, c0, body121]
  refine callX.hid (show callX Tryz.prog 121 [sliceS k s n cap, .int .i64 i, .int .i64 hi, .int .i64 first, .func (.func g) ⟨[]⟩ ⟨ys⟩] σ _ from hdn ▸ sift_call (s := s) (cap := cap) (G := G) hc (lo := i) (hi := hi) (first := first) H (by omega) (by omega)) ?_
  intro σ1 lg1 hlg1 hA
  obtain ⟨hB, H1⟩ := hA
  refine ⟨?_⟩
  simp only [go_sem, seval, if_pos rfl, opLen, undef, e0, e3, e8, e9, e10, el, h11, w1]
  refine ⟨hB, i, by omega, _, _, rfl, ⟨by simp only [List.length_set, el], by simp only [go_sem, seval, if_pos rfl, opLen, el, e0], by simp only [go_sem, seval, if_pos rfl, opLen, el, e3], by simp only [go_sem, seval, if_pos rfl, opLen, el, e8], by simp only [go_sem, seval, if_pos rfl, opLen, el, e9], by simp only [go_sem, seval, if_pos rfl, opLen, el, e10]⟩, by simp only [go_sem, seval, if_pos rfl, opLen, el], by omega, H1, by rw [sift_size _ _ _ (Nat.le_refl _)]; exact hdn, hD⟩
set_option maxHeartbeats 1600000 in
set_option maxRecDepth 20000 in
theorem hp_pop (hc : CmpOk σ0 k g ys lt p) {first hi : Nat} (hn : first + hi ≤ n) (hsm : n < 500000) {D : Array Pk} : ∀ m fr σ, IH2 σ0 k s n cap g ys lt p G first hi D m fr σ → loopX Tryz.prog false hpB2 fr σ (endL (EH2 σ0 k p G D) fun z => z = k ∨ σ0.next ≤ z) := by
 refine loop_ind q0 111 (by kernel_rfl) _ _ _ ?_
 rintro m fr σ ⟨ts, d, rfl, F, h12, hmn, H, hdn, hD⟩
 have e0 := F.t0
 have e3 := F.t3
 have e8 := F.t8
 have e9 := F.t9
 have e10 := F.t10
 have el := F.size
 simp only [sliceS] at e0
 cases m with
 | zero =>
  have c0 : ¬ (0 : Int) ≤ ((0 : Nat) : Int) - 1 := by omega
  simp only [Int.cast_ofNat_Int] at h12 c0
  simp only [go_sem, seval, if_pos rfl, opLen, undef, hpB2, dropC, loopOf, Tryz.f111, Option.getD, e0, e3, e8, e9, e10, el, h12, c0]
  exact ⟨rfl, rfl, hD ▸ H⟩
 | succ i =>
  have ei : ((i + 1 : Nat) : Int) - 1 = (i : Int) := by omega
  rw [ei] at h12
  have hA : first < d.size := by omega
  have hB : first + i < d.size := by omega
  have c0 : (0 : Int) ≤ (i : Int) := by omega
  have c1 : (0 : Int) ≤ (first : Int) := by omega
  have c2 : (first : Int) < (n : Int) := by omega
  have c3 : (0 : Int) ≤ ((first + i : Nat) : Int) := by omega
  have c4 : ((first + i : Nat) : Int) < (n : Int) := by omega
  have w1 : IntKind.i64.wrap ((i : Int) - 1) = (i : Int) - 1 := wrapI (by omega) (by omega)
  have w2 : IntKind.i64.wrap ((first : Int) + (i : Int)) = ((first + i : Nat) : Int) := by
   have : (first : Int) + (i : Int) = ((first + i : Nat) : Int) := by omega
   rw [this]; exact wrapIN (by omega)
  have g1 := H.get
  have nk : ¬ σ.next ≤ k := by have := H.lt; have := H.base.nx; omega
  have x1 := arr_at (d := d) (G := G) (i := first) hA
  have x2 := arr_at (d := d) (G := G) (i := first + i) hB
  have l1 : first * 3 + 3 ≤ (cellsP d.toList ++ G).length := by rw [arr_len]; omega
  have l2 : (first + i) * 3 + 3 ≤ (cellsP d.toList ++ G).length := by rw [arr_len]; omega
  have o1 := arr_over (d := d) (G := G) (i := first) d[first + i]! hA
  have o2 := arr_over (d := d.setIfInBounds first d[first + i]!) (G := G) (i := first + i) d[first]! (by simp; omega)
  have l3 : (first + i) * 3 + 3 ≤ (cellsP (d.setIfInBounds first d[first + i]!).toList ++ G).length := by rw [arr_len]; simp; omega
  simp only [Pk.cells] at x1 x2 o1 o2
  simp only [go_sem, seval, if_pos rfl, opLen, undef, hpB2, dropC, loopOf, Tryz.f111, Option.getD, Int.toNat_natCast, e0, e3, e8, e9, e10, el, h12, c0, c1, c2, c3, c4, w1, w2, g1, nk, x1, x2, l1, l2, l3, o1, o2, body121]
  have H1 := H.swp (i := first) (j := first + i) hA hB (.cells (cellsP (d.setIfInBounds first d[first + i]!).toList ++ G) false)
  have hs1 : (Sort.swp d first (first + i)).size = n := by rw [swp_size]; exact hdn
  refine callX.hid (show callX Tryz.prog 121 [sliceS k s n cap, .int .i64 (0 : Nat), .int .i64 i, .int .i64 first, .func (.func g) ⟨[]⟩ ⟨ys⟩] _ _ from hs1 ▸ sift_call (s := s) (cap := cap) (G := G) hc (lo := 0) (hi := i) (first := first) H1 (by rw [hs1]; omega) (by omega)) ?_
  intro σ1 lg1 hlg1 hA
  obtain ⟨hB, H2⟩ := hA
  refine ⟨?_⟩
  simp only [go_sem, seval, if_pos rfl, opLen, undef, e0, e3, e8, e9, e10, el, h12, w1]
  exact ⟨⟨.inl trivial, .inl trivial, hB⟩, i, by omega, _, _, rfl, ⟨by simp only [List.length_set, el], by simp only [go_sem, seval, if_pos rfl, opLen, el, e0] <;> rfl, by simp only [go_sem, seval, if_pos rfl, opLen, el, e3], by simp only [go_sem, seval, if_pos rfl, opLen, el, e8], by simp only [go_sem, seval, if_pos rfl, opLen, el, e9], by simp only [go_sem, seval, if_pos rfl, opLen, el, e10]⟩, by simp only [go_sem, seval, if_pos rfl, opLen, el], by omega, H2, by rw [sift_size _ _ _ (Nat.le_refl _)]; exact hs1, hD⟩
set_option maxHeartbeats 1600000 in
set_option maxRecDepth 20000 in
theorem heap_call (hc : CmpOk σ0 k g ys lt p) {a b : Nat} {d : Array Pk} {σ : St} (H : SAt σ0 k d G p σ) (hab : a ≤ b) (hbn : b ≤ d.size) (hsm : d.size < 500000) :
  callX Tryz.prog 111 [sliceS k s d.size cap, .int .i64 a, .int .i64 b, .func (.func g) ⟨[]⟩ ⟨ys⟩] σ fun e σ' lg => e = .ret (.tuple ⟨[]⟩) ∧ SortR σ0 k G p (Sort.heapSort lt d a b) σ' lg := by
 have w1 : IntKind.i64.wrap ((b : Int) - (a : Int)) = ((b - a : Nat) : Int) := by
  have : (b : Int) - (a : Int) = ((b - a : Nat) : Int) := by omega
  rw [this]; exact wrapIN (by omega)
 have w2 : IntKind.i64.wrap (((b - a : Nat) : Int) - 1) = ((b - a : Nat) : Int) - 1 := wrapI (by omega) (by omega)
 have w3 : IntKind.i64.wrap ((((b - a : Nat) : Int) - 1).tdiv 2) = (((b - a - 1) / 2 + 1 : Nat) : Int) - 1 := by
  have e : (((b - a : Nat) : Int) - 1).tdiv 2 = (((b - a - 1) / 2 + 1 : Nat) : Int) - 1 := by
   by_cases h : b - a = 0
   ·rw [h]; decide
   ·rw [Int.tdiv_eq_ediv_of_nonneg (by omega)]; omega
  rw [e]; exact wrapI (by omega) (by omega)
 have nz : ¬ (2 : Int) = 0 := by decide
 refine enter (p := q0) Tryz.func111 rfl stat111 ?_
 simp only [go_sem, seval, if_pos rfl, opLen, undef, sliceS, Tryz.f111, w1, w2, w3, nz]
 refine loop_then (hp_build (s := s) (n := d.size) (cap := cap) (G := G) hc (first := a) (hi := b - a) (by omega) hsm (D := Sort.heapBuild lt (b - a) a ((b - a - 1) / 2 + 1) d) ((b - a - 1) / 2 + 1) _ _ ⟨_, d, rfl, ⟨rfl, rfl, rfl, rfl, rfl, rfl⟩, rfl, by omega, H, rfl, rfl⟩) ?_
 intro x fr' σ1 lg1 hlg1 hB1 h
 obtain ⟨rfl, ts, rfl, F, H1, hs1⟩ := h
 have e0 := F.t0
 have e3 := F.t3
 have e8 := F.t8
 have e9 := F.t9
 have e10 := F.t10
 have el := F.size
 simp only [go_sem, seval, if_pos rfl, opLen, undef, e0, e3, e8, e9, e10, el, w2]
 refine loop_then (hp_pop (s := s) (n := d.size) (cap := cap) (G := G) hc (first := a) (hi := b - a) (by omega) hsm (D := Sort.heapSort lt d a b) (b - a) _ _ ⟨_, _, rfl, ⟨by simp only [List.length_set, el], by simp only [go_sem, seval, if_pos rfl, opLen, el, e0], by simp only [go_sem, seval, if_pos rfl, opLen, el, e3], by simp only [go_sem, seval, if_pos rfl, opLen, el, e8], by simp only [go_sem, seval, if_pos rfl, opLen, el, e9], by simp only [go_sem, seval, if_pos rfl, opLen, el, e10]⟩, by simp only [go_sem, seval, if_pos rfl, opLen, el], Nat.le_refl _, H1, hs1, rfl⟩) ?_
 intro x fr' σ2 lg2 hlg2 hB2 h
 obtain ⟨rfl, hds, H2⟩ := h
 obtain ⟨ts', ds'⟩ := fr'
 simp only at hds
 subst hds
 simp only [go_sem, seval, if_pos rfl, opLen]
 exact ⟨fun z hz => (List.mem_append.1 hz).elim (hB1 z) (hB2 z), H2⟩
end
end Go.Ab
namespace Go.Ab
open Go.Proofs
structure FP (sz ti tj : Nat) (ts : List Value) (dv cv : Value) (a i j : Nat) : Prop where
 size : ts.length = sz
 t0 : lget ts 0 = dv
 t1 : lget ts 1 = .int .i64 a
 t4 : lget ts 4 = cv
 ti : lget ts ti = .int .i64 i
 tj : lget ts tj = .int .i64 j
def IScan (sz ti tj : Nat) (dv cv : Value) (a : Nat) (σs : St) (Q : Nat → Nat → Nat → Prop) (m : Nat) (fr : Fr) (σ : St) : Prop :=
 ∃ ts, ∃ i j : Nat, fr = ⟨ts, []⟩ ∧ FP sz ti tj ts dv cv a i j ∧ σ = σs ∧ Q m i j
def EScan (ex sz ti tj : Nat) (dv cv : Value) (a : Nat) (σs : St) (i j : Nat) (x : AX) (fr : Fr) (σ : St) : Prop :=
 x = .exit ex ∧ σ = σs ∧ ∃ ts, fr = ⟨ts, []⟩ ∧ FP sz ti tj ts dv cv a i j
section
variable {σ0 : St} {k s cap : Nat} {g : FuncId} {ys : List Value} {lt : Pk → Pk → Bool} {p : Pk → Prop} {G : List Value}
noncomputable def pu1B : Code := loopOf (nthC 3 (Tryz.f117.body.getD .skip))
set_option maxHeartbeats 1600000 in
set_option maxRecDepth 20000 in
theorem pu1 (hc : CmpOk σ0 k g ys lt p) {d : Array Pk} {σs : St} (H : SAt σ0 k d G p σs) {a j I : Nat} (ha : a < d.size) (hj : j < d.size) :
  ∀ m fr σ, IScan 178 12 13 (sliceS k s d.size cap) (.func (.func g) ⟨[]⟩ ⟨ys⟩) a σs (fun m i' j' => j' = j ∧ m = j + 1 - i' ∧ Sort.scanUp (fun x => lt x d[a]!) d j i' = I) m fr σ →
   loopX Tryz.prog false pu1B fr σ (endL (EScan 0 178 12 13 (sliceS k s d.size cap) (.func (.func g) ⟨[]⟩ ⟨ys⟩) a σs I j) fun _ => False) := by
 refine loop_ind q0 117 (by kernel_rfl) _ _ _ ?_
 rintro m fr σ ⟨ts, i, j, rfl, F, rfl, hQ⟩
 obtain ⟨rfl, hm, hI⟩ := hQ
 have e0 := F.t0
 have e1 := F.t1
 have e4 := F.t4
 have ei := F.ti
 have ej := F.tj
 have el := F.size
 have hsm := H.small
 simp only [sliceS] at e0
 by_cases hij : i ≤ j
 ·have c0 : (i : Int) ≤ (j : Int) := by omega
  obtain ⟨r, hd, hr⟩ := hc.call σ H.base d[i]! d[a]! (H.all _ (by omega)) (H.all _ ha)
  have hb := hc.body
  have g1 := H.get
  have x1 := arr_at (d := d) (G := G) (i := i) (by omega)
  have x2 := arr_at (d := d) (G := G) (i := a) ha
  have l1 : i * 3 + 3 ≤ (cellsP d.toList ++ G).length := by rw [arr_len]; omega
  have l2 : a * 3 + 3 ≤ (cellsP d.toList ++ G).length := by rw [arr_len]; omega
  have c1 : (0 : Int) ≤ (i : Int) := by omega
  have c2 : (i : Int) < (d.size : Int) := by omega
  have c3 : (0 : Int) ≤ (a : Int) := by omega
  have c4 : (a : Int) < (d.size : Int) := by omega
  have w1 : IntKind.i64.wrap ((i : Int) + 1) = ((i + 1 : Nat) : Int) := by
   have : (i : Int) + 1 = ((i + 1 : Nat) : Int) := by omega
   rw [this]; exact wrapIN (by omega)
  have nk : ¬ σ.next ≤ k := by have := H.lt; have := H.base.nx; omega
  simp only [Pk.cells] at x1 x2
  by_cases hr0 : r < 0
  ·simp only [go_sem, seval, if_pos rfl, opLen, undef, pu1B, blockOf, nthC, dropC, loopOf, Tryz.f117, Option.getD, Int.toNat_natCast, e0, e1, e4, ei, ej, el, g1, hb, x1, x2, l1, l2, c0, c1, c2, c3, c4, w1, nk]
   refine .of hd ?_
   simp only [go_sem, seval, if_pos rfl, opLen, undef, pu1B, blockOf, nthC, dropC, loopOf, Tryz.f117, Option.getD, Int.toNat_natCast, e0, e1, e4, ei, ej, el, g1, hb, x1, x2, l1, l2, c0, c1, c2, c3, c4, w1, nk, hr0]
   have hlt : lt d[i]! d[a]! = true := by rw [← hr]; simp [hr0]
   refine ⟨j + 1 - (i + 1), by omega, _, i + 1, j, rfl, ⟨by simp only [List.length_set, el], by simp only [go_sem, seval, if_pos rfl, opLen, el, e0] <;> rfl, by simp only [go_sem, seval, if_pos rfl, opLen, el, e1], by simp only [go_sem, seval, if_pos rfl, opLen, el, e4], by simp only [go_sem, seval, if_pos rfl, opLen, el], by simp only [go_sem, seval, if_pos rfl, opLen, el, ej]⟩, rfl, rfl, rfl, ?_⟩
   rw [← hI, Sort.scanUp.eq_def (fun x => lt x d[a]!) d j i, if_pos (by simp [hlt, hij])]
  ·simp only [go_sem, seval, if_pos rfl, opLen, undef, pu1B, blockOf, nthC, dropC, loopOf, Tryz.f117, Option.getD, Int.toNat_natCast, e0, e1, e4, ei, ej, el, g1, hb, x1, x2, l1, l2, c0, c1, c2, c3, c4, w1, nk]
   refine .of hd ?_
   simp only [go_sem, seval, if_pos rfl, opLen, undef, pu1B, blockOf, nthC, dropC, loopOf, Tryz.f117, Option.getD, Int.toNat_natCast, e0, e1, e4, ei, ej, el, g1, hb, x1, x2, l1, l2, c0, c1, c2, c3, c4, w1, nk, hr0]
   have hlt : lt d[i]! d[a]! = false := by rw [← hr]; simp [hr0]
   have hIi : I = i := by rw [← hI, Sort.scanUp.eq_def (fun x => lt x d[a]!) d j i, if_neg (by simp [hlt])]
   subst hIi
   exact ⟨rfl, rfl, _, rfl, ⟨by simp only [List.length_set, el], by simp only [go_sem, seval, if_pos rfl, opLen, el, e0] <;> rfl, by simp only [go_sem, seval, if_pos rfl, opLen, el, e1], by simp only [go_sem, seval, if_pos rfl, opLen, el, e4], by simp only [go_sem, seval, if_pos rfl, opLen, el, ei], by simp only [go_sem, seval, if_pos rfl, opLen, el, ej]⟩⟩
 ·have c0 : ¬ (i : Int) ≤ (j : Int) := by omega
  simp only [go_sem, seval, if_pos rfl, opLen, undef, pu1B, blockOf, nthC, dropC, loopOf, Tryz.f117, Option.getD, Int.toNat_natCast, e0, e1, e4, ei, ej, el, c0]
  have hIi : I = i := by rw [← hI, Sort.scanUp.eq_def (fun x => lt x d[a]!) d j i, if_neg (by simp; intro h; omega)]
  subst hIi
  exact ⟨rfl, rfl, _, rfl, ⟨by simp only [List.length_set, el], by simp only [go_sem, seval, if_pos rfl, opLen, el, e0] <;> rfl, by simp only [go_sem, seval, if_pos rfl, opLen, el, e1], by simp only [go_sem, seval, if_pos rfl, opLen, el, e4], by simp only [go_sem, seval, if_pos rfl, opLen, el, ei], by simp only [go_sem, seval, if_pos rfl, opLen, el, ej]⟩⟩
noncomputable def pd1B : Code := loopOf (nthC 4 (Tryz.f117.body.getD .skip))
set_option maxHeartbeats 1600000 in
set_option maxRecDepth 20000 in
theorem pd1 (hc : CmpOk σ0 k g ys lt p) {d : Array Pk} {σs : St} (H : SAt σ0 k d G p σs) {a i I : Nat} (ha : a < d.size) (hi0 : 0 < i) :
  ∀ m fr σ, IScan 178 12 13 (sliceS k s d.size cap) (.func (.func g) ⟨[]⟩ ⟨ys⟩) a σs (fun m i' j' => i' = i ∧ m = j' ∧ j' < d.size ∧ Sort.scanDown (fun x => !lt x d[a]!) d i j' = I) m fr σ →
   loopX Tryz.prog false pd1B fr σ (endL (EScan 2 178 12 13 (sliceS k s d.size cap) (.func (.func g) ⟨[]⟩ ⟨ys⟩) a σs i I) fun _ => False) := by
 refine loop_ind q0 117 (by kernel_rfl) _ _ _ ?_
 rintro m fr σ ⟨ts, i, j, rfl, F, rfl, hQ⟩
 obtain ⟨rfl, hm, hjn, hI⟩ := hQ
 have e0 := F.t0
 have e1 := F.t1
 have e4 := F.t4
 have ei := F.ti
 have ej := F.tj
 have el := F.size
 have hsm := H.small
 simp only [sliceS] at e0
 by_cases hij : i ≤ j
 ·have c0 : (i : Int) ≤ (j : Int) := by omega
  obtain ⟨r, hd, hr⟩ := hc.call σ H.base d[j]! d[a]! (H.all _ (by omega)) (H.all _ ha)
  have hb := hc.body
  have g1 := H.get
  have x1 := arr_at (d := d) (G := G) (i := j) (by omega)
  have x2 := arr_at (d := d) (G := G) (i := a) ha
  have l1 : j * 3 + 3 ≤ (cellsP d.toList ++ G).length := by rw [arr_len]; omega
  have l2 : a * 3 + 3 ≤ (cellsP d.toList ++ G).length := by rw [arr_len]; omega
  have c1 : (0 : Int) ≤ (j : Int) := by omega
  have c2 : (j : Int) < (d.size : Int) := by omega
  have c3 : (0 : Int) ≤ (a : Int) := by omega
  have c4 : (a : Int) < (d.size : Int) := by omega
  have w1 : IntKind.i64.wrap ((j : Int) - 1) = ((j - 1 : Nat) : Int) := by
   have : (j : Int) - 1 = ((j - 1 : Nat) : Int) := by omega
   rw [this]; exact wrapIN (by omega)
  have nk : ¬ σ.next ≤ k := by have := H.lt; have := H.base.nx; omega
  simp only [Pk.cells] at x1 x2
  by_cases hr0 : r < 0
  ·simp only [go_sem, seval, if_pos rfl, opLen, undef, pd1B, blockOf, nthC, dropC, loopOf, Tryz.f117, Option.getD, Int.toNat_natCast, e0, e1, e4, ei, ej, el, g1, hb, x1, x2, l1, l2, c0, c1, c2, c3, c4, w1, nk]
   refine .of hd ?_
   simp only [go_sem, seval, if_pos rfl, opLen, undef, pd1B, blockOf, nthC, dropC, loopOf, Tryz.f117, Option.getD, Int.toNat_natCast, e0, e1, e4, ei, ej, el, g1, hb, x1, x2, l1, l2, c0, c1, c2, c3, c4, w1, nk, hr0]
   have hlt : lt d[j]! d[a]! = true := by rw [← hr]; simp [hr0]
   have hIj : I = j := by
    rw [← hI]
    cases j with
    | zero => rfl
    | succ j' =>
     simp only [Sort.scanDown]
     rw [if_neg (by simp [hlt])]
   subst hIj
   exact ⟨rfl, rfl, _, rfl, ⟨by simp only [List.length_set, el], by simp only [go_sem, seval, if_pos rfl, opLen, el, e0] <;> rfl, by simp only [go_sem, seval, if_pos rfl, opLen, el, e1], by simp only [go_sem, seval, if_pos rfl, opLen, el, e4], by simp only [go_sem, seval, if_pos rfl, opLen, el, ei], by simp only [go_sem, seval, if_pos rfl, opLen, el, ej]⟩⟩
  ·simp only [go_sem, seval, if_pos rfl, opLen, undef, pd1B, blockOf, nthC, dropC, loopOf, Tryz.f117, Option.getD, Int.toNat_natCast, e0, e1, e4, ei, ej, el, g1, hb, x1, x2, l1, l2, c0, c1, c2, c3, c4, w1, nk]
   refine .of hd ?_
   simp only [go_sem, seval, if_pos rfl, opLen, undef, pd1B, blockOf, nthC, dropC, loopOf, Tryz.f117, Option.getD, Int.toNat_natCast, e0, e1, e4, ei, ej, el, g1, hb, x1, x2, l1, l2, c0, c1, c2, c3, c4, w1, nk, hr0]
   have hlt : lt d[j]! d[a]! = false := by rw [← hr]; simp [hr0]
   obtain ⟨j', rfl⟩ : ∃ j', j = j' + 1 := ⟨j - 1, by omega⟩
   refine ⟨j', by omega, _, i, j', rfl, ⟨by simp only [List.length_set, el], by simp only [go_sem, seval, if_pos rfl, opLen, el, e0] <;> rfl, by simp only [go_sem, seval, if_pos rfl, opLen, el, e1], by simp only [go_sem, seval, if_pos rfl, opLen, el, e4], by simp only [go_sem, seval, if_pos rfl, opLen, el, ei], by simp only [go_sem, seval, if_pos rfl, opLen, el] <;> rfl⟩, rfl, rfl, rfl, by omega, ?_⟩
   rw [← hI]
   simp only [Sort.scanDown]
   rw [if_pos (by simp [hlt, hij])]
 ·have c0 : ¬ (i : Int) ≤ (j : Int) := by omega
  simp only [go_sem, seval, if_pos rfl, opLen, undef, pd1B, blockOf, nthC, dropC, loopOf, Tryz.f117, Option.getD, Int.toNat_natCast, e0, e1, e4, ei, ej, el, c0]
  have hIj : I = j := by
   rw [← hI]
   cases j with
   | zero => rfl
   | succ j' =>
    simp only [Sort.scanDown]
    rw [if_neg (by simp; intro h; omega)]
  subst hIj
  exact ⟨rfl, rfl, _, rfl, ⟨by simp only [List.length_set, el], by simp only [go_sem, seval, if_pos rfl, opLen, el, e0] <;> rfl, by simp only [go_sem, seval, if_pos rfl, opLen, el, e1], by simp only [go_sem, seval, if_pos rfl, opLen, el, e4], by simp only [go_sem, seval, if_pos rfl, opLen, el, ei], by simp only [go_sem, seval, if_pos rfl, opLen, el, ej]⟩⟩
noncomputable def pu2B : Code := loopOf (nthC 0 (blockOf (loopOf (nthC 9 (Tryz.f117.body.getD .skip)))))
set_option maxHeartbeats 1600000 in
set_option maxRecDepth 20000 in
theorem pu2 (hc : CmpOk σ0 k g ys lt p) {d : Array Pk} {σs : St} (H : SAt σ0 k d G p σs) {a j I : Nat} (ha : a < d.size) (hj : j < d.size) :
  ∀ m fr σ, IScan 178 12 13 (sliceS k s d.size cap) (.func (.func g) ⟨[]⟩ ⟨ys⟩) a σs (fun m i' j' => j' = j ∧ m = j + 1 - i' ∧ Sort.scanUp (fun x => lt x d[a]!) d j i' = I) m fr σ →
   loopX Tryz.prog false pu2B fr σ (endL (EScan 6 178 12 13 (sliceS k s d.size cap) (.func (.func g) ⟨[]⟩ ⟨ys⟩) a σs I j) fun _ => False) := by
 refine loop_ind q0 117 (by kernel_rfl) _ _ _ ?_
 rintro m fr σ ⟨ts, i, j, rfl, F, rfl, hQ⟩
 obtain ⟨rfl, hm, hI⟩ := hQ
 have e0 := F.t0
 have e1 := F.t1
 have e4 := F.t4
 have ei := F.ti
 have ej := F.tj
 have el := F.size
 have hsm := H.small
 simp only [sliceS] at e0
 by_cases hij : i ≤ j
 ·have c0 : (i : Int) ≤ (j : Int) := by omega
  obtain ⟨r, hd, hr⟩ := hc.call σ H.base d[i]! d[a]! (H.all _ (by omega)) (H.all _ ha)
  have hb := hc.body
  have g1 := H.get
  have x1 := arr_at (d := d) (G := G) (i := i) (by omega)
  have x2 := arr_at (d := d) (G := G) (i := a) ha
  have l1 : i * 3 + 3 ≤ (cellsP d.toList ++ G).length := by rw [arr_len]; omega
  have l2 : a * 3 + 3 ≤ (cellsP d.toList ++ G).length := by rw [arr_len]; omega
  have c1 : (0 : Int) ≤ (i : Int) := by omega
  have c2 : (i : Int) < (d.size : Int) := by omega
  have c3 : (0 : Int) ≤ (a : Int) := by omega
  have c4 : (a : Int) < (d.size : Int) := by omega
  have w1 : IntKind.i64.wrap ((i : Int) + 1) = ((i + 1 : Nat) : Int) := by
   have : (i : Int) + 1 = ((i + 1 : Nat) : Int) := by omega
   rw [this]; exact wrapIN (by omega)
  have nk : ¬ σ.next ≤ k := by have := H.lt; have := H.base.nx; omega
  simp only [Pk.cells] at x1 x2
  by_cases hr0 : r < 0
  ·simp only [go_sem, seval, if_pos rfl, opLen, undef, pu2B, blockOf, nthC, dropC, loopOf, Tryz.f117, Option.getD, Int.toNat_natCast, e0, e1, e4, ei, ej, el, g1, hb, x1, x2, l1, l2, c0, c1, c2, c3, c4, w1, nk]
   refine .of hd ?_
   simp only [go_sem, seval, if_pos rfl, opLen, undef, pu2B, blockOf, nthC, dropC, loopOf, Tryz.f117, Option.getD, Int.toNat_natCast, e0, e1, e4, ei, ej, el, g1, hb, x1, x2, l1, l2, c0, c1, c2, c3, c4, w1, nk, hr0]
   have hlt : lt d[i]! d[a]! = true := by rw [← hr]; simp [hr0]
   refine ⟨j + 1 - (i + 1), by omega, _, i + 1, j, rfl, ⟨by simp only [List.length_set, el], by simp only [go_sem, seval, if_pos rfl, opLen, el, e0] <;> rfl, by simp only [go_sem, seval, if_pos rfl, opLen, el, e1], by simp only [go_sem, seval, if_pos rfl, opLen, el, e4], by simp only [go_sem, seval, if_pos rfl, opLen, el], by simp only [go_sem, seval, if_pos rfl, opLen, el, ej]⟩, rfl, rfl, rfl, ?_⟩
   rw [← hI, Sort.scanUp.eq_def (fun x => lt x d[a]!) d j i, if_pos (by simp [hlt, hij])]
  ·simp only [go_sem, seval, if_pos rfl, opLen, undef, pu2B, blockOf, nthC, dropC, loopOf, Tryz.f117, Option.getD, Int.toNat_natCast, e0, e1, e4, ei, ej, el, g1, hb, x1, x2, l1, l2, c0, c1, c2, c3, c4, w1, nk]
   refine .of hd ?_
   simp only [go_sem, seval, if_pos rfl, opLen, undef, pu2B, blockOf, nthC, dropC, loopOf, Tryz.f117, Option.getD, Int.toNat_natCast, e0, e1, e4, ei, ej, el, g1, hb, x1, x2, l1, l2, c0, c1, c2, c3, c4, w1, nk, hr0]
   have hlt : lt d[i]! d[a]! = false := by rw [← hr]; simp [hr0]
   have hIi : I = i := by rw [← hI, Sort.scanUp.eq_def (fun x => lt x d[a]!) d j i, if_neg (by simp [hlt])]
   subst hIi
   exact ⟨rfl, rfl, _, rfl, ⟨by simp only [List.length_set, el], by simp only [go_sem, seval, if_pos rfl, opLen, el, e0] <;> rfl, by simp only [go_sem, seval, if_pos rfl, opLen, el, e1], by simp only [go_sem, seval, if_pos rfl, opLen, el, e4], by simp only [go_sem, seval, if_pos rfl, opLen, el, ei], by simp only [go_sem, seval, if_pos rfl, opLen, el, ej]⟩⟩
 ·have c0 : ¬ (i : Int) ≤ (j : Int) := by omega
  simp only [go_sem, seval, if_pos rfl, opLen, undef, pu2B, blockOf, nthC, dropC, loopOf, Tryz.f117, Option.getD, Int.toNat_natCast, e0, e1, e4, ei, ej, el, c0]
  have hIi : I = i := by rw [← hI, Sort.scanUp.eq_def (fun x => lt x d[a]!) d j i, if_neg (by simp; intro h; omega)]
  subst hIi
  exact ⟨rfl, rfl, _, rfl, ⟨by simp only [List.length_set, el], by simp only [go_sem, seval, if_pos rfl, opLen, el, e0] <;> rfl, by simp only [go_sem, seval, if_pos rfl, opLen, el, e1], by simp only [go_sem, seval, if_pos rfl, opLen, el, e4], by simp only [go_sem, seval, if_pos rfl, opLen, el, ei], by simp only [go_sem, seval, if_pos rfl, opLen, el, ej]⟩⟩
noncomputable def pd2B : Code := loopOf (nthC 1 (blockOf (loopOf (nthC 9 (Tryz.f117.body.getD .skip)))))
set_option maxHeartbeats 1600000 in
set_option maxRecDepth 20000 in
theorem pd2 (hc : CmpOk σ0 k g ys lt p) {d : Array Pk} {σs : St} (H : SAt σ0 k d G p σs) {a i I : Nat} (ha : a < d.size) (hi0 : 0 < i) :
  ∀ m fr σ, IScan 178 12 13 (sliceS k s d.size cap) (.func (.func g) ⟨[]⟩ ⟨ys⟩) a σs (fun m i' j' => i' = i ∧ m = j' ∧ j' < d.size ∧ Sort.scanDown (fun x => !lt x d[a]!) d i j' = I) m fr σ →
   loopX Tryz.prog false pd2B fr σ (endL (EScan 8 178 12 13 (sliceS k s d.size cap) (.func (.func g) ⟨[]⟩ ⟨ys⟩) a σs i I) fun _ => False) := by
 refine loop_ind q0 117 (by kernel_rfl) _ _ _ ?_
 rintro m fr σ ⟨ts, i, j, rfl, F, rfl, hQ⟩
 obtain ⟨rfl, hm, hjn, hI⟩ := hQ
 have e0 := F.t0
 have e1 := F.t1
 have e4 := F.t4
 have ei := F.ti
 have ej := F.tj
 have el := F.size
 have hsm := H.small
 simp only [sliceS] at e0
 by_cases hij : i ≤ j
 ·have c0 : (i : Int) ≤ (j : Int) := by omega
  obtain ⟨r, hd, hr⟩ := hc.call σ H.base d[j]! d[a]! (H.all _ (by omega)) (H.all _ ha)
  have hb := hc.body
  have g1 := H.get
  have x1 := arr_at (d := d) (G := G) (i := j) (by omega)
  have x2 := arr_at (d := d) (G := G) (i := a) ha
  have l1 : j * 3 + 3 ≤ (cellsP d.toList ++ G).length := by rw [arr_len]; omega
  have l2 : a * 3 + 3 ≤ (cellsP d.toList ++ G).length := by rw [arr_len]; omega
  have c1 : (0 : Int) ≤ (j : Int) := by omega
  have c2 : (j : Int) < (d.size : Int) := by omega
  have c3 : (0 : Int) ≤ (a : Int) := by omega
  have c4 : (a : Int) < (d.size : Int) := by omega
  have w1 : IntKind.i64.wrap ((j : Int) - 1) = ((j - 1 : Nat) : Int) := by
   have : (j : Int) - 1 = ((j - 1 : Nat) : Int) := by omega
   rw [this]; exact wrapIN (by omega)
  have nk : ¬ σ.next ≤ k := by have := H.lt; have := H.base.nx; omega
  simp only [Pk.cells] at x1 x2
  by_cases hr0 : r < 0
  ·simp only [go_sem, seval, if_pos rfl, opLen, undef, pd2B, blockOf, nthC, dropC, loopOf, Tryz.f117, Option.getD, Int.toNat_natCast, e0, e1, e4, ei, ej, el, g1, hb, x1, x2, l1, l2, c0, c1, c2, c3, c4, w1, nk]
   refine .of hd ?_
   simp only [go_sem, seval, if_pos rfl, opLen, undef, pd2B, blockOf, nthC, dropC, loopOf, Tryz.f117, Option.getD, Int.toNat_natCast, e0, e1, e4, ei, ej, el, g1, hb, x1, x2, l1, l2, c0, c1, c2, c3, c4, w1, nk, hr0]
   have hlt : lt d[j]! d[a]! = true := by rw [← hr]; simp [hr0]
   have hIj : I = j := by
    rw [← hI]
    cases j with
    | zero => rfl
    | succ j' =>
     simp only [Sort.scanDown]
     rw [if_neg (by simp [hlt])]
   subst hIj
   exact ⟨rfl, rfl, _, rfl, ⟨by simp only [List.length_set, el], by simp only [go_sem, seval, if_pos rfl, opLen, el, e0] <;> rfl, by simp only [go_sem, seval, if_pos rfl, opLen, el, e1], by simp only [go_sem, seval, if_pos rfl, opLen, el, e4], by simp only [go_sem, seval, if_pos rfl, opLen, el, ei], by simp only [go_sem, seval, if_pos rfl, opLen, el, ej]⟩⟩
  ·simp only [go_sem, seval, if_pos rfl, opLen, undef, pd2B, blockOf, nthC, dropC, loopOf, Tryz.f117, Option.getD, Int.toNat_natCast, e0, e1, e4, ei, ej, el, g1, hb, x1, x2, l1, l2, c0, c1, c2, c3, c4, w1, nk]
   refine .of hd ?_
   simp only [go_sem, seval, if_pos rfl, opLen, undef, pd2B, blockOf, nthC, dropC, loopOf, Tryz.f117, Option.getD, Int.toNat_natCast, e0, e1, e4, ei, ej, el, g1, hb, x1, x2, l1, l2, c0, c1, c2, c3, c4, w1, nk, hr0]
   have hlt : lt d[j]! d[a]! = false := by rw [← hr]; simp [hr0]
   obtain ⟨j', rfl⟩ : ∃ j', j = j' + 1 := ⟨j - 1, by omega⟩
   refine ⟨j', by omega, _, i, j', rfl, ⟨by simp only [List.length_set, el], by simp only [go_sem, seval, if_pos rfl, opLen, el, e0] <;> rfl, by simp only [go_sem, seval, if_pos rfl, opLen, el, e1], by simp only [go_sem, seval, if_pos rfl, opLen, el, e4], by simp only [go_sem, seval, if_pos rfl, opLen, el, ei], by simp only [go_sem, seval, if_pos rfl, opLen, el] <;> rfl⟩, rfl, rfl, rfl, by omega, ?_⟩
   rw [← hI]
   simp only [Sort.scanDown]
   rw [if_pos (by simp [hlt, hij])]
 ·have c0 : ¬ (i : Int) ≤ (j : Int) := by omega
  simp only [go_sem, seval, if_pos rfl, opLen, undef, pd2B, blockOf, nthC, dropC, loopOf, Tryz.f117, Option.getD, Int.toNat_natCast, e0, e1, e4, ei, ej, el, c0]
  have hIj : I = j := by
   rw [← hI]
   cases j with
   | zero => rfl
   | succ j' =>
    simp only [Sort.scanDown]
    rw [if_neg (by simp; intro h; omega)]
  subst hIj
  exact ⟨rfl, rfl, _, rfl, ⟨by simp only [List.length_set, el], by simp only [go_sem, seval, if_pos rfl, opLen, el, e0] <;> rfl, by simp only [go_sem, seval, if_pos rfl, opLen, el, e1], by simp only [go_sem, seval, if_pos rfl, opLen, el, e4], by simp only [go_sem, seval, if_pos rfl, opLen, el, ei], by simp only [go_sem, seval, if_pos rfl, opLen, el, ej]⟩⟩
noncomputable def euB : Code := loopOf (nthC 0 (blockOf (loopOf (nthC 3 (Tryz.f116.body.getD .skip)))))
set_option maxHeartbeats 1600000 in
set_option maxRecDepth 20000 in
theorem eu (hc : CmpOk σ0 k g ys lt p) {d : Array Pk} {σs : St} (H : SAt σ0 k d G p σs) {a j I : Nat} (ha : a < d.size) (hj : j < d.size) :
  ∀ m fr σ, IScan 90 11 12 (sliceS k s d.size cap) (.func (.func g) ⟨[]⟩ ⟨ys⟩) a σs (fun m i' j' => j' = j ∧ m = j + 1 - i' ∧ Sort.scanUp (fun x => !lt d[a]! x) d j i' = I) m fr σ →
   loopX Tryz.prog false euB fr σ (endL (EScan 2 90 11 12 (sliceS k s d.size cap) (.func (.func g) ⟨[]⟩ ⟨ys⟩) a σs I j) fun _ => False) := by
 refine loop_ind q0 116 (by kernel_rfl) _ _ _ ?_
 rintro m fr σ ⟨ts, i, j, rfl, F, rfl, hQ⟩
 obtain ⟨rfl, hm, hI⟩ := hQ
 have e0 := F.t0
 have e1 := F.t1
 have e4 := F.t4
 have ei := F.ti
 have ej := F.tj
 have el := F.size
 have hsm := H.small
 simp only [sliceS] at e0
 by_cases hij : i ≤ j
 ·have c0 : (i : Int) ≤ (j : Int) := by omega
  obtain ⟨r, hd, hr⟩ := hc.call σ H.base d[a]! d[i]! (H.all _ ha) (H.all _ (by omega))
  have hb := hc.body
  have g1 := H.get
  have x1 := arr_at (d := d) (G := G) (i := i) (by omega)
  have x2 := arr_at (d := d) (G := G) (i := a) ha
  have l1 : i * 3 + 3 ≤ (cellsP d.toList ++ G).length := by rw [arr_len]; omega
  have l2 : a * 3 + 3 ≤ (cellsP d.toList ++ G).length := by rw [arr_len]; omega
  have c1 : (0 : Int) ≤ (i : Int) := by omega
  have c2 : (i : Int) < (d.size : Int) := by omega
  have c3 : (0 : Int) ≤ (a : Int) := by omega
  have c4 : (a : Int) < (d.size : Int) := by omega
  have w1 : IntKind.i64.wrap ((i : Int) + 1) = ((i + 1 : Nat) : Int) := by
   have : (i : Int) + 1 = ((i + 1 : Nat) : Int) := by omega
   rw [this]; exact wrapIN (by omega)
  have nk : ¬ σ.next ≤ k := by have := H.lt; have := H.base.nx; omega
  simp only [Pk.cells] at x1 x2
  by_cases hr0 : r < 0
  ·simp only [go_sem, seval, if_pos rfl, opLen, undef, euB, blockOf, nthC, dropC, loopOf, Tryz.f116, Option.getD, Int.toNat_natCast, e0, e1, e4, ei, ej, el, g1, hb, x1, x2, l1, l2, c0, c1, c2, c3, c4, w1, nk]
   refine .of hd ?_
   simp only [go_sem, seval, if_pos rfl, opLen, undef, euB, blockOf, nthC, dropC, loopOf, Tryz.f116, Option.getD, Int.toNat_natCast, e0, e1, e4, ei, ej, el, g1, hb, x1, x2, l1, l2, c0, c1, c2, c3, c4, w1, nk, hr0]
   have hlt : lt d[a]! d[i]! = true := by rw [← hr]; simp [hr0]
   have hIi : I = i := by rw [← hI, Sort.scanUp.eq_def (fun x => !lt d[a]! x) d j i, if_neg (by simp [hlt])]
   subst hIi
   exact ⟨rfl, rfl, _, rfl, ⟨by simp only [List.length_set, el], by simp only [go_sem, seval, if_pos rfl, opLen, el, e0] <;> rfl, by simp only [go_sem, seval, if_pos rfl, opLen, el, e1], by simp only [go_sem, seval, if_pos rfl, opLen, el, e4], by simp only [go_sem, seval, if_pos rfl, opLen, el, ei], by simp only [go_sem, seval, if_pos rfl, opLen, el, ej]⟩⟩
  ·simp only [go_sem, seval, if_pos rfl, opLen, undef, euB, blockOf, nthC, dropC, loopOf, Tryz.f116, Option.getD, Int.toNat_natCast, e0, e1, e4, ei, ej, el, g1, hb, x1, x2, l1, l2, c0, c1, c2, c3, c4, w1, nk]
   refine .of hd ?_
   simp only [go_sem, seval, if_pos rfl, opLen, undef, euB, blockOf, nthC, dropC, loopOf, Tryz.f116, Option.getD, Int.toNat_natCast, e0, e1, e4, ei, ej, el, g1, hb, x1, x2, l1, l2, c0, c1, c2, c3, c4, w1, nk, hr0]
   have hlt : lt d[a]! d[i]! = false := by rw [← hr]; simp [hr0]
   refine ⟨j + 1 - (i + 1), by omega, _, i + 1, j, rfl, ⟨by simp only [List.length_set, el], by simp only [go_sem, seval, if_pos rfl, opLen, el, e0] <;> rfl, by simp only [go_sem, seval, if_pos rfl, opLen, el, e1], by simp only [go_sem, seval, if_pos rfl, opLen, el, e4], by simp only [go_sem, seval, if_pos rfl, opLen, el], by simp only [go_sem, seval, if_pos rfl, opLen, el, ej]⟩, rfl, rfl, rfl, ?_⟩
   rw [← hI, Sort.scanUp.eq_def (fun x => !lt d[a]! x) d j i, if_pos (by simp [hlt, hij])]
 ·have c0 : ¬ (i : Int) ≤ (j : Int) := by omega
  simp only [go_sem, seval, if_pos rfl, opLen, undef, euB, blockOf, nthC, dropC, loopOf, Tryz.f116, Option.getD, Int.toNat_natCast, e0, e1, e4, ei, ej, el, c0]
  have hIi : I = i := by rw [← hI, Sort.scanUp.eq_def (fun x => !lt d[a]! x) d j i, if_neg (by simp; intro h; omega)]
  subst hIi
  exact ⟨rfl, rfl, _, rfl, ⟨by simp only [List.length_set, el], by simp only [go_sem, seval, if_pos rfl, opLen, el, e0] <;> rfl, by simp only [go_sem, seval, if_pos rfl, opLen, el, e1], by simp only [go_sem, seval, if_pos rfl, opLen, el, e4], by simp only [go_sem, seval, if_pos rfl, opLen, el, ei], by simp only [go_sem, seval, if_pos rfl, opLen, el, ej]⟩⟩
noncomputable def edB : Code := loopOf (nthC 1 (blockOf (loopOf (nthC 3 (Tryz.f116.body.getD .skip)))))
set_option maxHeartbeats 1600000 in
set_option maxRecDepth 20000 in
theorem ed (hc : CmpOk σ0 k g ys lt p) {d : Array Pk} {σs : St} (H : SAt σ0 k d G p σs) {a i I : Nat} (ha : a < d.size) (hi0 : 0 < i) :
  ∀ m fr σ, IScan 90 11 12 (sliceS k s d.size cap) (.func (.func g) ⟨[]⟩ ⟨ys⟩) a σs (fun m i' j' => i' = i ∧ m = j' ∧ j' < d.size ∧ Sort.scanDown (fun x => lt d[a]! x) d i j' = I) m fr σ →
   loopX Tryz.prog false edB fr σ (endL (EScan 4 90 11 12 (sliceS k s d.size cap) (.func (.func g) ⟨[]⟩ ⟨ys⟩) a σs i I) fun _ => False) := by
 refine loop_ind q0 116 (by kernel_rfl) _ _ _ ?_
 rintro m fr σ ⟨ts, i, j, rfl, F, rfl, hQ⟩
 obtain ⟨rfl, hm, hjn, hI⟩ := hQ
 have e0 := F.t0
 have e1 := F.t1
 have e4 := F.t4
 have ei := F.ti
 have ej := F.tj
 have el := F.size
 have hsm := H.small
 simp only [sliceS] at e0
 by_cases hij : i ≤ j
 ·have c0 : (i : Int) ≤ (j : Int) := by omega
  obtain ⟨r, hd, hr⟩ := hc.call σ H.base d[a]! d[j]! (H.all _ ha) (H.all _ (by omega))
  have hb := hc.body
  have g1 := H.get
  have x1 := arr_at (d := d) (G := G) (i := j) (by omega)
  have x2 := arr_at (d := d) (G := G) (i := a) ha
  have l1 : j * 3 + 3 ≤ (cellsP d.toList ++ G).length := by rw [arr_len]; omega
  have l2 : a * 3 + 3 ≤ (cellsP d.toList ++ G).length := by rw [arr_len]; omega
  have c1 : (0 : Int) ≤ (j : Int) := by omega
  have c2 : (j : Int) < (d.size : Int) := by omega
  have c3 : (0 : Int) ≤ (a : Int) := by omega
  have c4 : (a : Int) < (d.size : Int) := by omega
  have w1 : IntKind.i64.wrap ((j : Int) - 1) = ((j - 1 : Nat) : Int) := by
   have : (j : Int) - 1 = ((j - 1 : Nat) : Int) := by omega
   rw [this]; exact wrapIN (by omega)
  have nk : ¬ σ.next ≤ k := by have := H.lt; have := H.base.nx; omega
  simp only [Pk.cells] at x1 x2
  by_cases hr0 : r < 0
  ·simp only [go_sem, seval, if_pos rfl, opLen, undef, edB, blockOf, nthC, dropC, loopOf, Tryz.f116, Option.getD, Int.toNat_natCast, e0, e1, e4, ei, ej, el, g1, hb, x1, x2, l1, l2, c0, c1, c2, c3, c4, w1, nk]
   refine .of hd ?_
   simp only [go_sem, seval, if_pos rfl, opLen, undef, edB, blockOf, nthC, dropC, loopOf, Tryz.f116, Option.getD, Int.toNat_natCast, e0, e1, e4, ei, ej, el, g1, hb, x1, x2, l1, l2, c0, c1, c2, c3, c4, w1, nk, hr0]
   have hlt : lt d[a]! d[j]! = true := by rw [← hr]; simp [hr0]
   obtain ⟨j', rfl⟩ : ∃ j', j = j' + 1 := ⟨j - 1, by omega⟩
   refine ⟨j', by omega, _, i, j', rfl, ⟨by simp only [List.length_set, el], by simp only [go_sem, seval, if_pos rfl, opLen, el, e0] <;> rfl, by simp only [go_sem, seval, if_pos rfl, opLen, el, e1], by simp only [go_sem, seval, if_pos rfl, opLen, el, e4], by simp only [go_sem, seval, if_pos rfl, opLen, el, ei], by simp only [go_sem, seval, if_pos rfl, opLen, el] <;> rfl⟩, rfl, rfl, rfl, by omega, ?_⟩
   rw [← hI]
   simp only [Sort.scanDown]
   rw [if_pos (by simp [hlt, hij])]
  ·simp only [go_sem, seval, if_pos rfl, opLen, undef, edB, blockOf, nthC, dropC, loopOf, Tryz.f116, Option.getD, Int.toNat_natCast, e0, e1, e4, ei, ej, el, g1, hb, x1, x2, l1, l2, c0, c1, c2, c3, c4, w1, nk]
   refine .of hd ?_
   simp only [go_sem, seval, if_pos rfl, opLen, undef, edB, blockOf, nthC, dropC, loopOf, Tryz.f116, Option.getD, Int.toNat_natCast, e0, e1, e4, ei, ej, el, g1, hb, x1, x2, l1, l2, c0, c1, c2, c3, c4, w1, nk, hr0]
   have hlt : lt d[a]! d[j]! = false := by rw [← hr]; simp [hr0]
   have hIj : I = j := by
    rw [← hI]
    cases j with
    | zero => rfl
    | succ j' =>
     simp only [Sort.scanDown]
     rw [if_neg (by simp [hlt])]
   subst hIj
   exact ⟨rfl, rfl, _, rfl, ⟨by simp only [List.length_set, el], by simp only [go_sem, seval, if_pos rfl, opLen, el, e0] <;> rfl, by simp only [go_sem, seval, if_pos rfl, opLen, el, e1], by simp only [go_sem, seval, if_pos rfl, opLen, el, e4], by simp only [go_sem, seval, if_pos rfl, opLen, el, ei], by simp only [go_sem, seval, if_pos rfl, opLen, el, ej]⟩⟩
 ·have c0 : ¬ (i : Int) ≤ (j : Int) := by omega
  simp only [go_sem, seval, if_pos rfl, opLen, undef, edB, blockOf, nthC, dropC, loopOf, Tryz.f116, Option.getD, Int.toNat_natCast, e0, e1, e4, ei, ej, el, c0]
  have hIj : I = j := by
   rw [← hI]
   cases j with
   | zero => rfl
   | succ j' =>
    simp only [Sort.scanDown]
    rw [if_neg (by simp; intro h; omega)]
  subst hIj
  exact ⟨rfl, rfl, _, rfl, ⟨by simp only [List.length_set, el], by simp only [go_sem, seval, if_pos rfl, opLen, el, e0] <;> rfl, by simp only [go_sem, seval, if_pos rfl, opLen, el, e1], by simp only [go_sem, seval, if_pos rfl, opLen, el, e4], by simp only [go_sem, seval, if_pos rfl, opLen, el, ei], by simp only [go_sem, seval, if_pos rfl, opLen, el, ej]⟩⟩
end
end Go.Ab
namespace Go.Ab
open Go.Proofs
noncomputable def pt158L : Code := loopOf (nthC 9 (Tryz.f117.body.getD .skip))
noncomputable def pt157L : Code := loopOf (nthC 3 (Tryz.f116.body.getD .skip))
section
variable {σ0 : St} {k s cap : Nat} {g : FuncId} {ys : List Value} {lt : Pk → Pk → Bool} {p : Pk → Prop} {G : List Value}
def Iptl (σ0 : St) (k s n cap : Nat) (g : FuncId) (ys : List Value) (lt : Pk → Pk → Bool) (p : Pk → Prop) (G : List Value) (a : Nat) (R : Nat × Array Pk) (m : Nat) (fr : Fr) (σ : St) : Prop :=
 ∃ ts d, ∃ i j : Nat, fr = ⟨ts, []⟩ ∧ FP 178 12 13 ts (sliceS k s n cap) (.func (.func g) ⟨[]⟩ ⟨ys⟩) a i j ∧ m = j + 1 - i ∧ 0 < i ∧ i ≤ n ∧ j < n ∧ SAt σ0 k d G p σ ∧ d.size = n ∧ Sort.partLoop lt a i j d = R
def Eptl (σ0 : St) (k s n cap : Nat) (g : FuncId) (ys : List Value) (p : Pk → Prop) (G : List Value) (a : Nat) (R : Nat × Array Pk) (x : AX) (fr : Fr) (σ : St) : Prop :=
 x = .exit 4 ∧ ∃ ts, ∃ i j : Nat, fr = ⟨ts, []⟩ ∧ FP 178 12 13 ts (sliceS k s n cap) (.func (.func g) ⟨[]⟩ ⟨ys⟩) a i j ∧ j = R.1 ∧ j < n ∧ SAt σ0 k R.2 G p σ ∧ R.2.size = n
set_option maxHeartbeats 3200000 in
set_option maxRecDepth 20000 in
theorem ptl (hc : CmpOk σ0 k g ys lt p) {n a : Nat} (ha : a < n) {R : Nat × Array Pk} :
  ∀ m fr σ, Iptl σ0 k s n cap g ys lt p G a R m fr σ → loopX Tryz.prog false pt158L fr σ (endL (Eptl σ0 k s n cap g ys p G a R) fun z => z = k ∨ σ0.next ≤ z) := by
 refine loop_ind q0 117 (by kernel_rfl) _ _ _ ?_
 rintro m fr σ ⟨ts, d, i, j, rfl, F, hm, hi0, hin, hjn, H, rfl, hR⟩
 have e0 := F.t0
 have e1 := F.t1
 have e4 := F.t4
 have ei := F.ti
 have ej := F.tj
 have el := F.size
 have hsm := H.small
 obtain ⟨i2, hi2⟩ : ∃ i2, Sort.scanUp (fun x => lt x d[a]!) d j i = i2 := ⟨_, rfl⟩
 obtain ⟨j2, hj2⟩ : ∃ j2, Sort.scanDown (fun x => !lt x d[a]!) d i2 j = j2 := ⟨_, rfl⟩
 have hi2g : i ≤ i2 := hi2 ▸ Sort.scanUp_ge _ _ _ _
 have hj2l : j2 ≤ j := hj2 ▸ Sort.scanDown_le _ _ _ _
 have heq := Sort.partLoop_eq lt a i j d
 have hgd := Sort.partLoop_guard lt a i j d
 simp only [hi2, hj2] at heq hgd
 by_cases hij : i2 > j2
 ·have c1 : (j2 : Int) < (i2 : Int) := by omega
  rw [if_pos hij] at heq
  have hRd : R = (j2, d) := by rw [← hR, heq]
  subst hRd
  simp only [go_sem, seval, if_pos rfl, opLen, undef, pt158L, nthC, blockOf, loopOf, Tryz.f117, Option.getD, e0, e1, e4, ei, ej, el]
  refine loop_then (pu2 (s := s) (cap := cap) (G := G) hc H ha hjn (I := i2) (j + 1 - i) _ _ ⟨ts, i, j, rfl, F, rfl, rfl, rfl, hi2⟩) ?_
  intro x fr' σ1 lg1 hlg1 hB1 h
  obtain ⟨rfl, rfl, ts1, rfl, F1⟩ := h
  obtain rfl : lg1 = [] := List.eq_nil_iff_forall_not_mem.2 fun z hz => hB1 z hz
  simp only [go_sem, seval, if_pos rfl, opLen, undef, F1.t0, F1.t1, F1.t4, F1.ti, F1.tj, F1.size]
  refine loop_then (pd2 (s := s) (cap := cap) (G := G) hc H ha (i := i2) (by omega) (I := j2) j _ _ ⟨ts1, i2, j, rfl, F1, rfl, rfl, rfl, hjn, hj2⟩) ?_
  intro x fr' σ1 lg2 hlg2 hB2 h
  obtain ⟨rfl, rfl, ts2, rfl, F2⟩ := h
  obtain rfl : lg2 = [] := List.eq_nil_iff_forall_not_mem.2 fun z hz => hB2 z hz
  clear e0 e1 e4 ei ej el
  have e0 := F2.t0
  have e1 := F2.t1
  have e4 := F2.t4
  have ei := F2.ti
  have ej := F2.tj
  have el := F2.size
  simp only [sliceS] at e0
  simp only [go_sem, seval, if_pos rfl, opLen, undef, e0, e1, e4, ei, ej, el, c1]
  exact ⟨rfl, _, i2, j2, rfl, ⟨by simp only [List.length_set, el], by simp only [go_sem, seval, if_pos rfl, opLen, el, e0] <;> rfl, by simp only [go_sem, seval, if_pos rfl, opLen, el, e1], by simp only [go_sem, seval, if_pos rfl, opLen, el, e4], by simp only [go_sem, seval, if_pos rfl, opLen, el, ei], by simp only [go_sem, seval, if_pos rfl, opLen, el, ej]⟩, rfl, by omega, H, rfl⟩
 ·have c1 : ¬ (j2 : Int) < (i2 : Int) := by omega
  rw [if_neg hij] at heq
  have hlt := hgd hij
  have p1 : (0 : Int) ≤ (i2 : Int) := by omega
  have p2 : (i2 : Int) < (d.size : Int) := by omega
  have p3 : (0 : Int) ≤ (j2 : Int) := by omega
  have p4 : (j2 : Int) < (d.size : Int) := by omega
  have w1 : IntKind.i64.wrap ((i2 : Int) + 1) = ((i2 + 1 : Nat) : Int) := by
   have : (i2 : Int) + 1 = ((i2 + 1 : Nat) : Int) := by omega
   rw [this]; exact wrapIN (by omega)
  have w2 : IntKind.i64.wrap ((j2 : Int) - 1) = ((j2 - 1 : Nat) : Int) := by
   have : (j2 : Int) - 1 = ((j2 - 1 : Nat) : Int) := by omega
   rw [this]; exact wrapIN (by omega)
  have g1 := H.get
  have nk : ¬ σ.next ≤ k := by have := H.lt; have := H.base.nx; omega
  have x1 := arr_at (d := d) (G := G) (i := i2) (by omega)
  have x2 := arr_at (d := d) (G := G) (i := j2) (by omega)
  have l1 : (i2) * 3 + 3 ≤ (cellsP (d).toList ++ G).length := by rw [arr_len]; omega
  have l2 : (j2) * 3 + 3 ≤ (cellsP (d).toList ++ G).length := by rw [arr_len]; omega
  have o1 := arr_over (d := d) (G := G) (i := i2) (d)[j2]! (by omega)
  have o2 := arr_over (d := (d).setIfInBounds (i2) (d)[j2]!) (G := G) (i := j2) (d)[i2]! (by simp; omega)
  have l3 : (j2) * 3 + 3 ≤ (cellsP ((d).setIfInBounds (i2) (d)[j2]!).toList ++ G).length := by rw [arr_len]; simp; omega
  simp only [Pk.cells] at x1 x2 o1 o2
  simp only [go_sem, seval, if_pos rfl, opLen, undef, pt158L, nthC, blockOf, loopOf, Tryz.f117, Option.getD, e0, e1, e4, ei, ej, el]
  refine loop_then (pu2 (s := s) (cap := cap) (G := G) hc H ha hjn (I := i2) (j + 1 - i) _ _ ⟨ts, i, j, rfl, F, rfl, rfl, rfl, hi2⟩) ?_
  intro x fr' σ1 lg1 hlg1 hB1 h
  obtain ⟨rfl, rfl, ts1, rfl, F1⟩ := h
  obtain rfl : lg1 = [] := List.eq_nil_iff_forall_not_mem.2 fun z hz => hB1 z hz
  simp only [go_sem, seval, if_pos rfl, opLen, undef, F1.t0, F1.t1, F1.t4, F1.ti, F1.tj, F1.size]
  refine loop_then (pd2 (s := s) (cap := cap) (G := G) hc H ha (i := i2) (by omega) (I := j2) j _ _ ⟨ts1, i2, j, rfl, F1, rfl, rfl, rfl, hjn, hj2⟩) ?_
  intro x fr' σ1 lg2 hlg2 hB2 h
  obtain ⟨rfl, rfl, ts2, rfl, F2⟩ := h
  obtain rfl : lg2 = [] := List.eq_nil_iff_forall_not_mem.2 fun z hz => hB2 z hz
  clear e0 e1 e4 ei ej el
  have e0 := F2.t0
  have e1 := F2.t1
  have e4 := F2.t4
  have ei := F2.ti
  have ej := F2.tj
  have el := F2.size
  simp only [sliceS] at e0
  simp only [go_sem, seval, if_pos rfl, opLen, undef, Int.toNat_natCast, e0, e1, e4, ei, ej, el, c1, p1, p2, p3, p4, w1, w2, g1, nk, x1, x2, l1, l2, o1, o2, l3]
  exact ⟨.inl trivial, (j2 - 1) + 1 - (i2 + 1), by omega, _, Sort.swp d i2 j2, i2 + 1, j2 - 1, rfl, ⟨by simp only [List.length_set, el], by simp only [go_sem, seval, if_pos rfl, opLen, el, e0] <;> rfl, by simp only [go_sem, seval, if_pos rfl, opLen, el, e1], by simp only [go_sem, seval, if_pos rfl, opLen, el, e4], by simp only [go_sem, seval, if_pos rfl, opLen, el], by simp only [go_sem, seval, if_pos rfl, opLen, el]⟩, rfl, by omega, by omega, by omega, H.swp (by omega) (by omega) _, swp_size, by rw [← heq, hR]⟩
def Ipql (σ0 : St) (k s n cap : Nat) (g : FuncId) (ys : List Value) (lt : Pk → Pk → Bool) (p : Pk → Prop) (G : List Value) (a : Nat) (R : Nat × Array Pk) (m : Nat) (fr : Fr) (σ : St) : Prop :=
 ∃ ts d, ∃ i j : Nat, fr = ⟨ts, []⟩ ∧ FP 90 11 12 ts (sliceS k s n cap) (.func (.func g) ⟨[]⟩ ⟨ys⟩) a i j ∧ m = j + 1 - i ∧ 0 < i ∧ i ≤ n ∧ j < n ∧ SAt σ0 k d G p σ ∧ d.size = n ∧ Sort.partEqLoop lt a i j d = R
def Epql (σ0 : St) (k s n cap : Nat) (g : FuncId) (ys : List Value) (p : Pk → Prop) (G : List Value) (a : Nat) (R : Nat × Array Pk) (x : AX) (fr : Fr) (σ : St) : Prop :=
 x = .exit 0 ∧ ∃ ts, ∃ i j : Nat, fr = ⟨ts, []⟩ ∧ FP 90 11 12 ts (sliceS k s n cap) (.func (.func g) ⟨[]⟩ ⟨ys⟩) a i j ∧ i = R.1 ∧ j < n ∧ SAt σ0 k R.2 G p σ ∧ R.2.size = n
set_option maxHeartbeats 3200000 in
set_option maxRecDepth 20000 in
theorem pql (hc : CmpOk σ0 k g ys lt p) {n a : Nat} (ha : a < n) {R : Nat × Array Pk} :
  ∀ m fr σ, Ipql σ0 k s n cap g ys lt p G a R m fr σ → loopX Tryz.prog false pt157L fr σ (endL (Epql σ0 k s n cap g ys p G a R) fun z => z = k ∨ σ0.next ≤ z) := by
 refine loop_ind q0 116 (by kernel_rfl) _ _ _ ?_
 rintro m fr σ ⟨ts, d, i, j, rfl, F, hm, hi0, hin, hjn, H, rfl, hR⟩
 have e0 := F.t0
 have e1 := F.t1
 have e4 := F.t4
 have ei := F.ti
 have ej := F.tj
 have el := F.size
 have hsm := H.small
 obtain ⟨i2, hi2⟩ : ∃ i2, Sort.scanUp (fun x => !lt d[a]! x) d j i = i2 := ⟨_, rfl⟩
 obtain ⟨j2, hj2⟩ : ∃ j2, Sort.scanDown (fun x => lt d[a]! x) d i2 j = j2 := ⟨_, rfl⟩
 have hi2g : i ≤ i2 := hi2 ▸ Sort.scanUp_ge _ _ _ _
 have hj2l : j2 ≤ j := hj2 ▸ Sort.scanDown_le _ _ _ _
 have heq := Sort.partEqLoop_eq lt a i j d
 have hgd := Sort.partEqLoop_guard lt a i j d
 simp only [hi2, hj2] at heq hgd
 by_cases hij : i2 > j2
 ·have c1 : (j2 : Int) < (i2 : Int) := by omega
  rw [if_pos hij] at heq
  have hRd : R = (i2, d) := by rw [← hR, heq]
  subst hRd
  simp only [go_sem, seval, if_pos rfl, opLen, undef, pt157L, nthC, blockOf, loopOf, Tryz.f116, Option.getD, e0, e1, e4, ei, ej, el]
  refine loop_then (eu (s := s) (cap := cap) (G := G) hc H ha hjn (I := i2) (j + 1 - i) _ _ ⟨ts, i, j, rfl, F, rfl, rfl, rfl, hi2⟩) ?_
  intro x fr' σ1 lg1 hlg1 hB1 h
  obtain ⟨rfl, rfl, ts1, rfl, F1⟩ := h
  obtain rfl : lg1 = [] := List.eq_nil_iff_forall_not_mem.2 fun z hz => hB1 z hz
  simp only [go_sem, seval, if_pos rfl, opLen, undef, F1.t0, F1.t1, F1.t4, F1.ti, F1.tj, F1.size]
  refine loop_then (ed (s := s) (cap := cap) (G := G) hc H ha (i := i2) (by omega) (I := j2) j _ _ ⟨ts1, i2, j, rfl, F1, rfl, rfl, rfl, hjn, hj2⟩) ?_
  intro x fr' σ1 lg2 hlg2 hB2 h
  obtain ⟨rfl, rfl, ts2, rfl, F2⟩ := h
  obtain rfl : lg2 = [] := List.eq_nil_iff_forall_not_mem.2 fun z hz => hB2 z hz
  clear e0 e1 e4 ei ej el
  have e0 := F2.t0
  have e1 := F2.t1
  have e4 := F2.t4
  have ei := F2.ti
  have ej := F2.tj
  have el := F2.size
  simp only [sliceS] at e0
  simp only [go_sem, seval, if_pos rfl, opLen, undef, e0, e1, e4, ei, ej, el, c1]
  exact ⟨rfl, _, i2, j2, rfl, ⟨by simp only [List.length_set, el], by simp only [go_sem, seval, if_pos rfl, opLen, el, e0] <;> rfl, by simp only [go_sem, seval, if_pos rfl, opLen, el, e1], by simp only [go_sem, seval, if_pos rfl, opLen, el, e4], by simp only [go_sem, seval, if_pos rfl, opLen, el, ei], by simp only [go_sem, seval, if_pos rfl, opLen, el, ej]⟩, rfl, by omega, H, rfl⟩
 ·have c1 : ¬ (j2 : Int) < (i2 : Int) := by omega
  rw [if_neg hij] at heq
  have hlt := hgd hij
  have p1 : (0 : Int) ≤ (i2 : Int) := by omega
  have p2 : (i2 : Int) < (d.size : Int) := by omega
  have p3 : (0 : Int) ≤ (j2 : Int) := by omega
  have p4 : (j2 : Int) < (d.size : Int) := by omega
  have w1 : IntKind.i64.wrap ((i2 : Int) + 1) = ((i2 + 1 : Nat) : Int) := by
   have : (i2 : Int) + 1 = ((i2 + 1 : Nat) : Int) := by omega
   rw [this]; exact wrapIN (by omega)
  have w2 : IntKind.i64.wrap ((j2 : Int) - 1) = ((j2 - 1 : Nat) : Int) := by
   have : (j2 : Int) - 1 = ((j2 - 1 : Nat) : Int) := by omega
   rw [this]; exact wrapIN (by omega)
  have g1 := H.get
  have nk : ¬ σ.next ≤ k := by have := H.lt; have := H.base.nx; omega
  have x1 := arr_at (d := d) (G := G) (i := i2) (by omega)
  have x2 := arr_at (d := d) (G := G) (i := j2) (by omega)
  have l1 : (i2) * 3 + 3 ≤ (cellsP (d).toList ++ G).length := by rw [arr_len]; omega
  have l2 : (j2) * 3 + 3 ≤ (cellsP (d).toList ++ G).length := by rw [arr_len]; omega
  have o1 := arr_over (d := d) (G := G) (i := i2) (d)[j2]! (by omega)
  have o2 := arr_over (d := (d).setIfInBounds (i2) (d)[j2]!) (G := G) (i := j2) (d)[i2]! (by simp; omega)
  have l3 : (j2) * 3 + 3 ≤ (cellsP ((d).setIfInBounds (i2) (d)[j2]!).toList ++ G).length := by rw [arr_len]; simp; omega
  simp only [Pk.cells] at x1 x2 o1 o2
  simp only [go_sem, seval, if_pos rfl, opLen, undef, pt157L, nthC, blockOf, loopOf, Tryz.f116, Option.getD, e0, e1, e4, ei, ej, el]
  refine loop_then (eu (s := s) (cap := cap) (G := G) hc H ha hjn (I := i2) (j + 1 - i) _ _ ⟨ts, i, j, rfl, F, rfl, rfl, rfl, hi2⟩) ?_
  intro x fr' σ1 lg1 hlg1 hB1 h
  obtain ⟨rfl, rfl, ts1, rfl, F1⟩ := h
  obtain rfl : lg1 = [] := List.eq_nil_iff_forall_not_mem.2 fun z hz => hB1 z hz
  simp only [go_sem, seval, if_pos rfl, opLen, undef, F1.t0, F1.t1, F1.t4, F1.ti, F1.tj, F1.size]
  refine loop_then (ed (s := s) (cap := cap) (G := G) hc H ha (i := i2) (by omega) (I := j2) j _ _ ⟨ts1, i2, j, rfl, F1, rfl, rfl, rfl, hjn, hj2⟩) ?_
  intro x fr' σ1 lg2 hlg2 hB2 h
  obtain ⟨rfl, rfl, ts2, rfl, F2⟩ := h
  obtain rfl : lg2 = [] := List.eq_nil_iff_forall_not_mem.2 fun z hz => hB2 z hz
  clear e0 e1 e4 ei ej el
  have e0 := F2.t0
  have e1 := F2.t1
  have e4 := F2.t4
  have ei := F2.ti
  have ej := F2.tj
  have el := F2.size
  simp only [sliceS] at e0
  simp only [go_sem, seval, if_pos rfl, opLen, undef, Int.toNat_natCast, e0, e1, e4, ei, ej, el, c1, p1, p2, p3, p4, w1, w2, g1, nk, x1, x2, l1, l2, o1, o2, l3]
  exact ⟨.inl trivial, (j2 - 1) + 1 - (i2 + 1), by omega, _, Sort.swp d i2 j2, i2 + 1, j2 - 1, rfl, ⟨by simp only [List.length_set, el], by simp only [go_sem, seval, if_pos rfl, opLen, el, e0] <;> rfl, by simp only [go_sem, seval, if_pos rfl, opLen, el, e1], by simp only [go_sem, seval, if_pos rfl, opLen, el, e4], by simp only [go_sem, seval, if_pos rfl, opLen, el], by simp only [go_sem, seval, if_pos rfl, opLen, el]⟩, rfl, by omega, by omega, by omega, H.swp (by omega) (by omega) _, swp_size, by rw [← heq, hR]⟩
end
end Go.Ab
namespace Go.Ab
open Go.Proofs
section
variable {σ0 : St} {k s cap : Nat} {g : FuncId} {ys : List Value} {lt : Pk → Pk → Bool} {p : Pk → Prop} {G : List Value}
def SortE (σ0 : St) (k : Nat) (G : List Value) (p : Pk → Prop) (v : Value) (D : Array Pk) (e : AE) (σ' : St) (lg : Log) : Prop := e = .ret v ∧ SortR σ0 k G p D σ' lg
set_option maxHeartbeats 6400000 in
set_option maxRecDepth 20000 in
theorem part_call (hc : CmpOk σ0 k g ys lt p) {a b pivot : Nat} {d : Array Pk} {σ : St} (H : SAt σ0 k d G p σ) (hap : a ≤ pivot) (hpb : pivot < b) (hbn : b ≤ d.size) :
  callX Tryz.prog 117 [sliceS k s d.size cap, .int .i64 a, .int .i64 b, .int .i64 pivot, .func (.func g) ⟨[]⟩ ⟨ys⟩] σ (SortE σ0 k G p (.tuple ⟨[.int .i64 (Sort.partition lt d a b pivot).1, .bool (Sort.partition lt d a b pivot).2.1]⟩) (Sort.partition lt d a b pivot).2.2) := by
 have hsm := H.small
 have hs1 : (Sort.swp d a pivot).size = d.size := swp_size
 have w1 : IntKind.i64.wrap ((a : Int) + 1) = ((a + 1 : Nat) : Int) := by
  have : (a : Int) + 1 = ((a + 1 : Nat) : Int) := by omega
  rw [this]; exact wrapIN (by omega)
 have w2 : IntKind.i64.wrap ((b : Int) - 1) = ((b - 1 : Nat) : Int) := by
  have : (b : Int) - 1 = ((b - 1 : Nat) : Int) := by omega
  rw [this]; exact wrapIN (by omega)
 have g1 := H.get
 have nk : ¬ σ.next ≤ k := by have := H.lt; have := H.base.nx; omega
 have x1a := arr_at (d := d) (G := G) (i := a) (by omega)
 have x2a := arr_at (d := d) (G := G) (i := pivot) (by omega)
 have l1a : (a) * 3 + 3 ≤ (cellsP (d).toList ++ G).length := by rw [arr_len]; omega
 have l2a : (pivot) * 3 + 3 ≤ (cellsP (d).toList ++ G).length := by rw [arr_len]; omega
 have o1a := arr_over (d := d) (G := G) (i := a) (d)[pivot]! (by omega)
 have o2a := arr_over (d := (d).setIfInBounds (a) (d)[pivot]!) (G := G) (i := pivot) (d)[a]! (by simp; omega)
 have l3a : (pivot) * 3 + 3 ≤ (cellsP ((d).setIfInBounds (a) (d)[pivot]!).toList ++ G).length := by rw [arr_len]; simp; omega
 have l4a : (a) * 3 + 3 ≤ (cellsP ((d).setIfInBounds (a) (d)[pivot]!).toList ++ G).length := by rw [arr_len]; simp; omega
 have p1a : (0 : Int) ≤ ((a : Nat) : Int) := by omega
 have p2a : ((a : Nat) : Int) < (d.size : Int) := by omega
 have p3a : (0 : Int) ≤ ((pivot : Nat) : Int) := by omega
 have p4a : ((pivot : Nat) : Int) < (d.size : Int) := by omega
 simp only [Pk.cells] at x1a x2a o1a o2a
 have H1 := H.swp (i := a) (j := pivot) (by omega) (by omega) (.cells (cellsP (d.setIfInBounds a d[pivot]!).toList ++ G) false)
 obtain ⟨d1, hd1⟩ : ∃ d1, Sort.swp d a pivot = d1 := ⟨_, rfl⟩
 have hz1 : d1.size = d.size := by rw [← hd1]; exact hs1
 rw [hd1] at H1
 obtain ⟨i2, hi2⟩ : ∃ i2, Sort.scanUp (fun x => lt x d1[a]!) d1 (b - 1) (a + 1) = i2 := ⟨_, rfl⟩
 obtain ⟨j2, hj2⟩ : ∃ j2, Sort.scanDown (fun x => !lt x d1[a]!) d1 i2 (b - 1) = j2 := ⟨_, rfl⟩
 have hi2g : a + 1 ≤ i2 := hi2 ▸ Sort.scanUp_ge _ _ _ _
 have hj2l : j2 ≤ b - 1 := hj2 ▸ Sort.scanDown_le _ _ _ _
 have heq : Sort.partition lt d a b pivot = if i2 > j2 then (j2, true, Sort.swp d1 j2 a) else ((Sort.partLoop lt a (i2 + 1) (j2 - 1) (Sort.swp d1 i2 j2)).1, false, Sort.swp (Sort.partLoop lt a (i2 + 1) (j2 - 1) (Sort.swp d1 i2 j2)).2 (Sort.partLoop lt a (i2 + 1) (j2 - 1) (Sort.swp d1 i2 j2)).1 a) := by
  unfold Sort.partition
  simp only [hd1, hi2, hj2]
 obtain ⟨A1, hA1⟩ : ∃ A1, A1 = AObj.cells (cellsP (d.setIfInBounds a d[pivot]!).toList ++ G) false := ⟨_, rfl⟩
 rw [heq]
 by_cases hij : i2 > j2
 ·rw [if_pos hij]
  have c1 : (j2 : Int) < (i2 : Int) := by omega
  have x1b := arr_at (d := d1) (G := G) (i := j2) (by omega)
  have x2b := arr_at (d := d1) (G := G) (i := a) (by omega)
  have l1b : (j2) * 3 + 3 ≤ (cellsP (d1).toList ++ G).length := by rw [arr_len]; omega
  have l2b : (a) * 3 + 3 ≤ (cellsP (d1).toList ++ G).length := by rw [arr_len]; omega
  have o1b := arr_over (d := d1) (G := G) (i := j2) (d1)[a]! (by omega)
  have o2b := arr_over (d := (d1).setIfInBounds (j2) (d1)[a]!) (G := G) (i := a) (d1)[j2]! (by simp; omega)
  have l3b : (a) * 3 + 3 ≤ (cellsP ((d1).setIfInBounds (j2) (d1)[a]!).toList ++ G).length := by rw [arr_len]; simp; omega
  have l4b : (j2) * 3 + 3 ≤ (cellsP ((d1).setIfInBounds (j2) (d1)[a]!).toList ++ G).length := by rw [arr_len]; simp; omega
  have p1b : (0 : Int) ≤ ((j2 : Nat) : Int) := by omega
  have p2b : ((j2 : Nat) : Int) < (d.size : Int) := by omega
  have p3b : (0 : Int) ≤ ((a : Nat) : Int) := by omega
  have p4b : ((a : Nat) : Int) < (d.size : Int) := by omega
  simp only [Pk.cells] at x1b x2b o1b o2b
  refine enter (p := q0) Tryz.func117 rfl stat117 ?_
  simp only [go_sem, seval, if_pos rfl, opLen, undef, sliceS, Tryz.f117, Int.toNat_natCast, g1, nk, w1, w2, x1a, x2a, l1a, l2a, o1a, o2a, l3a, p1a, p2a, p3a, p4a]
  generalize hσs : (σ.set k (AObj.cells (cellsP (d.setIfInBounds a d[pivot]!).toList ++ G) false)).set k (AObj.cells (cellsP ((d.setIfInBounds a d[pivot]!).setIfInBounds pivot d[a]!).toList ++ G) false) = σs at H1 ⊢
  clear hσs
  refine loop_then (pu1 (s := s) (cap := cap) (G := G) hc H1 (a := a) (j := b - 1) (by omega) (by omega) (I := i2) _ _ _ ⟨_, a + 1, b - 1, rfl, ⟨rfl, by rw [hz1]; rfl, rfl, rfl, rfl, rfl⟩, rfl, rfl, rfl, hi2⟩) ?_
  intro x fr' σ1 lg1 hlg1 hB1 h
  obtain ⟨rfl, rfl, ts1, rfl, F1⟩ := h
  obtain rfl : lg1 = [] := List.eq_nil_iff_forall_not_mem.2 fun z hz => hB1 z hz
  simp only [go_sem, seval, if_pos rfl, opLen, undef, Int.toNat_natCast, F1.t0, F1.t1, F1.t4, F1.ti, F1.tj, F1.size]
  refine loop_then (pd1 (s := s) (cap := cap) (G := G) hc H1 (a := a) (i := i2) (by omega) (by omega) (I := j2) (b - 1) _ _ ⟨ts1, i2, b - 1, rfl, F1, rfl, rfl, rfl, by omega, hj2⟩) ?_
  intro x fr' σ1 lg2 hlg2 hB2 h
  obtain ⟨rfl, rfl, ts2, rfl, F2⟩ := h
  obtain rfl : lg2 = [] := List.eq_nil_iff_forall_not_mem.2 fun z hz => hB2 z hz
  have e0 := F2.t0
  have e1 := F2.t1
  have e4 := F2.t4
  have ei := F2.ti
  have ej := F2.tj
  have el := F2.size
  simp only [sliceS, hz1] at e0
  have g2 := H1.get
  have nk2 : ¬ σ1.next ≤ k := by have := H1.lt; have := H1.base.nx; omega
  simp only [go_sem, seval, if_pos rfl, opLen, undef, Int.toNat_natCast, e0, e1, e4, ei, ej, el, c1, g2, nk2, x1b, x2b, l1b, l2b, o1b, o2b, l3b, p1b, p2b, p3b, p4b]
  refine ⟨rfl, fun z hz => by simp at hz; exact .inl hz, ?_⟩
  exact H1.swp (i := j2) (j := a) (by omega) (by omega) _
 ·rw [if_neg hij]
  have c1 : ¬ (j2 : Int) < (i2 : Int) := by omega
  have x1c := arr_at (d := d1) (G := G) (i := i2) (by omega)
  have x2c := arr_at (d := d1) (G := G) (i := j2) (by omega)
  have l1c : (i2) * 3 + 3 ≤ (cellsP (d1).toList ++ G).length := by rw [arr_len]; omega
  have l2c : (j2) * 3 + 3 ≤ (cellsP (d1).toList ++ G).length := by rw [arr_len]; omega
  have o1c := arr_over (d := d1) (G := G) (i := i2) (d1)[j2]! (by omega)
  have o2c := arr_over (d := (d1).setIfInBounds (i2) (d1)[j2]!) (G := G) (i := j2) (d1)[i2]! (by simp; omega)
  have l3c : (j2) * 3 + 3 ≤ (cellsP ((d1).setIfInBounds (i2) (d1)[j2]!).toList ++ G).length := by rw [arr_len]; simp; omega
  have l4c : (i2) * 3 + 3 ≤ (cellsP ((d1).setIfInBounds (i2) (d1)[j2]!).toList ++ G).length := by rw [arr_len]; simp; omega
  have p1c : (0 : Int) ≤ ((i2 : Nat) : Int) := by omega
  have p2c : ((i2 : Nat) : Int) < (d.size : Int) := by omega
  have p3c : (0 : Int) ≤ ((j2 : Nat) : Int) := by omega
  have p4c : ((j2 : Nat) : Int) < (d.size : Int) := by omega
  simp only [Pk.cells] at x1c x2c o1c o2c
  obtain ⟨R, hR⟩ : ∃ R, Sort.partLoop lt a (i2 + 1) (j2 - 1) (Sort.swp d1 i2 j2) = R := ⟨_, rfl⟩
  rw [hR]
  have w3 : IntKind.i64.wrap ((i2 : Int) + 1) = ((i2 + 1 : Nat) : Int) := by
   have : (i2 : Int) + 1 = ((i2 + 1 : Nat) : Int) := by omega
   rw [this]; exact wrapIN (by omega)
  have w4 : IntKind.i64.wrap ((j2 : Int) - 1) = ((j2 - 1 : Nat) : Int) := by
   have : (j2 : Int) - 1 = ((j2 - 1 : Nat) : Int) := by omega
   rw [this]; exact wrapIN (by omega)
  refine enter (p := q0) Tryz.func117 rfl stat117 ?_
  simp only [go_sem, seval, if_pos rfl, opLen, undef, sliceS, Tryz.f117, Int.toNat_natCast, g1, nk, w1, w2, x1a, x2a, l1a, l2a, o1a, o2a, l3a, p1a, p2a, p3a, p4a]
  generalize hσs : (σ.set k (AObj.cells (cellsP (d.setIfInBounds a d[pivot]!).toList ++ G) false)).set k (AObj.cells (cellsP ((d.setIfInBounds a d[pivot]!).setIfInBounds pivot d[a]!).toList ++ G) false) = σs at H1 ⊢
  clear hσs
  refine loop_then (pu1 (s := s) (cap := cap) (G := G) hc H1 (a := a) (j := b - 1) (by omega) (by omega) (I := i2) _ _ _ ⟨_, a + 1, b - 1, rfl, ⟨rfl, by rw [hz1]; rfl, rfl, rfl, rfl, rfl⟩, rfl, rfl, rfl, hi2⟩) ?_
  intro x fr' σ1 lg1 hlg1 hB1 h
  obtain ⟨rfl, rfl, ts1, rfl, F1⟩ := h
  obtain rfl : lg1 = [] := List.eq_nil_iff_forall_not_mem.2 fun z hz => hB1 z hz
  simp only [go_sem, seval, if_pos rfl, opLen, undef, Int.toNat_natCast, F1.t0, F1.t1, F1.t4, F1.ti, F1.tj, F1.size]
  refine loop_then (pd1 (s := s) (cap := cap) (G := G) hc H1 (a := a) (i := i2) (by omega) (by omega) (I := j2) (b - 1) _ _ ⟨ts1, i2, b - 1, rfl, F1, rfl, rfl, rfl, by omega, hj2⟩) ?_
  intro x fr' σ1 lg2 hlg2 hB2 h
  obtain ⟨rfl, rfl, ts2, rfl, F2⟩ := h
  obtain rfl : lg2 = [] := List.eq_nil_iff_forall_not_mem.2 fun z hz => hB2 z hz
  have e0 := F2.t0
  have e1 := F2.t1
  have e4 := F2.t4
  have ei := F2.ti
  have ej := F2.tj
  have el := F2.size
  simp only [sliceS, hz1] at e0
  have g2 := H1.get
  have nk2 : ¬ σ1.next ≤ k := by have := H1.lt; have := H1.base.nx; omega
  simp only [go_sem, seval, if_pos rfl, opLen, undef, Int.toNat_natCast, e0, e1, e4, ei, ej, el, c1, w3, w4, g2, nk2, x1c, x2c, l1c, l2c, o1c, o2c, l3c, p1c, p2c, p3c, p4c]
  have H2 := H1.swp (i := i2) (j := j2) (by omega) (by omega) (.cells (cellsP (d1.setIfInBounds i2 d1[j2]!).toList ++ G) false)
  have hz2 : (Sort.swp d1 i2 j2).size = d.size := by rw [swp_size]; exact hz1
  refine loop_then (ptl (s := s) (cap := cap) (G := G) hc (n := d.size) (a := a) (by omega) (R := R) _ _ _ ⟨_, _, i2 + 1, j2 - 1, rfl, ⟨by simp only [List.length_set, el], by simp only [go_sem, seval, if_pos rfl, opLen, el, e0] <;> rfl, by simp only [go_sem, seval, if_pos rfl, opLen, el, e1], by simp only [go_sem, seval, if_pos rfl, opLen, el, e4], by simp only [go_sem, seval, if_pos rfl, opLen, el], by simp only [go_sem, seval, if_pos rfl, opLen, el]⟩, rfl, by omega, by omega, by omega, H2, hz2, hR⟩) ?_
  intro x fr' σ3 lg3 hlg3 hB3 h
  obtain ⟨rfl, ts3, i3, j3, rfl, F3, hj3, hj3n, H3, hz3⟩ := h
  rw [← hj3]
  obtain ⟨d2, hd2⟩ : ∃ d2, R.2 = d2 := ⟨_, rfl⟩
  rw [hd2] at H3 hz3 ⊢
  have x1e := arr_at (d := d2) (G := G) (i := j3) (by omega)
  have x2e := arr_at (d := d2) (G := G) (i := a) (by omega)
  have l1e : (j3) * 3 + 3 ≤ (cellsP (d2).toList ++ G).length := by rw [arr_len]; omega
  have l2e : (a) * 3 + 3 ≤ (cellsP (d2).toList ++ G).length := by rw [arr_len]; omega
  have o1e := arr_over (d := d2) (G := G) (i := j3) (d2)[a]! (by omega)
  have o2e := arr_over (d := (d2).setIfInBounds (j3) (d2)[a]!) (G := G) (i := a) (d2)[j3]! (by simp; omega)
  have l3e : (a) * 3 + 3 ≤ (cellsP ((d2).setIfInBounds (j3) (d2)[a]!).toList ++ G).length := by rw [arr_len]; simp; omega
  have l4e : (j3) * 3 + 3 ≤ (cellsP ((d2).setIfInBounds (j3) (d2)[a]!).toList ++ G).length := by rw [arr_len]; simp; omega
  have p1e : (0 : Int) ≤ ((j3 : Nat) : Int) := by omega
  have p2e : ((j3 : Nat) : Int) < (d.size : Int) := by omega
  have p3e : (0 : Int) ≤ ((a : Nat) : Int) := by omega
  have p4e : ((a : Nat) : Int) < (d.size : Int) := by omega
  simp only [Pk.cells] at x1e x2e o1e o2e
  have f0 := F3.t0
  have f1 := F3.t1
  have f4 := F3.t4
  have fi := F3.ti
  have fj := F3.tj
  have fl := F3.size
  have g3 := H3.get
  simp only [sliceS] at f0
  have nk3 : ¬ σ3.next ≤ k := by have := H3.lt; have := H3.base.nx; omega
  simp only [go_sem, seval, if_pos rfl, opLen, undef, Int.toNat_natCast, f0, f1, f4, fi, fj, fl, g3, nk3, x1e, x2e, l1e, l2e, o1e, o2e, l3e, p1e, p2e, p3e, p4e]
  refine ⟨rfl, fun z hz => ?_, H3.swp (i := j3) (j := a) (by omega) (by omega) _⟩
  simp only [List.mem_cons, List.mem_append, List.not_mem_nil, or_false] at hz
  rcases hz with h | h | h | h | h | h | h <;> first | exact .inl h | exact hB3 z h
set_option maxHeartbeats 6400000 in
set_option maxRecDepth 20000 in
theorem parteq_call (hc : CmpOk σ0 k g ys lt p) {a b pivot : Nat} {d : Array Pk} {σ : St} (H : SAt σ0 k d G p σ) (hap : a ≤ pivot) (hpb : pivot < b) (hbn : b ≤ d.size) :
  callX Tryz.prog 116 [sliceS k s d.size cap, .int .i64 a, .int .i64 b, .int .i64 pivot, .func (.func g) ⟨[]⟩ ⟨ys⟩] σ (SortE σ0 k G p (.int .i64 (Sort.partitionEqual lt d a b pivot).1) (Sort.partitionEqual lt d a b pivot).2) := by
 have hsm := H.small
 have w1 : IntKind.i64.wrap ((a : Int) + 1) = ((a + 1 : Nat) : Int) := by
  have : (a : Int) + 1 = ((a + 1 : Nat) : Int) := by omega
  rw [this]; exact wrapIN (by omega)
 have w2 : IntKind.i64.wrap ((b : Int) - 1) = ((b - 1 : Nat) : Int) := by
  have : (b : Int) - 1 = ((b - 1 : Nat) : Int) := by omega
  rw [this]; exact wrapIN (by omega)
 have g1 := H.get
 have nk : ¬ σ.next ≤ k := by have := H.lt; have := H.base.nx; omega
 have x1a := arr_at (d := d) (G := G) (i := a) (by omega)
 have x2a := arr_at (d := d) (G := G) (i := pivot) (by omega)
 have l1a : (a) * 3 + 3 ≤ (cellsP (d).toList ++ G).length := by rw [arr_len]; omega
 have l2a : (pivot) * 3 + 3 ≤ (cellsP (d).toList ++ G).length := by rw [arr_len]; omega
 have o1a := arr_over (d := d) (G := G) (i := a) (d)[pivot]! (by omega)
 have o2a := arr_over (d := (d).setIfInBounds (a) (d)[pivot]!) (G := G) (i := pivot) (d)[a]! (by simp; omega)
 have l3a : (pivot) * 3 + 3 ≤ (cellsP ((d).setIfInBounds (a) (d)[pivot]!).toList ++ G).length := by rw [arr_len]; simp; omega
 have l4a : (a) * 3 + 3 ≤ (cellsP ((d).setIfInBounds (a) (d)[pivot]!).toList ++ G).length := by rw [arr_len]; simp; omega
 have p1a : (0 : Int) ≤ ((a : Nat) : Int) := by omega
 have p2a : ((a : Nat) : Int) < (d.size : Int) := by omega
 have p3a : (0 : Int) ≤ ((pivot : Nat) : Int) := by omega
 have p4a : ((pivot : Nat) : Int) < (d.size : Int) := by omega
 simp only [Pk.cells] at x1a x2a o1a o2a
 have H1 := H.swp (i := a) (j := pivot) (by omega) (by omega) (.cells (cellsP (d.setIfInBounds a d[pivot]!).toList ++ G) false)
 obtain ⟨R, hR⟩ : ∃ R, Sort.partEqLoop lt a (a + 1) (b - 1) (Sort.swp d a pivot) = R := ⟨_, rfl⟩
 have heq : Sort.partitionEqual lt d a b pivot = R := hR
 rw [heq]
 refine enter (p := q0) Tryz.func116 rfl stat116 ?_
 simp only [go_sem, seval, if_pos rfl, opLen, undef, sliceS, Tryz.f116, Int.toNat_natCast, g1, nk, w1, w2, x1a, x2a, l1a, l2a, o1a, o2a, l3a, p1a, p2a, p3a, p4a]
 refine loop_then (pql (s := s) (cap := cap) (G := G) hc (n := d.size) (a := a) (by omega) (R := R) _ _ _ ⟨_, _, a + 1, b - 1, rfl, ⟨rfl, rfl, rfl, rfl, rfl, rfl⟩, rfl, by omega, by omega, by omega, H1, swp_size, hR⟩) ?_
 intro x fr' σ3 lg3 hlg3 hB3 h
 obtain ⟨rfl, ts3, i3, j3, rfl, F3, hj3, hj3n, H3, hz3⟩ := h
 rw [← hj3]
 simp only [go_sem, seval, if_pos rfl, opLen, undef, F3.t0, F3.t1, F3.t4, F3.ti, F3.tj, F3.size]
 refine ⟨rfl, fun z hz => ?_, H3⟩
 simp only [List.mem_cons, List.mem_append, List.not_mem_nil, or_false] at hz
 rcases hz with h | h | h <;> first | exact .inl h | exact hB3 z h
noncomputable def revB : Code := loopOf (Tryz.f114.body.getD .skip)
def IRev (σ0 : St) (k s n cap : Nat) (p : Pk → Prop) (G : List Value) (D : Array Pk) (m : Nat) (fr : Fr) (σ : St) : Prop :=
 ∃ ts d, ∃ i j : Nat, fr = ⟨ts, []⟩ ∧ ts.length = 34 ∧ lget ts 0 = sliceS k s n cap ∧ lget ts 8 = .int .i64 i ∧ lget ts 9 = .int .i64 j ∧ m = j - i ∧ j < n ∧ i ≤ n ∧ SAt σ0 k d G p σ ∧ d.size = n ∧ Sort.reverseLoop i j d = D
def ERev (σ0 : St) (k : Nat) (p : Pk → Prop) (G : List Value) (D : Array Pk) (x : AX) (fr : Fr) (σ : St) : Prop :=
 x = .exit 0 ∧ fr.ds = [] ∧ SAt σ0 k D G p σ
set_option maxHeartbeats 1600000 in
set_option maxRecDepth 20000 in
theorem rev_loop {n : Nat} {D : Array Pk} : ∀ m fr σ, IRev σ0 k s n cap p G D m fr σ → loopX Tryz.prog false revB fr σ (endL (ERev σ0 k p G D) fun z => z = k ∨ σ0.next ≤ z) := by
 refine loop_ind q0 114 (by kernel_rfl) _ _ _ ?_
 rintro m fr σ ⟨ts, d, i, j, rfl, el, e0, e8, e9, hm, hjn, hin, H, rfl, hD⟩
 have hsm := H.small
 simp only [sliceS] at e0
 by_cases hij : i < j
 ·have c1 : (i : Int) < (j : Int) := by omega
  have w1 : IntKind.i64.wrap ((i : Int) + 1) = ((i + 1 : Nat) : Int) := by
   have : (i : Int) + 1 = ((i + 1 : Nat) : Int) := by omega
   rw [this]; exact wrapIN (by omega)
  have w2 : IntKind.i64.wrap ((j : Int) - 1) = ((j - 1 : Nat) : Int) := by
   have : (j : Int) - 1 = ((j - 1 : Nat) : Int) := by omega
   rw [this]; exact wrapIN (by omega)
  have g1 := H.get
  have nk : ¬ σ.next ≤ k := by have := H.lt; have := H.base.nx; omega
  have x1r := arr_at (d := d) (G := G) (i := i) (by omega)
  have x2r := arr_at (d := d) (G := G) (i := j) (by omega)
  have l1r : (i) * 3 + 3 ≤ (cellsP (d).toList ++ G).length := by rw [arr_len]; omega
  have l2r : (j) * 3 + 3 ≤ (cellsP (d).toList ++ G).length := by rw [arr_len]; omega
  have o1r := arr_over (d := d) (G := G) (i := i) (d)[j]! (by omega)
  have o2r := arr_over (d := (d).setIfInBounds (i) (d)[j]!) (G := G) (i := j) (d)[i]! (by simp; omega)
  have l3r : (j) * 3 + 3 ≤ (cellsP ((d).setIfInBounds (i) (d)[j]!).toList ++ G).length := by rw [arr_len]; simp; omega
  have l4r : (i) * 3 + 3 ≤ (cellsP ((d).setIfInBounds (i) (d)[j]!).toList ++ G).length := by rw [arr_len]; simp; omega
  have p1r : (0 : Int) ≤ ((i : Nat) : Int) := by omega
  have p2r : ((i : Nat) : Int) < (d.size : Int) := by omega
  have p3r : (0 : Int) ≤ ((j : Nat) : Int) := by omega
  have p4r : ((j : Nat) : Int) < (d.size : Int) := by omega
  simp only [Pk.cells] at x1r x2r o1r o2r
  simp only [go_sem, seval, if_pos rfl, opLen, undef, revB, loopOf, Tryz.f114, Option.getD, Int.toNat_natCast, el, e0, e8, e9, c1, w1, w2, g1, nk, x1r, x2r, l1r, l2r, o1r, o2r, l3r, p1r, p2r, p3r, p4r]
  refine ⟨.inl trivial, (j - 1) - (i + 1), by omega, _, Sort.swp d i j, i + 1, j - 1, rfl, by simp only [List.length_set, el], by simp only [go_sem, seval, if_pos rfl, opLen, el, e0] <;> rfl, by simp only [go_sem, seval, if_pos rfl, opLen, el], by simp only [go_sem, seval, if_pos rfl, opLen, el], rfl, by omega, by omega, H.swp (by omega) (by omega) _, swp_size, ?_⟩
  rw [← hD, Sort.reverseLoop.eq_def i j d, if_pos hij]
 ·have c1 : ¬ (i : Int) < (j : Int) := by omega
  simp only [go_sem, seval, if_pos rfl, opLen, undef, revB, loopOf, Tryz.f114, Option.getD, el, e0, e8, e9, c1]
  have hDd : D = d := by rw [← hD, Sort.reverseLoop.eq_def i j d, if_neg hij]
  exact ⟨rfl, rfl, hDd ▸ H⟩
theorem rev_call {a b : Nat} {d : Array Pk} {cv : Value} {σ : St} (H : SAt σ0 k d G p σ) (hab : a < b) (hbn : b ≤ d.size) :
  callX Tryz.prog 114 [sliceS k s d.size cap, .int .i64 a, .int .i64 b, cv] σ fun e σ' lg => e = .ret (.tuple ⟨[]⟩) ∧ SortR σ0 k G p (Sort.reverseRange d a b) σ' lg := by
 have w2 : IntKind.i64.wrap ((b : Int) - 1) = ((b - 1 : Nat) : Int) := by
  have : (b : Int) - 1 = ((b - 1 : Nat) : Int) := by omega
  rw [this]; exact wrapIN (by have := H.small; omega)
 refine enter (p := q0) Tryz.func114 rfl stat114 ?_
 simp only [go_sem, seval, if_pos rfl, opLen, undef, sliceS, Tryz.f114, w2]
 refine loop_then (rev_loop (s := s) (n := d.size) (cap := cap) (G := G) (p := p) (σ0 := σ0) (k := k) (D := Sort.reverseRange d a b) _ _ _ ⟨_, d, a, b - 1, rfl, rfl, rfl, rfl, rfl, rfl, by omega, by omega, H, rfl, rfl⟩) ?_
 intro x fr' σ' lg hlg hB h
 obtain ⟨rfl, hds, H'⟩ := h
 obtain ⟨ts', ds'⟩ := fr'
 simp only at hds
 subst hds
 simp only [go_sem, seval, if_pos rfl, opLen]
 exact ⟨hB, H'⟩
end
end Go.Ab
namespace Go.Ab
open Go.Proofs
section
variable {σ0 : St} {k s cap : Nat} {g : FuncId} {ys : List Value} {lt : Pk → Pk → Bool} {p : Pk → Prop} {G : List Value}
structure CntAt (σ0 : St) (sb : Nat) (m : Int) (σ : St) : Prop where
 get : ∃ v : Int, σ.get sb = some (.cells [.int .i64 v] false) ∧ 0 ≤ v ∧ v ≤ m
 lo : σ0.next ≤ sb
 lt : sb < σ.next
theorem SAt.cnt {d : Array Pk} {σ : St} (H : SAt σ0 k d G p σ) {sb : Nat} (h : σ0.next ≤ sb) (o : AObj) : SAt σ0 k d G p (σ.set sb o) :=
 ⟨⟨H.base.nx, fun c h1 h2 => by rw [St.get_set, if_neg (by omega)]; exact H.base.get c h1 h2⟩, by rw [St.get_set, if_neg (by have := H.lt; omega)]; exact H.get, H.lt, H.all, H.small⟩
def Ord2R (σ0 : St) (k : Nat) (G : List Value) (p : Pk → Prop) (d : Array Pk) (sb : Nat) (m : Int) (a b : Nat) (e : AE) (σ' : St) (lg : Log) : Prop :=
 ∃ x y : Nat, ((x = a ∧ y = b) ∨ (x = b ∧ y = a)) ∧ e = .ret (.tuple ⟨[.int .i64 x, .int .i64 y]⟩) ∧ (∀ z ∈ lg, z = sb) ∧ SAt σ0 k d G p σ' ∧ CntAt σ0 sb (m + 1) σ'
set_option maxHeartbeats 1600000 in
set_option maxRecDepth 20000 in
theorem ord2_call (hc : CmpOk σ0 k g ys lt p) {a b sb : Nat} {m : Int} {d : Array Pk} {σ : St} (H : SAt σ0 k d G p σ) (hs : CntAt σ0 sb m σ) (hm : m < 1000000) (ha : a < d.size) (hb : b < d.size) :
  callX Tryz.prog 126 [sliceS k s d.size cap, .int .i64 a, .int .i64 b, .pointer (some ⟨sb, 0, none⟩), .func (.func g) ⟨[]⟩ ⟨ys⟩] σ (Ord2R σ0 k G p d sb m a b) := by
 obtain ⟨v, gs, hv0, hv1⟩ := hs.get
 have hsb := hs.lt
 have hlo := hs.lo
 have hsm := H.small
 have hkl := H.lt
 obtain ⟨r, hd, hr⟩ := hc.call σ H.base d[b]! d[a]! (H.all _ hb) (H.all _ ha)
 have hbd := hc.body
 have g1 := H.get
 have x1 := arr_at (d := d) (G := G) (i := a) ha
 have x2 := arr_at (d := d) (G := G) (i := b) hb
 have l1 : a * 3 + 3 ≤ (cellsP d.toList ++ G).length := by rw [arr_len]; omega
 have l2 : b * 3 + 3 ≤ (cellsP d.toList ++ G).length := by rw [arr_len]; omega
 have c1 : (0 : Int) ≤ (a : Int) := by omega
 have c2 : (a : Int) < (d.size : Int) := by omega
 have c3 : (0 : Int) ≤ (b : Int) := by omega
 have c4 : (b : Int) < (d.size : Int) := by omega
 have w1 : IntKind.i64.wrap (v + 1) = v + 1 := wrapI (by omega) (by omega)
 have nk : ¬ σ.next ≤ k := by have := H.base.nx; omega
 simp only [Pk.cells] at x1 x2
 refine enter (p := q0) Tryz.func126 rfl stat126 ?_
 by_cases hr0 : r < 0
 ·simp only [go_sem, seval, if_pos rfl, opLen, undef, sliceS, Tryz.f126, Int.toNat_natCast, g1, gs, hsb, hbd, x1, x2, l1, l2, c1, c2, c3, c4, w1, nk]
  refine .of hd ?_
  simp only [go_sem, seval, if_pos rfl, opLen, undef, Int.toNat_natCast, gs, hsb, hr0, w1, nk]
  exact ⟨b, a, .inr ⟨rfl, rfl⟩, rfl, fun z hz => by simpa using hz, H.cnt hlo _, ⟨v + 1, by rw [St.get_set, if_pos rfl], by omega, by omega⟩, hlo, hsb⟩
 ·simp only [go_sem, seval, if_pos rfl, opLen, undef, sliceS, Tryz.f126, Int.toNat_natCast, g1, gs, hsb, hbd, x1, x2, l1, l2, c1, c2, c3, c4, w1, nk]
  refine .of hd ?_
  simp only [go_sem, seval, if_pos rfl, opLen, undef, Int.toNat_natCast, gs, hsb, hr0, w1, nk]
  exact ⟨a, b, .inl ⟨rfl, rfl⟩, rfl, fun z hz => by simp at hz, H, ⟨v, gs, hv0, by omega⟩, hlo, hsb⟩
def MedR (σ0 : St) (k : Nat) (G : List Value) (p : Pk → Prop) (d : Array Pk) (sb : Nat) (m : Int) (a b c : Nat) (e : AE) (σ' : St) (lg : Log) : Prop :=
 ∃ x : Nat, (x = a ∨ x = b ∨ x = c) ∧ e = .ret (.int .i64 x) ∧ (∀ z ∈ lg, z = sb) ∧ SAt σ0 k d G p σ' ∧ CntAt σ0 sb (m + 3) σ'
set_option maxHeartbeats 1600000 in
set_option maxRecDepth 20000 in
theorem med_call (hc : CmpOk σ0 k g ys lt p) {a b c sb : Nat} {m : Int} {d : Array Pk} {σ : St} (H : SAt σ0 k d G p σ) (hs : CntAt σ0 sb m σ) (hm : m < 1000) (ha : a < d.size) (hb : b < d.size) (hcc : c < d.size) :
  callX Tryz.prog 125 [sliceS k s d.size cap, .int .i64 a, .int .i64 b, .int .i64 c, .pointer (some ⟨sb, 0, none⟩), .func (.func g) ⟨[]⟩ ⟨ys⟩] σ (MedR σ0 k G p d sb m a b c) := by
 refine enter (p := q0) Tryz.func125 rfl stat125 ?_
 simp only [go_sem, seval, if_pos rfl, opLen, undef, Tryz.f125, body126]
 refine callX.hidE (ord2_call (s := s) (cap := cap) hc H hs (by omega) ha hb) ?_
 intro e σ1 lg1 hlg1 hA
 obtain ⟨x1, y1, hxy1, rfl, hB1, H1, hs1⟩ := hA
 have hx1 : x1 < d.size := by omega
 have hy1 : y1 < d.size := by omega
 refine ⟨?_⟩
 simp only [go_sem, seval, if_pos rfl, opLen, undef, body126]
 refine callX.hidE (ord2_call (s := s) (cap := cap) hc H1 hs1 (by omega) hy1 hcc) ?_
 intro e σ2 lg2 hlg2 hA
 obtain ⟨x2, y2, hxy2, rfl, hB2, H2, hs2⟩ := hA
 have hx2 : x2 < d.size := by omega
 refine ⟨?_⟩
 simp only [go_sem, seval, if_pos rfl, opLen, undef, body126]
 refine callX.hidE (ord2_call (s := s) (cap := cap) hc H2 hs2 (by omega) hx1 hx2) ?_
 intro e σ3 lg3 hlg3 hA
 obtain ⟨x3, y3, hxy3, rfl, hB3, H3, hs3⟩ := hA
 refine ⟨?_⟩
 simp only [go_sem, seval, if_pos rfl, opLen, undef, body126]
 have e3 : m + 1 + 1 + 1 = m + 3 := by omega
 rw [e3] at hs3
 refine ⟨y3, by omega, rfl, fun z hz => ?_, H3, hs3⟩
 simp only [List.mem_append] at hz
 rcases hz with h | h | h
 ·exact hB1 z h
 ·exact hB2 z h
 ·exact hB3 z h
theorem medadj_call (hc : CmpOk σ0 k g ys lt p) {a sb : Nat} {m : Int} {d : Array Pk} {σ : St} (H : SAt σ0 k d G p σ) (hs : CntAt σ0 sb m σ) (hm : m < 1000) (ha0 : 0 < a) (ha : a + 1 < d.size) :
  callX Tryz.prog 124 [sliceS k s d.size cap, .int .i64 a, .pointer (some ⟨sb, 0, none⟩), .func (.func g) ⟨[]⟩ ⟨ys⟩] σ (MedR σ0 k G p d sb m (a - 1) a (a + 1)) := by
 have w1 : IntKind.i64.wrap ((a : Int) - 1) = ((a - 1 : Nat) : Int) := by
  have : (a : Int) - 1 = ((a - 1 : Nat) : Int) := by omega
  rw [this]; exact wrapIN (by have := H.small; omega)
 have w2 : IntKind.i64.wrap ((a : Int) + 1) = ((a + 1 : Nat) : Int) := by
  have : (a : Int) + 1 = ((a + 1 : Nat) : Int) := by omega
  rw [this]; exact wrapIN (by have := H.small; omega)
 refine enter (p := q0) Tryz.func124 rfl stat124 ?_
 simp only [go_sem, seval, if_pos rfl, opLen, undef, Tryz.f124, w1, w2, body125]
 refine callX.hidE (med_call (s := s) (cap := cap) hc H hs hm (a := a - 1) (b := a) (c := a + 1) (by omega) (by omega) ha) ?_
 intro e σ1 lg1 hlg1 hA
 obtain ⟨x, hx, rfl, hB, H1, hs1⟩ := hA
 refine ⟨?_⟩
 simp only [go_sem, seval, if_pos rfl, opLen, undef]
 exact ⟨x, hx, rfl, hB, H1, hs1⟩
def PivR (σ0 : St) (k : Nat) (G : List Value) (p : Pk → Prop) (d : Array Pk) (a b : Nat) (e : AE) (σ' : St) (lg : Log) : Prop :=
 ∃ (x : Nat) (h : Int), (a ≤ x ∧ x < b) ∧ (h = 0 ∨ h = 1 ∨ h = 2) ∧ e = .ret (.tuple ⟨[.int .i64 x, .int .i64 h]⟩) ∧ (∀ z ∈ lg, σ0.next ≤ z) ∧ SAt σ0 k d G p σ'
theorem SAt.fresh {d : Array Pk} {σ : St} (H : SAt σ0 k d G p σ) (o : AObj) : SAt σ0 k d G p (σ.new o) :=
 ⟨H.base.new o, by rw [St.get_new, if_neg (by have := H.lt; have := H.base.nx; omega)]; exact H.get, H.lt, H.all, H.small⟩
noncomputable def pivT : Code := dropC 7 (Tryz.f113.body.getD .skip)
set_option maxHeartbeats 1600000 in
set_option maxRecDepth 20000 in
theorem piv_tail {pt : PureTab Tryz.prog} {ts : List Value} {σ : St} {sb x : Nat} {m : Int} {d : Array Pk} {a b : Nat} {K : RR → Prop} (hs : CntAt σ0 sb m σ) (el : ts.length = 63) (e11 : lget ts 11 = .pointer (some ⟨sb, 0, none⟩)) (e13 : lget ts 13 = .int .i64 x)
  (k' : ∀ ts' (h : Int), (h = 0 ∨ h = 1 ∨ h = 2) → ts'.length = 63 → lget ts' 8 = .int .i64 x → lget ts' 9 = .int .i64 h → K ⟨.ret, ⟨ts', []⟩, σ, []⟩) : wp (cP Tryz.prog) pt (btAll 113) false pivT ⟨ts, []⟩ σ K := by
 obtain ⟨v, gs, hv0, hv1⟩ := hs.get
 have hsb := hs.lt
 by_cases h0 : v = 0
 ·subst h0
  have b1 : ((0 : Int) == 0) = true := by decide
  simp only [go_sem, seval, if_pos rfl, opLen, undef, pivT, dropC, Tryz.f113, Option.getD, el, e11, e13, gs, hsb, b1]
  exact k' _ 1 (by simp) (by simp only [List.length_set, el]) (by simp only [go_sem, seval, if_pos rfl, opLen, el]) (by simp only [go_sem, seval, if_pos rfl, opLen, el])
 ·have b1 : (v == 0) = false := by rw [beq_eq_false_iff_ne]; exact h0
  by_cases h1 : v = 12
  ·subst h1
   have b2 : ((12 : Int) == 12) = true := by decide
   simp only [go_sem, seval, if_pos rfl, opLen, undef, pivT, dropC, Tryz.f113, Option.getD, el, e11, e13, gs, hsb, b1, b2]
   exact k' _ 2 (by simp) (by simp only [List.length_set, el]) (by simp only [go_sem, seval, if_pos rfl, opLen, el]) (by simp only [go_sem, seval, if_pos rfl, opLen, el])
  ·have b2 : (v == 12) = false := by rw [beq_eq_false_iff_ne]; exact h1
   simp only [go_sem, seval, if_pos rfl, opLen, undef, pivT, dropC, Tryz.f113, Option.getD, el, e11, e13, gs, hsb, b1, b2]
   exact k' _ 0 (by simp) (by simp only [List.length_set, el]) (by simp only [go_sem, seval, if_pos rfl, opLen, el]) (by simp only [go_sem, seval, if_pos rfl, opLen, el])
attribute [irreducible] pivT
noncomputable def pivB : Code := Tryz.f113.body.getD .skip
theorem pivB_is : pivB = (nthC 0 pivB).seq ((nthC 1 pivB).seq ((nthC 2 pivB).seq ((nthC 3 pivB).seq ((nthC 4 pivB).seq ((nthC 5 pivB).seq ((nthC 6 pivB).seq pivT)))))) := by
 unfold pivT
 rfl
set_option maxHeartbeats 3200000 in
set_option maxRecDepth 20000 in
theorem piv_call (hc : CmpOk σ0 k g ys lt p) {a b : Nat} {d : Array Pk} {σ : St} (H : SAt σ0 k d G p σ) (hab : a + 8 ≤ b) (hbn : b ≤ d.size) :
  callX Tryz.prog 113 [sliceS k s d.size cap, .int .i64 a, .int .i64 b, .func (.func g) ⟨[]⟩ ⟨ys⟩] σ (PivR σ0 k G p d a b) := by
 have hsm := H.small
 have hkl := H.lt
 have hnx := H.base.nx
 have nz : ¬ (4 : Int) = 0 := by decide
 have w1 : IntKind.i64.wrap ((b : Int) - (a : Int)) = ((b - a : Nat) : Int) := by
  have : (b : Int) - (a : Int) = ((b - a : Nat) : Int) := by omega
  rw [this]; exact wrapIN (by omega)
 obtain ⟨q, hq⟩ : ∃ q, q = (b - a) / 4 := ⟨_, rfl⟩
 have t1 : IntKind.i64.wrap (((b - a : Nat) : Int).tdiv 4) = (q : Int) := by
  rw [Int.tdiv_eq_ediv_of_nonneg (by omega), hq]
  have : ((b - a : Nat) : Int) / 4 = (((b - a) / 4 : Nat) : Int) := by omega
  rw [this]; exact wrapIN (by omega)
 have w2 : IntKind.i64.wrap ((q : Int) * 1) = (q : Int) := by rw [Int.mul_one]; exact wrapIN (by omega)
 have w3 : IntKind.i64.wrap ((q : Int) * 2) = ((q * 2 : Nat) : Int) := by
  have : (q : Int) * 2 = ((q * 2 : Nat) : Int) := by omega
  rw [this]; exact wrapIN (by omega)
 have w4 : IntKind.i64.wrap ((q : Int) * 3) = ((q * 3 : Nat) : Int) := by
  have : (q : Int) * 3 = ((q * 3 : Nat) : Int) := by omega
  rw [this]; exact wrapIN (by omega)
 have w5 : IntKind.i64.wrap ((a : Int) + (q : Int)) = ((a + q : Nat) : Int) := by
  have : (a : Int) + (q : Int) = ((a + q : Nat) : Int) := by omega
  rw [this]; exact wrapIN (by omega)
 have w6 : IntKind.i64.wrap ((a : Int) + ((q * 2 : Nat) : Int)) = ((a + q * 2 : Nat) : Int) := by
  have : (a : Int) + ((q * 2 : Nat) : Int) = ((a + q * 2 : Nat) : Int) := by omega
  rw [this]; exact wrapIN (by omega)
 have w7 : IntKind.i64.wrap ((a : Int) + ((q * 3 : Nat) : Int)) = ((a + q * 3 : Nat) : Int) := by
  have : (a : Int) + ((q * 3 : Nat) : Int) = ((a + q * 3 : Nat) : Int) := by omega
  rw [this]; exact wrapIN (by omega)
 have c1 : (8 : Int) ≤ ((b - a : Nat) : Int) := by omega
 have H1 := H.fresh (.cells [.int .i64 0] false)
 have hs1 : CntAt σ0 σ.next 0 (σ.new (.cells [.int .i64 0] false)) := ⟨⟨0, by rw [St.get_new, if_pos rfl], by omega, by omega⟩, hnx, by rw [St.next_new]; omega⟩
 by_cases h50 : 50 ≤ b - a
 ·have c2 : (50 : Int) ≤ ((b - a : Nat) : Int) := by omega
  refine enter (p := q0) (c := pivB) Tryz.func113 rfl stat113 ?_
  rw [pivB_is]
  simp only [go_sem, seval, if_pos rfl, opLen, undef, pivB, nthC, Tryz.f113, Option.getD, w1, w2, w3, w4, w5, w6, w7, t1, nz, c1, c2, body124, body125]
  refine callX.hidE (medadj_call (s := s) (cap := cap) hc H1 hs1 (by omega) (a := a + q) (by omega) (by omega)) ?_
  intro e σ2 lg2 hlg2 hA
  obtain ⟨x1, hx1, rfl, hB2, H2, hs2⟩ := hA
  have hy1 : a ≤ x1 ∧ x1 < b := by
   clear hc hs1 H1
   rcases hx1 with h | h | h <;> omega
  clear hx1
  refine ⟨?_⟩
  simp only [go_sem, seval, if_pos rfl, opLen, undef, body124, body125]
  refine callX.hidE (medadj_call (s := s) (cap := cap) hc H2 hs2 (by omega) (a := a + q * 2) (by omega) (by omega)) ?_
  intro e σ3 lg3 hlg3 hA
  obtain ⟨x2, hx2, rfl, hB3, H3, hs3⟩ := hA
  have hy2 : a ≤ x2 ∧ x2 < b := by
   clear hc hs1 H1
   rcases hx2 with h | h | h <;> omega
  clear hx2
  refine ⟨?_⟩
  simp only [go_sem, seval, if_pos rfl, opLen, undef, body124, body125]
  refine callX.hidE (medadj_call (s := s) (cap := cap) hc H3 hs3 (by omega) (a := a + q * 3) (by omega) (by omega)) ?_
  intro e σ4 lg4 hlg4 hA
  obtain ⟨x3, hx3, rfl, hB4, H4, hs4⟩ := hA
  have hy3 : a ≤ x3 ∧ x3 < b := by
   clear hc hs1 H1
   rcases hx3 with h | h | h <;> omega
  clear hx3
  refine ⟨?_⟩
  simp only [go_sem, seval, if_pos rfl, opLen, undef, body124, body125]
  refine callX.hidE (med_call (s := s) (cap := cap) hc H4 hs4 (by omega) (a := x1) (b := x2) (c := x3) (by omega) (by omega) (by omega)) ?_
  intro e σ5 lg5 hlg5 hA
  obtain ⟨x, hx, rfl, hB5, H5, hs5⟩ := hA
  have hy : a ≤ x ∧ x < b := by rcases hx with h | h | h <;> omega
  clear hx
  refine ⟨?_⟩
  simp only [go_sem, seval, if_pos rfl, opLen, undef, body124, body125]
  refine piv_tail (x := x) (d := d) (a := a) (b := b) hs5 ?_ ?_ ?_ ?_
  ·rfl
  ·rfl
  ·rfl
  intro ts' h hh h1 h2 h3
  simp only [go_sem, seval, if_pos rfl, opLen, h1, h2, h3]
  refine ⟨x, h, hy, hh, rfl, fun z hz => ?_, H5⟩
  simp only [List.mem_append] at hz
  rcases hz with (hz | hz | hz) | hz
  ·rw [hB2 z hz]; exact hnx
  ·rw [hB3 z hz]; exact hnx
  ·rw [hB4 z hz]; exact hnx
  ·rw [hB5 z hz]; exact hnx
 ·have c2 : ¬ (50 : Int) ≤ ((b - a : Nat) : Int) := by omega
  refine enter (p := q0) (c := pivB) Tryz.func113 rfl stat113 ?_
  rw [pivB_is]
  simp only [go_sem, seval, if_pos rfl, opLen, undef, pivB, nthC, Tryz.f113, Option.getD, w1, w2, w3, w4, w5, w6, w7, t1, nz, c1, c2, body124, body125]
  refine callX.hidE (med_call (s := s) (cap := cap) hc H1 hs1 (by omega) (a := a + q) (b := a + q * 2) (c := a + q * 3) (by omega) (by omega) (by omega)) ?_
  intro e σ5 lg5 hlg5 hA
  obtain ⟨x, hx, rfl, hB5, H5, hs5⟩ := hA
  have hy : a ≤ x ∧ x < b := by rcases hx with h | h | h <;> omega
  clear hx
  refine ⟨?_⟩
  simp only [go_sem, seval, if_pos rfl, opLen, undef, body124, body125]
  refine piv_tail (x := x) (d := d) (a := a) (b := b) hs5 ?_ ?_ ?_ ?_
  ·rfl
  ·rfl
  ·rfl
  intro ts' h hh h1 h2 h3
  simp only [go_sem, seval, if_pos rfl, opLen, h1, h2, h3]
  refine ⟨x, h, hy, hh, rfl, fun z hz => ?_, H5⟩
  rw [hB5 z hz]; exact hnx
end
end Go.Ab
namespace Go.Ab
open Go.Proofs
theorem len_all : (List.range 256).map (fun n => answers (whole 60 6 105 [.int .u64 (n : Nat)])) = (List.range 256).map fun n => some (.int .i64 (Sort.bitsLen n : Nat)) := by kernel_rfl
theorem pow_all : (List.range 256).map (fun n => answers (whole 60 6 122 [.int .i64 (n : Nat)])) = (List.range 256).map fun n => some (.int .u64 (2 ^ Sort.bitsLen n : Nat)) := by kernel_rfl
theorem bitslen_call {n : Nat} (h : n < 256) (σ : St) : DCall Tryz.prog 105 [.int .u64 n] σ (.ret (.int .i64 (Sort.bitsLen n : Nat))) σ [] :=
 whole_call (n := 60) (d := 6) (List.map_inj_left.1 len_all n (List.mem_range.2 h)) rfl rfl σ
theorem pow2_call {n : Nat} (h : n < 256) (σ : St) : DCall Tryz.prog 122 [.int .i64 n] σ (.ret (.int .u64 (2 ^ Sort.bitsLen n : Nat))) σ [] :=
 whole_call (n := 60) (d := 6) (List.map_inj_left.1 pow_all n (List.mem_range.2 h)) rfl rfl σ
def RndR (σ : St) (rb : Nat) (e : AE) (σ' : St) (lg : Log) : Prop := ∃ w : Int, e = .ret (.int .u64 w) ∧ (∀ z ∈ lg, z = rb) ∧ σ'.next = σ.next ∧ (∀ c, c ≠ rb → σ'.get c = σ.get c) ∧ σ'.get rb = some (.cells [.int .u64 w] false)
set_option maxHeartbeats 1600000 in
set_option maxRecDepth 20000 in
theorem rnd_call {σ : St} {rb : Nat} {v : Int} (g : σ.get rb = some (.cells [.int .u64 v] false)) (hl : rb < σ.next) : callX Tryz.prog 123 [.pointer (some ⟨rb, 0, none⟩)] σ (RndR σ rb) := by
 have n1 : ¬ σ.next ≤ rb := by omega
 refine enter (p := q0) Tryz.func123 rfl stat123 ?_
 simp only [go_sem, seval, if_pos rfl, opLen, undef, isShift, shiftOp, IntKind.bits, Tryz.f123, g, hl, n1]
 exact ⟨_, rfl, fun z hz => by simpa using hz, rfl, fun c hc => by rw [St.get_set, if_neg (Ne.symm hc), St.get_set, if_neg (Ne.symm hc), St.get_set, if_neg (Ne.symm hc)], by rw [St.get_set, if_pos rfl]⟩
end Go.Ab
namespace Go.Ab
open Go.Proofs
section
variable {σ0 : St} {k s cap : Nat} {p : Pk → Prop} {G : List Value}
noncomputable def brkB : Code := loopOf (dropC 2 (match (dropC 1 (dropC 1 (Tryz.f112.body.getD .skip))) with | .cond _ a _ => a | c => c))
structure FB (ts : List Value) (dv : Value) (a len rb M x : Nat) : Prop where
 size : ts.length = 67
 t0 : lget ts 0 = dv
 t1 : lget ts 1 = .int .i64 a
 t8 : lget ts 8 = .int .i64 len
 t9 : lget ts 9 = .pointer (some ⟨rb, 0, none⟩)
 t10 : lget ts 10 = .int .u64 M
 t11 : lget ts 11 = .int .i64 x
def IBr (σ0 : St) (k s n cap : Nat) (p : Pk → Prop) (G : List Value) (d : Array Pk) (a b rb M : Nat) (m : Nat) (fr : Fr) (σ : St) : Prop :=
 ∃ ts d' v, ∃ x : Nat, fr = ⟨ts, []⟩ ∧ FB ts (sliceS k s n cap) a (b - a) rb M x ∧ x + m = a + (b - a) / 4 * 2 + 2 ∧ a + (b - a) / 4 * 2 - 1 ≤ x ∧ SAt σ0 k d' G p σ ∧ d'.size = n ∧ Sort.PermIn a b d d' ∧ σ.get rb = some (.cells [.int .u64 v] false) ∧ rb < σ.next
def EBr (σ0 : St) (k : Nat) (p : Pk → Prop) (G : List Value) (d : Array Pk) (a b : Nat) (x : AX) (fr : Fr) (σ : St) : Prop :=
 x = .exit 0 ∧ fr.ds = [] ∧ ∃ d', SAt σ0 k d' G p σ ∧ Sort.PermIn a b d d'
theorem and_small (w : Int) {M : Nat} (h0 : 0 < M) (hM : M < 10000000) : ∃ o : Nat, IntKind.i64.wrap (IntKind.u64.wrap (((BitVec.ofInt IntKind.u64.bits w &&& BitVec.ofInt IntKind.u64.bits ((M - 1 : Nat) : Int)).toNat : Nat) : Int)) = (o : Int) ∧ o < M := by
 have h1 : (BitVec.ofInt IntKind.u64.bits w &&& BitVec.ofInt IntKind.u64.bits ((M - 1 : Nat) : Int)).toNat ≤ M - 1 := by
  rw [BitVec.toNat_and]
  refine Nat.le_trans Nat.and_le_right ?_
  rw [BitVec.toNat_ofInt]
  show (((M - 1 : Nat) : Int) % ((2 ^ 64 : Nat) : Int)).toNat ≤ M - 1
  omega
 refine ⟨_, ?_, Nat.lt_of_le_of_lt h1 (by omega)⟩
 rw [wrapUN (by omega), wrapIN (by omega)]
set_option maxHeartbeats 3200000 in
set_option maxRecDepth 20000 in
theorem brk_loop {n : Nat} {d : Array Pk} {a b rb M : Nat} (hab : a + 8 ≤ b) (hbn : b ≤ n) (hn : n < 1000000) (hM : 0 < M ∧ M ≤ 2 * (b - a)) (hrb : σ0.next ≤ rb) :
  ∀ m fr σ, IBr σ0 k s n cap p G d a b rb M m fr σ → loopX Tryz.prog false brkB fr σ (endL (EBr σ0 k p G d a b) fun z => z = k ∨ σ0.next ≤ z) := by
 refine loop_ind q0 112 (by kernel_rfl) _ _ _ ?_
 rintro m fr σ ⟨ts, d', v, x, rfl, F, hm, hx, H, hdn, hP, gr, hrl⟩
 have e0 := F.t0
 have e1 := F.t1
 have e8 := F.t8
 have e9 := F.t9
 have e10 := F.t10
 have e11 := F.t11
 have el := F.size
 have hkl := H.lt
 simp only [sliceS] at e0
 have nz : ¬ (4 : Int) = 0 := by decide
 obtain ⟨q, hq⟩ : ∃ q, q = (b - a) / 4 := ⟨_, rfl⟩
 rw [← hq] at hm hx
 have t1 : IntKind.i64.wrap (((b - a : Nat) : Int).tdiv 4) = (q : Int) := by
  rw [Int.tdiv_eq_ediv_of_nonneg (by omega), hq]
  have : ((b - a : Nat) : Int) / 4 = (((b - a) / 4 : Nat) : Int) := by omega
  rw [this]; exact wrapIN (by omega)
 have w3 : IntKind.i64.wrap ((q : Int) * 2) = ((q * 2 : Nat) : Int) := by
  have : (q : Int) * 2 = ((q * 2 : Nat) : Int) := by omega
  rw [this]; exact wrapIN (by omega)
 have w6 : IntKind.i64.wrap ((a : Int) + ((q * 2 : Nat) : Int)) = ((a + q * 2 : Nat) : Int) := by
  have : (a : Int) + ((q * 2 : Nat) : Int) = ((a + q * 2 : Nat) : Int) := by omega
  rw [this]; exact wrapIN (by omega)
 have w7 : IntKind.i64.wrap (((a + q * 2 : Nat) : Int) + 1) = ((a + (q * 2 + 1) : Nat) : Int) := by
  have : ((a + q * 2 : Nat) : Int) + 1 = ((a + (q * 2 + 1) : Nat) : Int) := by omega
  rw [this]; exact wrapIN (by omega)
 by_cases hxm : x ≤ a + q * 2 + 1
 ·have c0 : (x : Int) ≤ ((a + (q * 2 + 1) : Nat) : Int) := by omega
  have w8 : IntKind.u64.wrap ((M : Int) - 1) = ((M - 1 : Nat) : Int) := by
   have : (M : Int) - 1 = ((M - 1 : Nat) : Int) := by omega
   rw [this]; exact wrapUN (by omega)
  have w9 : IntKind.i64.wrap ((x : Int) + 1) = ((x + 1 : Nat) : Int) := by
   have : (x : Int) + 1 = ((x + 1 : Nat) : Int) := by omega
   rw [this]; exact wrapIN (by omega)
  simp only [go_sem, seval, if_pos rfl, opLen, undef, brkB, dropC, loopOf, Tryz.f112, Option.getD, e0, e1, e8, e9, e10, e11, el, nz, t1, w3, w6, w7, c0, body123]
  refine callX.hidE (rnd_call gr hrl) ?_
  intro e σ1 lg1 hlg1 hA
  obtain ⟨w, rfl, hB, hnx, hg, gr1⟩ := hA
  obtain ⟨o, ho, hoM⟩ := and_small w hM.1 (by omega)
  simp only [IntKind.bits] at ho
  have H1 : SAt σ0 k d' G p σ1 := ⟨⟨by rw [hnx]; exact H.base.nx, fun c h1 h2 => (hg c (by omega)).trans (H.base.get c h1 h2)⟩, (hg k (by omega)).trans H.get, hkl, H.all, H.small⟩
  have hB' : ∀ z ∈ lg1, z = k ∨ σ0.next ≤ z := fun z hz => .inr (by rw [hB z hz]; exact hrb)
  have g1 := H1.get
  have nk : ¬ σ1.next ≤ k := by have := H1.base.nx; omega
  have hrl1 : rb < σ1.next := by omega
  by_cases hol : b - a ≤ o
  ·obtain ⟨y, hy⟩ : ∃ y, y = o - (b - a) := ⟨_, rfl⟩
   have c1 : ((b - a : Nat) : Int) ≤ (o : Int) := by omega
   have v1 : IntKind.i64.wrap ((o : Int) - ((b - a : Nat) : Int)) = (y : Int) := by
    have : (o : Int) - ((b - a : Nat) : Int) = (y : Int) := by omega
    rw [this]; exact wrapIN (by omega)
   have hyl : y < b - a := by omega
   have hxb : x < b := by omega
   have hxa : a ≤ x := by omega
   have v2 : IntKind.i64.wrap ((a : Int) + (y : Int)) = ((a + y : Nat) : Int) := by
    have : (a : Int) + (y : Int) = ((a + y : Nat) : Int) := by omega
    rw [this]; exact wrapIN (by omega)
   have x1 := arr_at (d := d') (G := G) (i := x) (by omega)
   have x2 := arr_at (d := d') (G := G) (i := a + y) (by omega)
   have l1 : (x) * 3 + 3 ≤ (cellsP (d').toList ++ G).length := by rw [arr_len]; omega
   have l2 : (a + y) * 3 + 3 ≤ (cellsP (d').toList ++ G).length := by rw [arr_len]; omega
   have o1 := arr_over (d := d') (G := G) (i := x) (d')[a + y]! (by omega)
   have o2 := arr_over (d := (d').setIfInBounds (x) (d')[a + y]!) (G := G) (i := a + y) (d')[x]! (by simp; omega)
   have l3 : (a + y) * 3 + 3 ≤ (cellsP ((d').setIfInBounds (x) (d')[a + y]!).toList ++ G).length := by rw [arr_len]; simp; omega
   have p1 : (0 : Int) ≤ ((x : Nat) : Int) := by omega
   have p2 : ((x : Nat) : Int) < (n : Int) := by omega
   have p3 : (0 : Int) ≤ ((a + y : Nat) : Int) := by omega
   have p4 : ((a + y : Nat) : Int) < (n : Int) := by omega
   simp only [Pk.cells] at x1 x2 o1 o2
   have H2 := H1.swp (i := x) (j := a + y) (by omega) (by omega) (.cells (cellsP (d'.setIfInBounds x d'[a + y]!).toList ++ G) false)
   have hP2 : Sort.PermIn a b d (Sort.swp d' x (a + y)) := Sort.permIn_trans _ _ _ _ _ hP (Sort.swp_permIn _ _ _ _ _ hxa hxb (by omega) (by omega) (by have := hP.1; omega))
   refine ⟨?_⟩
   simp only [go_sem, seval, if_pos rfl, opLen, undef, brkB, dropC, loopOf, Tryz.f112, Option.getD, Int.toNat_natCast, e0, e1, e8, e9, e10, e11, el, ho, w8, w9, c1, v2, g1, nk, x1, x2, l1, l2, o1, o2, l3, p1, p2, p3, p4, v1]
   refine ⟨fun z hz => (by rcases hz with hz | hz | hz <;> first | exact hB' z hz | exact .inl hz), m - 1, by omega, _, Sort.swp d' x (a + y), w, x + 1, rfl, ⟨by simp only [List.length_set, el], by simp only [go_sem, seval, if_pos rfl, opLen, el, e0] <;> rfl, by simp only [go_sem, seval, if_pos rfl, opLen, el, e1], by simp only [go_sem, seval, if_pos rfl, opLen, el, e8], by simp only [go_sem, seval, if_pos rfl, opLen, el, e9], by simp only [go_sem, seval, if_pos rfl, opLen, el, e10], by simp only [go_sem, seval, if_pos rfl, opLen, el, w9]⟩, by omega, by omega, H2, by rw [swp_size]; exact hdn, hP2, ?_, ?_⟩
   ·rw [St.get_set, if_neg (by omega), St.get_set, if_neg (by omega)]; exact gr1
   ·simpa using hrl1
  ·obtain ⟨y, hy⟩ : ∃ y, y = o := ⟨_, rfl⟩
   subst hy
   have c1 : ¬ ((b - a : Nat) : Int) ≤ (y : Int) := by omega
   have hyl : y < b - a := by omega
   have hxb : x < b := by omega
   have hxa : a ≤ x := by omega
   have v2 : IntKind.i64.wrap ((a : Int) + (y : Int)) = ((a + y : Nat) : Int) := by
    have : (a : Int) + (y : Int) = ((a + y : Nat) : Int) := by omega
    rw [this]; exact wrapIN (by omega)
   have x1 := arr_at (d := d') (G := G) (i := x) (by omega)
   have x2 := arr_at (d := d') (G := G) (i := a + y) (by omega)
   have l1 : (x) * 3 + 3 ≤ (cellsP (d').toList ++ G).length := by rw [arr_len]; omega
   have l2 : (a + y) * 3 + 3 ≤ (cellsP (d').toList ++ G).length := by rw [arr_len]; omega
   have o1 := arr_over (d := d') (G := G) (i := x) (d')[a + y]! (by omega)
   have o2 := arr_over (d := (d').setIfInBounds (x) (d')[a + y]!) (G := G) (i := a + y) (d')[x]! (by simp; omega)
   have l3 : (a + y) * 3 + 3 ≤ (cellsP ((d').setIfInBounds (x) (d')[a + y]!).toList ++ G).length := by rw [arr_len]; simp; omega
   have p1 : (0 : Int) ≤ ((x : Nat) : Int) := by omega
   have p2 : ((x : Nat) : Int) < (n : Int) := by omega
   have p3 : (0 : Int) ≤ ((a + y : Nat) : Int) := by omega
   have p4 : ((a + y : Nat) : Int) < (n : Int) := by omega
   simp only [Pk.cells] at x1 x2 o1 o2
   have H2 := H1.swp (i := x) (j := a + y) (by omega) (by omega) (.cells (cellsP (d'.setIfInBounds x d'[a + y]!).toList ++ G) false)
   have hP2 : Sort.PermIn a b d (Sort.swp d' x (a + y)) := Sort.permIn_trans _ _ _ _ _ hP (Sort.swp_permIn _ _ _ _ _ hxa hxb (by omega) (by omega) (by have := hP.1; omega))
   refine ⟨?_⟩
   simp only [go_sem, seval, if_pos rfl, opLen, undef, brkB, dropC, loopOf, Tryz.f112, Option.getD, Int.toNat_natCast, e0, e1, e8, e9, e10, e11, el, ho, w8, w9, c1, v2, g1, nk, x1, x2, l1, l2, o1, o2, l3, p1, p2, p3, p4]
   refine ⟨fun z hz => (by rcases hz with hz | hz | hz <;> first | exact hB' z hz | exact .inl hz), m - 1, by omega, _, Sort.swp d' x (a + y), w, x + 1, rfl, ⟨by simp only [List.length_set, el], by simp only [go_sem, seval, if_pos rfl, opLen, el, e0] <;> rfl, by simp only [go_sem, seval, if_pos rfl, opLen, el, e1], by simp only [go_sem, seval, if_pos rfl, opLen, el, e8], by simp only [go_sem, seval, if_pos rfl, opLen, el, e9], by simp only [go_sem, seval, if_pos rfl, opLen, el, e10], by simp only [go_sem, seval, if_pos rfl, opLen, el, w9]⟩, by omega, by omega, H2, by rw [swp_size]; exact hdn, hP2, ?_, ?_⟩
   ·rw [St.get_set, if_neg (by omega), St.get_set, if_neg (by omega)]; exact gr1
   ·simpa using hrl1
 ·have c0 : ¬ (x : Int) ≤ ((a + (q * 2 + 1) : Nat) : Int) := by omega
  simp only [go_sem, seval, if_pos rfl, opLen, undef, brkB, dropC, loopOf, Tryz.f112, Option.getD, e0, e1, e8, e9, e10, e11, el, nz, t1, w3, w6, w7, c0, body123]
  exact ⟨rfl, rfl, d', H, hP⟩
end
end Go.Ab
namespace Go.Ab
open Go.Proofs
theorem pow_all2 : ((List.range 256).all fun n => Nat.beq n 0 || (Nat.blt 0 (2 ^ Sort.bitsLen n) && Nat.ble (2 ^ Sort.bitsLen n) (2 * n))) = true := by kernel_rfl
theorem pow_le {n : Nat} (h : n < 256) (h0 : 0 < n) : 0 < 2 ^ Sort.bitsLen n ∧ 2 ^ Sort.bitsLen n ≤ 2 * n := by
 have h' := List.all_eq_true.1 pow_all2 n (List.mem_range.2 h)
 rcases Eq.mp (Bool.or_eq_true _ _) h' with h1 | h1
 ·have := Nat.eq_of_beq_eq_true h1
  omega
 ·have h2 := Eq.mp (Bool.and_eq_true _ _) h1
  exact ⟨Nat.le_of_ble_eq_true h2.1, Nat.le_of_ble_eq_true h2.2⟩
section
variable {σ0 : St} {k s cap : Nat} {p : Pk → Prop} {G : List Value} {vc : Value}
def PermR (σ0 : St) (k : Nat) (G : List Value) (p : Pk → Prop) (a b : Nat) (d : Array Pk) (e : AE) (σ' : St) (lg : Log) : Prop := e = .ret (.tuple ⟨[]⟩) ∧ ∃ D, SortR σ0 k G p D σ' lg ∧ Sort.PermIn a b d D
set_option maxHeartbeats 3200000 in
set_option maxRecDepth 20000 in
theorem brk_call {a b : Nat} {d : Array Pk} {σ : St} (H : SAt σ0 k d G p σ) (hab : a ≤ b) (hbn : b ≤ d.size) (hlen : b - a < 256) :
  callX Tryz.prog 112 [sliceS k s d.size cap, .int .i64 a, .int .i64 b, vc] σ (PermR σ0 k G p a b d) := by
 have hsm := H.small
 have w1 : IntKind.i64.wrap ((b : Int) - (a : Int)) = ((b - a : Nat) : Int) := by
  have : (b : Int) - (a : Int) = ((b - a : Nat) : Int) := by omega
  rw [this]; exact wrapIN (by omega)
 by_cases h8 : 8 ≤ b - a
 ·have c0 : (8 : Int) ≤ ((b - a : Nat) : Int) := by omega
  have wu : IntKind.u64.wrap ((b - a : Nat) : Int) = ((b - a : Nat) : Int) := wrapUN (by omega)
  obtain ⟨M, hM⟩ : ∃ M, M = 2 ^ Sort.bitsLen (b - a) := ⟨_, rfl⟩
  have hMM := pow_le hlen (by omega)
  rw [← hM] at hMM
  have hpow := pow2_call hlen
  rw [← hM] at hpow
  have nz : ¬ (4 : Int) = 0 := by decide
  obtain ⟨q, hq⟩ : ∃ q, q = (b - a) / 4 := ⟨_, rfl⟩
  have t1 : IntKind.i64.wrap (((b - a : Nat) : Int).tdiv 4) = (q : Int) := by
   rw [Int.tdiv_eq_ediv_of_nonneg (by omega), hq]
   have : ((b - a : Nat) : Int) / 4 = (((b - a) / 4 : Nat) : Int) := by omega
   rw [this]; exact wrapIN (by omega)
  have w3 : IntKind.i64.wrap ((q : Int) * 2) = ((q * 2 : Nat) : Int) := by
   have : (q : Int) * 2 = ((q * 2 : Nat) : Int) := by omega
   rw [this]; exact wrapIN (by omega)
  have w6 : IntKind.i64.wrap ((a : Int) + ((q * 2 : Nat) : Int)) = ((a + q * 2 : Nat) : Int) := by
   have : (a : Int) + ((q * 2 : Nat) : Int) = ((a + q * 2 : Nat) : Int) := by omega
   rw [this]; exact wrapIN (by omega)
  have w7 : IntKind.i64.wrap (((a + q * 2 : Nat) : Int) - 1) = ((a + q * 2 - 1 : Nat) : Int) := by
   have : ((a + q * 2 : Nat) : Int) - 1 = ((a + q * 2 - 1 : Nat) : Int) := by omega
   rw [this]; exact wrapIN (by omega)
  have hk := H.lt
  have hnx := H.base.nx
  have H1 : SAt σ0 k d G p ((σ.new (.cells [.int .u64 0] false)).set σ.next (.cells [.int .u64 ((b - a : Nat) : Int)] false)) := ⟨⟨by rw [St.next_set, St.next_new]; omega, fun c h1 h2 => by rw [St.get_set, if_neg (by omega), St.get_new, if_neg (by omega)]; exact H.base.get c h1 h2⟩, by rw [St.get_set, if_neg (by omega), St.get_new, if_neg (by omega)]; exact H.get, hk, H.all, hsm⟩
  refine enter (p := q0) Tryz.func112 rfl stat112 ?_
  simp only [go_sem, seval, if_pos rfl, opLen, undef, IntKind.bits, sliceS, Tryz.f112, w1, wu, c0, body122]
  refine .of (hpow _) ?_
  simp only [go_sem, seval, if_pos rfl, opLen, undef, IntKind.bits, c0, nz, t1, w3, w6, w7]
  refine loop_then (brk_loop (s := s) (n := d.size) (cap := cap) (p := p) (G := G) (σ0 := σ0) (k := k) (d := d) (a := a) (b := b) (rb := σ.next) (M := M) (by omega) hbn hsm hMM hnx 3 _ _ ⟨_, d, _, a + q * 2 - 1, rfl, ⟨rfl, rfl, rfl, rfl, rfl, rfl, rfl⟩, by rw [← hq]; omega, by rw [← hq]; exact Nat.le_refl _, H1, rfl, Sort.permIn_refl _ _ _, by rw [St.get_set, if_pos rfl], by rw [St.next_set, St.next_new]; omega⟩) ?_
  intro x fr' σ' lg hlg hB h
  obtain ⟨rfl, hds, D, H', hP⟩ := h
  obtain ⟨ts', ds'⟩ := fr'
  simp only at hds
  subst hds
  simp only [go_sem, seval, if_pos rfl, opLen]
  refine ⟨rfl, D, ⟨?_, H'⟩, hP⟩
  intro z hz
  simp only [List.mem_append, List.mem_cons, List.not_mem_nil, or_false, false_or] at hz
  rcases hz with rfl | hz
  ·exact .inr hnx
  ·exact hB z hz
 ·have c0 : ¬ (8 : Int) ≤ ((b - a : Nat) : Int) := by omega
  refine enter (p := q0) Tryz.func112 rfl stat112 ?_
  simp only [go_sem, seval, if_pos rfl, opLen, undef, IntKind.bits, sliceS, Tryz.f112, w1, c0]
  exact ⟨rfl, d, ⟨fun z hz => by simp at hz, H⟩, Sort.permIn_refl _ _ _⟩
end
end Go.Ab
namespace Go.Ab
open Go.Proofs
structure FQ (ts : List Value) (dv cv : Value) (a b i u : Nat) : Prop where
 size : ts.length = 141
 t0 : lget ts 0 = dv
 t1 : lget ts 1 = .int .i64 a
 t2 : lget ts 2 = .int .i64 b
 t3 : lget ts 3 = cv
 t9 : lget ts 9 = .int .i64 i
 t10 : lget ts 10 = .int .i64 u
noncomputable def pisB : Code := loopOf (nthC 2 (Tryz.f115.body.getD .skip))
noncomputable def pisA : Code := blockOf (nthC 1 pisB)
section
variable {σ0 : St} {k s cap : Nat} {g : FuncId} {ys : List Value} {lt : Pk → Pk → Bool} {p : Pk → Prop} {G : List Value}
noncomputable def qsB : Code := loopOf (nthC 0 pisA)
def IQs (dv cv : Value) (lt : Pk → Pk → Bool) (d : Array Pk) (a b u I : Nat) (σs : St) (m : Nat) (fr : Fr) (σ : St) : Prop :=
 ∃ ts, ∃ i : Nat, fr = ⟨ts, []⟩ ∧ FQ ts dv cv a b i u ∧ σ = σs ∧ m = b - i ∧ a < i ∧ Sort.scanSorted lt d b i = I
def EQs (dv cv : Value) (a b u I : Nat) (σs : St) (x : AX) (fr : Fr) (σ : St) : Prop := x = .exit 2 ∧ σ = σs ∧ ∃ ts, fr = ⟨ts, []⟩ ∧ FQ ts dv cv a b I u
set_option maxHeartbeats 1600000 in
set_option maxRecDepth 20000 in
theorem qs_loop (hc : CmpOk σ0 k g ys lt p) {d : Array Pk} {σs : St} (H : SAt σ0 k d G p σs) {a b u I : Nat} (hbn : b ≤ d.size) :
  ∀ m fr σ, IQs (sliceS k s d.size cap) (.func (.func g) ⟨[]⟩ ⟨ys⟩) lt d a b u I σs m fr σ → loopX Tryz.prog false qsB fr σ (endL (EQs (sliceS k s d.size cap) (.func (.func g) ⟨[]⟩ ⟨ys⟩) a b u I σs) fun _ => False) := by
 refine loop_ind q0 115 (by kernel_rfl) _ _ _ ?_
 rintro m fr σ ⟨ts, i, rfl, F, rfl, hm, hai, hI⟩
 have e0 := F.t0
 have e1 := F.t1
 have e2 := F.t2
 have e3 := F.t3
 have e9 := F.t9
 have e10 := F.t10
 have el := F.size
 have hsm := H.small
 simp only [sliceS] at e0
 by_cases hib : i < b
 ·have c0 : (i : Int) < (b : Int) := by omega
  obtain ⟨r, hd, hr⟩ := hc.call σ H.base d[i]! d[i - 1]! (H.all _ (by omega)) (H.all _ (by omega))
  have hb := hc.body
  have g1 := H.get
  have x1 := arr_at (d := d) (G := G) (i := i) (by omega)
  have x2 := arr_at (d := d) (G := G) (i := i - 1) (by omega)
  have l1 : i * 3 + 3 ≤ (cellsP d.toList ++ G).length := by rw [arr_len]; omega
  have l2 : (i - 1) * 3 + 3 ≤ (cellsP d.toList ++ G).length := by rw [arr_len]; omega
  have c1 : (0 : Int) ≤ (i : Int) := by omega
  have c2 : (i : Int) < (d.size : Int) := by omega
  have c3 : (0 : Int) ≤ ((i - 1 : Nat) : Int) := by omega
  have c4 : ((i - 1 : Nat) : Int) < (d.size : Int) := by omega
  have w1 : IntKind.i64.wrap ((i : Int) - 1) = ((i - 1 : Nat) : Int) := by
   have : (i : Int) - 1 = ((i - 1 : Nat) : Int) := by omega
   rw [this]; exact wrapIN (by omega)
  have w2 : IntKind.i64.wrap ((i : Int) + 1) = ((i + 1 : Nat) : Int) := by
   have : (i : Int) + 1 = ((i + 1 : Nat) : Int) := by omega
   rw [this]; exact wrapIN (by omega)
  have nk : ¬ σ.next ≤ k := by have := H.lt; have := H.base.nx; omega
  simp only [Pk.cells] at x1 x2
  by_cases hr0 : r < 0
  ·simp only [go_sem, seval, if_pos rfl, opLen, undef, qsB, pisA, pisB, blockOf, nthC, dropC, loopOf, Tryz.f115, Option.getD, Int.toNat_natCast, e0, e1, e2, e3, e9, e10, el, g1, hb, x1, x2, l1, l2, c0, c1, c2, c3, c4, w1, w2, nk]
   refine .of hd ?_
   simp only [go_sem, seval, if_pos rfl, opLen, undef, qsB, pisA, pisB, blockOf, nthC, dropC, loopOf, Tryz.f115, Option.getD, Int.toNat_natCast, e0, e1, e2, e3, e9, e10, el, g1, hb, x1, x2, l1, l2, c0, c1, c2, c3, c4, w1, w2, nk, hr0]
   have hlt : lt d[i]! d[i - 1]! = true := by rw [← hr]; simp [hr0]
   have hIi : I = i := by rw [← hI, Sort.scanSorted.eq_def lt d b i, if_neg (by simp [hlt])]
   subst hIi
   exact ⟨rfl, rfl, _, rfl, ⟨by simp only [List.length_set, el], by simp only [go_sem, seval, if_pos rfl, opLen, el, e0] <;> rfl, by simp only [go_sem, seval, if_pos rfl, opLen, el, e1], by simp only [go_sem, seval, if_pos rfl, opLen, el, e2], by simp only [go_sem, seval, if_pos rfl, opLen, el, e3], by simp only [go_sem, seval, if_pos rfl, opLen, el, e9], by simp only [go_sem, seval, if_pos rfl, opLen, el, e10]⟩⟩
  ·simp only [go_sem, seval, if_pos rfl, opLen, undef, qsB, pisA, pisB, blockOf, nthC, dropC, loopOf, Tryz.f115, Option.getD, Int.toNat_natCast, e0, e1, e2, e3, e9, e10, el, g1, hb, x1, x2, l1, l2, c0, c1, c2, c3, c4, w1, w2, nk]
   refine .of hd ?_
   simp only [go_sem, seval, if_pos rfl, opLen, undef, qsB, pisA, pisB, blockOf, nthC, dropC, loopOf, Tryz.f115, Option.getD, Int.toNat_natCast, e0, e1, e2, e3, e9, e10, el, g1, hb, x1, x2, l1, l2, c0, c1, c2, c3, c4, w1, w2, nk, hr0]
   have hlt : lt d[i]! d[i - 1]! = false := by rw [← hr]; simp [hr0]
   refine ⟨b - (i + 1), by omega, _, i + 1, rfl, ⟨by simp only [List.length_set, el], by simp only [go_sem, seval, if_pos rfl, opLen, el, e0] <;> rfl, by simp only [go_sem, seval, if_pos rfl, opLen, el, e1], by simp only [go_sem, seval, if_pos rfl, opLen, el, e2], by simp only [go_sem, seval, if_pos rfl, opLen, el, e3], by simp only [go_sem, seval, if_pos rfl, opLen, el], by simp only [go_sem, seval, if_pos rfl, opLen, el, e10]⟩, rfl, rfl, by omega, ?_⟩
   rw [← hI, Sort.scanSorted.eq_def lt d b i, if_pos (by simp [hlt, hib])]
 ·have c0 : ¬ (i : Int) < (b : Int) := by omega
  simp only [go_sem, seval, if_pos rfl, opLen, undef, qsB, pisA, pisB, blockOf, nthC, dropC, loopOf, Tryz.f115, Option.getD, Int.toNat_natCast, e0, e1, e2, e3, e9, e10, el, c0]
  have hIi : I = i := by rw [← hI, Sort.scanSorted.eq_def lt d b i, if_neg (by simp; intro h; omega)]
  subst hIi
  exact ⟨rfl, rfl, _, rfl, ⟨by simp only [List.length_set, el], by simp only [go_sem, seval, if_pos rfl, opLen, el, e0] <;> rfl, by simp only [go_sem, seval, if_pos rfl, opLen, el, e1], by simp only [go_sem, seval, if_pos rfl, opLen, el, e2], by simp only [go_sem, seval, if_pos rfl, opLen, el, e3], by simp only [go_sem, seval, if_pos rfl, opLen, el, e9], by simp only [go_sem, seval, if_pos rfl, opLen, el, e10]⟩⟩
noncomputable def qdownB : Code := loopOf (match (nthC 1 (nthC 4 pisA)) with | .cond _ x _ => x | c => c)
def IQdown (σ0 : St) (k n : Nat) (p : Pk → Prop) (G : List Value) (dv cv : Value) (lt : Pk → Pk → Bool) (D : Array Pk) (a b u i : Nat) (m : Nat) (fr : Fr) (σ : St) : Prop :=
 ∃ ts d', ∃ j : Nat, fr = ⟨ts, []⟩ ∧ FQ ts dv cv a b i u ∧ lget ts 11 = .int .i64 j ∧ SAt σ0 k d' G p σ ∧ d'.size = n ∧ m = j ∧ j < n ∧ Sort.shiftDown lt j d' = D
def EQdown (σ0 : St) (k n : Nat) (p : Pk → Prop) (G : List Value) (dv cv : Value) (D : Array Pk) (a b u i : Nat) (x : AX) (fr : Fr) (σ : St) : Prop :=
 x = .exit 4 ∧ ∃ ts, fr = ⟨ts, []⟩ ∧ FQ ts dv cv a b i u ∧ SAt σ0 k D G p σ ∧ D.size = n
set_option maxHeartbeats 1600000 in
set_option maxRecDepth 20000 in
theorem qdown_loop (hc : CmpOk σ0 k g ys lt p) {D : Array Pk} {n a b u i : Nat} (hbn : b ≤ n) (hn : n < 1000000) :
  ∀ m fr σ, IQdown σ0 k n p G (sliceS k s n cap) (.func (.func g) ⟨[]⟩ ⟨ys⟩) lt D a b u i m fr σ → loopX Tryz.prog false qdownB fr σ (endL (EQdown σ0 k n p G (sliceS k s n cap) (.func (.func g) ⟨[]⟩ ⟨ys⟩) D a b u i) fun z => z = k ∨ σ0.next ≤ z) := by
 refine loop_ind q0 115 (by kernel_rfl) _ _ _ ?_
 rintro m fr σ ⟨ts, d', j, rfl, F, ej, H, hdn, hm, hjn, hD⟩
 have e0 := F.t0
 have e1 := F.t1
 have e2 := F.t2
 have e3 := F.t3
 have e9 := F.t9
 have e10 := F.t10
 have el := F.size
 simp only [sliceS] at e0
 by_cases hj : 1 ≤ j
 ·obtain ⟨j', rfl⟩ : ∃ j', j = j' + 1 := ⟨j - 1, by omega⟩
  have c0 : (1 : Int) ≤ ((j' + 1 : Nat) : Int) := by omega
  obtain ⟨r, hd, hr⟩ := hc.call σ H.base d'[j' + 1]! d'[j']! (H.all _ (by omega)) (H.all _ (by omega))
  have hb := hc.body
  have g1 := H.get
  have x1 := arr_at (d := d') (G := G) (i := j' + 1) (by omega)
  have x2 := arr_at (d := d') (G := G) (i := j') (by omega)
  have l1 : (j' + 1) * 3 + 3 ≤ (cellsP d'.toList ++ G).length := by rw [arr_len]; omega
  have l2 : (j') * 3 + 3 ≤ (cellsP d'.toList ++ G).length := by rw [arr_len]; omega
  have o1 := arr_over (d := d') (G := G) (i := j' + 1) d'[j']! (by omega)
  have o2 := arr_over (d := d'.setIfInBounds (j' + 1) d'[j']!) (G := G) (i := j') d'[j' + 1]! (by simp; omega)
  have l3 : (j') * 3 + 3 ≤ (cellsP (d'.setIfInBounds (j' + 1) d'[j']!).toList ++ G).length := by rw [arr_len]; simp; omega
  have c1 : (0 : Int) ≤ ((j' + 1 : Nat) : Int) := by omega
  have c2 : ((j' + 1 : Nat) : Int) < (n : Int) := by omega
  have c3 : (0 : Int) ≤ ((j' : Nat) : Int) := by omega
  have c4 : ((j' : Nat) : Int) < (n : Int) := by omega
  have w1 : IntKind.i64.wrap (((j' + 1 : Nat) : Int) - 1) = ((j' : Nat) : Int) := by
   have : ((j' + 1 : Nat) : Int) - 1 = ((j' : Nat) : Int) := by omega
   rw [this]; exact wrapIN (by omega)
  have w2 : IntKind.i64.wrap (((j' + 1 : Nat) : Int) + 1) = ((j' + 1 + 1 : Nat) : Int) := by
   have : ((j' + 1 : Nat) : Int) + 1 = ((j' + 1 + 1 : Nat) : Int) := by omega
   rw [this]; exact wrapIN (by omega)
  have nk : ¬ σ.next ≤ k := by have := H.lt; have := H.base.nx; omega
  simp only [Pk.cells] at x1 x2 o1 o2
  by_cases hr0 : r < 0
  ·simp only [go_sem, seval, if_pos rfl, opLen, undef, qdownB, pisA, pisB, blockOf, nthC, dropC, loopOf, Tryz.f115, Option.getD, Int.toNat_natCast, e0, e1, e2, e3, e9, e10, ej, el, g1, hb, x1, x2, l1, l2, l3, o1, o2, c0, c1, c2, c3, c4, w1, w2, nk]
   refine .of hd ?_
   simp only [go_sem, seval, if_pos rfl, opLen, undef, qdownB, pisA, pisB, blockOf, nthC, dropC, loopOf, Tryz.f115, Option.getD, Int.toNat_natCast, e0, e1, e2, e3, e9, e10, ej, el, g1, hb, x1, x2, l1, l2, l3, o1, o2, c0, c1, c2, c3, c4, w1, w2, nk, hr0]
   have hlt : lt d'[j' + 1]! d'[j']! = true := by rw [← hr]; simp [hr0]
   refine ⟨.inl trivial, j', by omega, _, Sort.swp d' (j' + 1) (j'), j', rfl, ⟨by simp only [List.length_set, el], by simp only [go_sem, seval, if_pos rfl, opLen, el, e0] <;> rfl, by simp only [go_sem, seval, if_pos rfl, opLen, el, e1], by simp only [go_sem, seval, if_pos rfl, opLen, el, e2], by simp only [go_sem, seval, if_pos rfl, opLen, el, e3], by simp only [go_sem, seval, if_pos rfl, opLen, el, e9], by simp only [go_sem, seval, if_pos rfl, opLen, el, e10]⟩, by simp only [go_sem, seval, if_pos rfl, opLen, el], H.swp (by omega) (by omega) _, by rw [swp_size]; exact hdn, rfl, by omega, ?_⟩
   rw [← hD]
   simp only [Sort.shiftDown]
   rw [if_neg (by simp [hlt])]
  ·simp only [go_sem, seval, if_pos rfl, opLen, undef, qdownB, pisA, pisB, blockOf, nthC, dropC, loopOf, Tryz.f115, Option.getD, Int.toNat_natCast, e0, e1, e2, e3, e9, e10, ej, el, g1, hb, x1, x2, l1, l2, l3, o1, o2, c0, c1, c2, c3, c4, w1, w2, nk]
   refine .of hd ?_
   simp only [go_sem, seval, if_pos rfl, opLen, undef, qdownB, pisA, pisB, blockOf, nthC, dropC, loopOf, Tryz.f115, Option.getD, Int.toNat_natCast, e0, e1, e2, e3, e9, e10, ej, el, g1, hb, x1, x2, l1, l2, l3, o1, o2, c0, c1, c2, c3, c4, w1, w2, nk, hr0]
   have hlt : lt d'[j' + 1]! d'[j']! = false := by rw [← hr]; simp [hr0]
   have hDd : D = d' := by
    rw [← hD]
    simp only [Sort.shiftDown]
    rw [if_pos (by simp [hlt])]
   exact ⟨rfl, _, rfl, ⟨by simp only [List.length_set, el], by simp only [go_sem, seval, if_pos rfl, opLen, el, e0] <;> rfl, by simp only [go_sem, seval, if_pos rfl, opLen, el, e1], by simp only [go_sem, seval, if_pos rfl, opLen, el, e2], by simp only [go_sem, seval, if_pos rfl, opLen, el, e3], by simp only [go_sem, seval, if_pos rfl, opLen, el, e9], by simp only [go_sem, seval, if_pos rfl, opLen, el, e10]⟩, hDd ▸ H, hDd ▸ hdn⟩
 ·have c0 : ¬ (1 : Int) ≤ (j : Int) := by omega
  have hDd : D = d' := by
   rw [← hD]
   obtain rfl : j = 0 := by omega
   rfl
  simp only [go_sem, seval, if_pos rfl, opLen, undef, qdownB, pisA, pisB, blockOf, nthC, dropC, loopOf, Tryz.f115, Option.getD, Int.toNat_natCast, e0, e1, e2, e3, e9, e10, ej, el, c0]
  exact ⟨rfl, _, rfl, ⟨by simp only [List.length_set, el], by simp only [go_sem, seval, if_pos rfl, opLen, el, e0] <;> rfl, by simp only [go_sem, seval, if_pos rfl, opLen, el, e1], by simp only [go_sem, seval, if_pos rfl, opLen, el, e2], by simp only [go_sem, seval, if_pos rfl, opLen, el, e3], by simp only [go_sem, seval, if_pos rfl, opLen, el, e9], by simp only [go_sem, seval, if_pos rfl, opLen, el, e10]⟩, hDd ▸ H, hDd ▸ hdn⟩
noncomputable def qupB : Code := loopOf (match (nthC 1 (dropC 5 pisA)) with | .cond _ x _ => x | c => c)
def IQup (σ0 : St) (k n : Nat) (p : Pk → Prop) (G : List Value) (dv cv : Value) (lt : Pk → Pk → Bool) (D : Array Pk) (a b u i : Nat) (m : Nat) (fr : Fr) (σ : St) : Prop :=
 ∃ ts d', ∃ j : Nat, fr = ⟨ts, []⟩ ∧ FQ ts dv cv a b i u ∧ lget ts 12 = .int .i64 j ∧ SAt σ0 k d' G p σ ∧ d'.size = n ∧ m = b - j ∧ 1 ≤ j ∧ Sort.shiftUp lt b j d' = D
def EQup (σ0 : St) (k n : Nat) (p : Pk → Prop) (G : List Value) (dv cv : Value) (D : Array Pk) (a b u i : Nat) (x : AX) (fr : Fr) (σ : St) : Prop :=
 x = .exit 6 ∧ ∃ ts, fr = ⟨ts, []⟩ ∧ FQ ts dv cv a b i u ∧ SAt σ0 k D G p σ ∧ D.size = n
set_option maxHeartbeats 1600000 in
set_option maxRecDepth 20000 in
theorem qup_loop (hc : CmpOk σ0 k g ys lt p) {D : Array Pk} {n a b u i : Nat} (hbn : b ≤ n) (hn : n < 1000000) :
  ∀ m fr σ, IQup σ0 k n p G (sliceS k s n cap) (.func (.func g) ⟨[]⟩ ⟨ys⟩) lt D a b u i m fr σ → loopX Tryz.prog false qupB fr σ (endL (EQup σ0 k n p G (sliceS k s n cap) (.func (.func g) ⟨[]⟩ ⟨ys⟩) D a b u i) fun z => z = k ∨ σ0.next ≤ z) := by
 refine loop_ind q0 115 (by kernel_rfl) _ _ _ ?_
 rintro m fr σ ⟨ts, d', j, rfl, F, ej, H, hdn, hm, hj1, hD⟩
 have e0 := F.t0
 have e1 := F.t1
 have e2 := F.t2
 have e3 := F.t3
 have e9 := F.t9
 have e10 := F.t10
 have el := F.size
 simp only [sliceS] at e0
 by_cases hj : j < b
 ·skip
  have c0 : (j : Int) < (b : Int) := by omega
  obtain ⟨r, hd, hr⟩ := hc.call σ H.base d'[j]! d'[j - 1]! (H.all _ (by omega)) (H.all _ (by omega))
  have hb := hc.body
  have g1 := H.get
  have x1 := arr_at (d := d') (G := G) (i := j) (by omega)
  have x2 := arr_at (d := d') (G := G) (i := j - 1) (by omega)
  have l1 : (j) * 3 + 3 ≤ (cellsP d'.toList ++ G).length := by rw [arr_len]; omega
  have l2 : (j - 1) * 3 + 3 ≤ (cellsP d'.toList ++ G).length := by rw [arr_len]; omega
  have o1 := arr_over (d := d') (G := G) (i := j) d'[j - 1]! (by omega)
  have o2 := arr_over (d := d'.setIfInBounds (j) d'[j - 1]!) (G := G) (i := j - 1) d'[j]! (by simp; omega)
  have l3 : (j - 1) * 3 + 3 ≤ (cellsP (d'.setIfInBounds (j) d'[j - 1]!).toList ++ G).length := by rw [arr_len]; simp; omega
  have c1 : (0 : Int) ≤ ((j : Nat) : Int) := by omega
  have c2 : ((j : Nat) : Int) < (n : Int) := by omega
  have c3 : (0 : Int) ≤ ((j - 1 : Nat) : Int) := by omega
  have c4 : ((j - 1 : Nat) : Int) < (n : Int) := by omega
  have w1 : IntKind.i64.wrap (((j : Nat) : Int) - 1) = ((j - 1 : Nat) : Int) := by
   have : ((j : Nat) : Int) - 1 = ((j - 1 : Nat) : Int) := by omega
   rw [this]; exact wrapIN (by omega)
  have w2 : IntKind.i64.wrap (((j : Nat) : Int) + 1) = ((j + 1 : Nat) : Int) := by
   have : ((j : Nat) : Int) + 1 = ((j + 1 : Nat) : Int) := by omega
   rw [this]; exact wrapIN (by omega)
  have nk : ¬ σ.next ≤ k := by have := H.lt; have := H.base.nx; omega
  simp only [Pk.cells] at x1 x2 o1 o2
  by_cases hr0 : r < 0
  ·simp only [go_sem, seval, if_pos rfl, opLen, undef, qupB, pisA, pisB, blockOf, nthC, dropC, loopOf, Tryz.f115, Option.getD, Int.toNat_natCast, e0, e1, e2, e3, e9, e10, ej, el, g1, hb, x1, x2, l1, l2, l3, o1, o2, c0, c1, c2, c3, c4, w1, w2, nk]
   refine .of hd ?_
   simp only [go_sem, seval, if_pos rfl, opLen, undef, qupB, pisA, pisB, blockOf, nthC, dropC, loopOf, Tryz.f115, Option.getD, Int.toNat_natCast, e0, e1, e2, e3, e9, e10, ej, el, g1, hb, x1, x2, l1, l2, l3, o1, o2, c0, c1, c2, c3, c4, w1, w2, nk, hr0]
   have hlt : lt d'[j]! d'[j - 1]! = true := by rw [← hr]; simp [hr0]
   refine ⟨.inl trivial, b - (j + 1), by omega, _, Sort.swp d' (j) (j - 1), j + 1, rfl, ⟨by simp only [List.length_set, el], by simp only [go_sem, seval, if_pos rfl, opLen, el, e0] <;> rfl, by simp only [go_sem, seval, if_pos rfl, opLen, el, e1], by simp only [go_sem, seval, if_pos rfl, opLen, el, e2], by simp only [go_sem, seval, if_pos rfl, opLen, el, e3], by simp only [go_sem, seval, if_pos rfl, opLen, el, e9], by simp only [go_sem, seval, if_pos rfl, opLen, el, e10]⟩, by simp only [go_sem, seval, if_pos rfl, opLen, el], H.swp (by omega) (by omega) _, by rw [swp_size]; exact hdn, rfl, by omega, ?_⟩
   rw [← hD, Sort.shiftUp.eq_def lt b j d', if_pos hj, if_neg (by simp [hlt])]
   skip
  ·simp only [go_sem, seval, if_pos rfl, opLen, undef, qupB, pisA, pisB, blockOf, nthC, dropC, loopOf, Tryz.f115, Option.getD, Int.toNat_natCast, e0, e1, e2, e3, e9, e10, ej, el, g1, hb, x1, x2, l1, l2, l3, o1, o2, c0, c1, c2, c3, c4, w1, w2, nk]
   refine .of hd ?_
   simp only [go_sem, seval, if_pos rfl, opLen, undef, qupB, pisA, pisB, blockOf, nthC, dropC, loopOf, Tryz.f115, Option.getD, Int.toNat_natCast, e0, e1, e2, e3, e9, e10, ej, el, g1, hb, x1, x2, l1, l2, l3, o1, o2, c0, c1, c2, c3, c4, w1, w2, nk, hr0]
   have hlt : lt d'[j]! d'[j - 1]! = false := by rw [← hr]; simp [hr0]
   have hDd : D = d' := by
    rw [← hD, Sort.shiftUp.eq_def lt b j d', if_pos hj, if_pos (by simp [hlt])]
    skip
   exact ⟨rfl, _, rfl, ⟨by simp only [List.length_set, el], by simp only [go_sem, seval, if_pos rfl, opLen, el, e0] <;> rfl, by simp only [go_sem, seval, if_pos rfl, opLen, el, e1], by simp only [go_sem, seval, if_pos rfl, opLen, el, e2], by simp only [go_sem, seval, if_pos rfl, opLen, el, e3], by simp only [go_sem, seval, if_pos rfl, opLen, el, e9], by simp only [go_sem, seval, if_pos rfl, opLen, el, e10]⟩, hDd ▸ H, hDd ▸ hdn⟩
 ·have c0 : ¬ (j : Int) < (b : Int) := by omega
  have hDd : D = d' := by
   rw [← hD, Sort.shiftUp.eq_def lt b j d', if_neg hj]
   skip
  simp only [go_sem, seval, if_pos rfl, opLen, undef, qupB, pisA, pisB, blockOf, nthC, dropC, loopOf, Tryz.f115, Option.getD, Int.toNat_natCast, e0, e1, e2, e3, e9, e10, ej, el, c0]
  exact ⟨rfl, _, rfl, ⟨by simp only [List.length_set, el], by simp only [go_sem, seval, if_pos rfl, opLen, el, e0] <;> rfl, by simp only [go_sem, seval, if_pos rfl, opLen, el, e1], by simp only [go_sem, seval, if_pos rfl, opLen, el, e2], by simp only [go_sem, seval, if_pos rfl, opLen, el, e3], by simp only [go_sem, seval, if_pos rfl, opLen, el, e9], by simp only [go_sem, seval, if_pos rfl, opLen, el, e10]⟩, hDd ▸ H, hDd ▸ hdn⟩
end
end Go.Ab
namespace Go.Ab
open Go.Proofs
theorem scanSorted_range {lt : Pk → Pk → Bool} {d : Array Pk} {b : Nat} : ∀ n i, b - i = n → i ≤ b → i ≤ Sort.scanSorted lt d b i ∧ Sort.scanSorted lt d b i ≤ b := fun n => by
 induction n with
 | zero => intro i h1 h2; rw [Sort.scanSorted.eq_def, if_neg (by simp; omega)]; exact ⟨Nat.le_refl _, h2⟩
 | succ n ih =>
  intro i h1 h2
  rw [Sort.scanSorted.eq_def]
  split
  ·have := ih (i + 1) (by omega) (by omega); omega
  ·omega
section
variable {σ0 : St} {k s cap : Nat} {g : FuncId} {ys : List Value} {lt : Pk → Pk → Bool} {p : Pk → Prop} {G : List Value}
def IPi (σ0 : St) (k n : Nat) (p : Pk → Prop) (G : List Value) (dv cv : Value) (lt : Pk → Pk → Bool) (a b : Nat) (D : Array Pk) (R : Bool) (m : Nat) (fr : Fr) (σ : St) : Prop :=
 ∃ ts d', ∃ i : Nat, fr = ⟨ts, []⟩ ∧ FQ ts dv cv a b i (5 - m) ∧ m ≤ 5 ∧ a < i ∧ i ≤ b ∧ SAt σ0 k d' G p σ ∧ d'.size = n ∧ Sort.partialIns lt a b m i d' = (D, R)
def EPi (σ0 : St) (k : Nat) (p : Pk → Prop) (G : List Value) (D : Array Pk) (R : Bool) (x : AX) (fr : Fr) (σ : St) : Prop :=
 fr.ds = [] ∧ fr.ts.length = 141 ∧ SAt σ0 k D G p σ ∧ (x = .exit 0 ∧ R = false ∨ x = .ret ∧ lget fr.ts 8 = .bool R)
set_option maxHeartbeats 12800000 in
set_option maxRecDepth 20000 in
theorem pis_loop (hc : CmpOk σ0 k g ys lt p) {n a b : Nat} (hab : a ≤ b) (hbn : b ≤ n) (hn : n < 1000000) {D : Array Pk} {R : Bool} :
  ∀ m fr σ, IPi σ0 k n p G (sliceS k s n cap) (.func (.func g) ⟨[]⟩ ⟨ys⟩) lt a b D R m fr σ → loopX Tryz.prog false pisB fr σ (endL (EPi σ0 k p G D R) fun z => z = k ∨ σ0.next ≤ z) := by
 refine loop_ind q0 115 (by kernel_rfl) _ _ _ ?_
 rintro m fr σ ⟨ts, d, i, rfl, F, hm5, hai, hib, H, hdn, hD⟩
 have e0 := F.t0
 have e1 := F.t1
 have e2 := F.t2
 have e3 := F.t3
 have e9 := F.t9
 have e10 := F.t10
 have el := F.size
 simp only [sliceS] at e0
 match m, hm5, e10, hD with
 | 0, _, e10, hD =>
  have c0 : ¬ ((5 - 0 : Nat) : Int) < 5 := by omega
  obtain ⟨rfl, rfl⟩ : d = D ∧ false = R := by simpa [Sort.partialIns] using hD
  simp only [go_sem, seval, -Nat.reduceSubDiff, if_pos rfl, opLen, undef, pisB, loopOf, nthC, Tryz.f115, Option.getD, e0, e1, e2, e3, e9, e10, el, c0]
  exact ⟨rfl, by simp only [List.length_set, el], H, .inl ⟨rfl, rfl⟩⟩
 | m + 1, hm5, e10, hD =>
  have c0 : ((5 - (m + 1) : Nat) : Int) < 5 := by omega
  subst hdn
  obtain ⟨I, hI⟩ : ∃ I, Sort.scanSorted lt d b i = I := ⟨_, rfl⟩
  have hIr := scanSorted_range (lt := lt) (d := d) (b := b) _ i rfl hib
  rw [hI] at hIr
  simp only [Sort.partialIns, hI] at hD
  have wu : IntKind.i64.wrap (((5 - (m + 1) : Nat) : Int) + 1) = ((5 - m : Nat) : Int) := by
   have : ((5 - (m + 1) : Nat) : Int) + 1 = ((5 - m : Nat) : Int) := by omega
   rw [this]; exact wrapIN (by omega)
  by_cases hIb : I = b
  ·have b1 : ((I : Int) == (b : Int)) = true := by rw [hIb]; exact beq_self_eq_true _
   rw [if_pos hIb] at hD
   obtain ⟨rfl, rfl⟩ : d = D ∧ true = R := by simpa using hD
   simp only [go_sem, seval, -Nat.reduceSubDiff, if_pos rfl, opLen, undef, pisB, pisA, loopOf, nthC, blockOf, Tryz.f115, Option.getD, Int.toNat_natCast, e0, e1, e2, e3, e9, e10, el, c0]
   refine loop_then (qs_loop (s := s) (cap := cap) (G := G) hc H (a := a) (b := b) (u := 5 - (m + 1)) hbn (I := I) _ _ _ ⟨_, i, rfl, ⟨by simp only [List.length_set, el], by simp only [go_sem, seval, -Nat.reduceSubDiff, if_pos rfl, opLen, el, e0] <;> rfl, by simp only [go_sem, seval, -Nat.reduceSubDiff, if_pos rfl, opLen, el, e1], by simp only [go_sem, seval, -Nat.reduceSubDiff, if_pos rfl, opLen, el, e2], by simp only [go_sem, seval, -Nat.reduceSubDiff, if_pos rfl, opLen, el, e3], by simp only [go_sem, seval, -Nat.reduceSubDiff, if_pos rfl, opLen, el, e9], by simp only [go_sem, seval, -Nat.reduceSubDiff, if_pos rfl, opLen, el, e10]⟩, rfl, rfl, hai, hI⟩) ?_
   intro x fr' σ1 lg1 hlg1 hB1 h
   obtain ⟨rfl, rfl, ts1, rfl, F1⟩ := h
   obtain rfl : lg1 = [] := List.eq_nil_iff_forall_not_mem.2 fun z hz => hB1 z hz
   have e0f := F1.t0
   have e1f := F1.t1
   have e2f := F1.t2
   have e3f := F1.t3
   have e9f := F1.t9
   have e10f := F1.t10
   have elf := F1.size
   simp only [sliceS] at e0f
   simp only [go_sem, seval, -Nat.reduceSubDiff, if_pos rfl, opLen, undef, pisB, pisA, loopOf, nthC, blockOf, Tryz.f115, Option.getD, Int.toNat_natCast, e0f, e1f, e2f, e3f, e9f, e10f, elf, b1]
   exact ⟨rfl, by simp only [List.length_set, elf], H, .inr ⟨rfl, by simp only [go_sem, seval, -Nat.reduceSubDiff, if_pos rfl, opLen, elf]⟩⟩
  ·have b1 : ((I : Int) == (b : Int)) = false := by rw [beq_eq_false_iff_ne]; omega
   rw [if_neg hIb] at hD
   have wb : IntKind.i64.wrap ((b : Int) - (a : Int)) = ((b - a : Nat) : Int) := by
    have : (b : Int) - (a : Int) = ((b - a : Nat) : Int) := by omega
    rw [this]; exact wrapIN (by omega)
   by_cases h50 : b - a < 50
   ·have b2 : ((b - a : Nat) : Int) < 50 := by omega
    rw [if_pos h50] at hD
    obtain ⟨rfl, rfl⟩ : d = D ∧ false = R := by simpa using hD
    simp only [go_sem, seval, -Nat.reduceSubDiff, if_pos rfl, opLen, undef, pisB, pisA, loopOf, nthC, blockOf, Tryz.f115, Option.getD, Int.toNat_natCast, e0, e1, e2, e3, e9, e10, el, c0]
    refine loop_then (qs_loop (s := s) (cap := cap) (G := G) hc H (a := a) (b := b) (u := 5 - (m + 1)) hbn (I := I) _ _ _ ⟨_, i, rfl, ⟨by simp only [List.length_set, el], by simp only [go_sem, seval, -Nat.reduceSubDiff, if_pos rfl, opLen, el, e0] <;> rfl, by simp only [go_sem, seval, -Nat.reduceSubDiff, if_pos rfl, opLen, el, e1], by simp only [go_sem, seval, -Nat.reduceSubDiff, if_pos rfl, opLen, el, e2], by simp only [go_sem, seval, -Nat.reduceSubDiff, if_pos rfl, opLen, el, e3], by simp only [go_sem, seval, -Nat.reduceSubDiff, if_pos rfl, opLen, el, e9], by simp only [go_sem, seval, -Nat.reduceSubDiff, if_pos rfl, opLen, el, e10]⟩, rfl, rfl, hai, hI⟩) ?_
    intro x fr' σ1 lg1 hlg1 hB1 h
    obtain ⟨rfl, rfl, ts1, rfl, F1⟩ := h
    obtain rfl : lg1 = [] := List.eq_nil_iff_forall_not_mem.2 fun z hz => hB1 z hz
    have e0f := F1.t0
    have e1f := F1.t1
    have e2f := F1.t2
    have e3f := F1.t3
    have e9f := F1.t9
    have e10f := F1.t10
    have elf := F1.size
    simp only [sliceS] at e0f
    simp only [go_sem, seval, -Nat.reduceSubDiff, if_pos rfl, opLen, undef, pisB, pisA, loopOf, nthC, blockOf, Tryz.f115, Option.getD, Int.toNat_natCast, e0f, e1f, e2f, e3f, e9f, e10f, elf, b1, b2, wb]
    exact ⟨rfl, by simp only [List.length_set, elf], H, .inr ⟨rfl, by simp only [go_sem, seval, -Nat.reduceSubDiff, if_pos rfl, opLen, elf]⟩⟩
   ·have b2 : ¬ ((b - a : Nat) : Int) < 50 := by omega
    rw [if_neg h50] at hD
    have w1 : IntKind.i64.wrap ((I : Int) - 1) = ((I - 1 : Nat) : Int) := by
     have : (I : Int) - 1 = ((I - 1 : Nat) : Int) := by omega
     rw [this]; exact wrapIN (by omega)
    have w2 : IntKind.i64.wrap ((I : Int) - (a : Int)) = ((I - a : Nat) : Int) := by
     have : (I : Int) - (a : Int) = ((I - a : Nat) : Int) := by omega
     rw [this]; exact wrapIN (by omega)
    have w3 : IntKind.i64.wrap ((b : Int) - (I : Int)) = ((b - I : Nat) : Int) := by
     have : (b : Int) - (I : Int) = ((b - I : Nat) : Int) := by omega
     rw [this]; exact wrapIN (by omega)
    have w4 : IntKind.i64.wrap ((I : Int) + 1) = ((I + 1 : Nat) : Int) := by
     have : (I : Int) + 1 = ((I + 1 : Nat) : Int) := by omega
     rw [this]; exact wrapIN (by omega)
    have x1s := arr_at (d := d) (G := G) (i := I) (by omega)
    have x2s := arr_at (d := d) (G := G) (i := I - 1) (by omega)
    have l1s : (I) * 3 + 3 ≤ (cellsP (d).toList ++ G).length := by rw [arr_len]; omega
    have l2s : (I - 1) * 3 + 3 ≤ (cellsP (d).toList ++ G).length := by rw [arr_len]; omega
    have o1s := arr_over (d := d) (G := G) (i := I) (d)[I - 1]! (by omega)
    have o2s := arr_over (d := (d).setIfInBounds (I) (d)[I - 1]!) (G := G) (i := I - 1) (d)[I]! (by simp; omega)
    have l3s : (I - 1) * 3 + 3 ≤ (cellsP ((d).setIfInBounds (I) (d)[I - 1]!).toList ++ G).length := by rw [arr_len]; simp; omega
    have p1s : (0 : Int) ≤ ((I : Nat) : Int) := by omega
    have p2s : ((I : Nat) : Int) < (d.size : Int) := by omega
    have p3s : (0 : Int) ≤ ((I - 1 : Nat) : Int) := by omega
    have p4s : ((I - 1 : Nat) : Int) < (d.size : Int) := by omega
    simp only [Pk.cells] at x1s x2s o1s o2s
    have g1 := H.get
    have nk : ¬ σ.next ≤ k := by have := H.lt; have := H.base.nx; omega
    have H1 := H.swp (i := I) (j := I - 1) (by omega) (by omega) (.cells (cellsP (d.setIfInBounds I d[I - 1]!).toList ++ G) false)
    obtain ⟨d1, hd1⟩ : ∃ d1, Sort.swp d I (I - 1) = d1 := ⟨_, rfl⟩
    have hz1 : d1.size = d.size := by rw [← hd1]; exact swp_size
    rw [hd1] at H1 hD
    by_cases h3 : I - a ≥ 2
    ·by_cases h4 : b - I ≥ 2
     ·have b3 : (2 : Int) ≤ ((I - a : Nat) : Int) := by omega
      have b4 : (2 : Int) ≤ ((b - I : Nat) : Int) := by omega
      rw [if_pos h3, if_pos h4] at hD
      simp only [go_sem, seval, -Nat.reduceSubDiff, if_pos rfl, opLen, undef, pisB, pisA, loopOf, nthC, blockOf, Tryz.f115, Option.getD, Int.toNat_natCast, e0, e1, e2, e3, e9, e10, el, c0]
      refine loop_then (qs_loop (s := s) (cap := cap) (G := G) hc H (a := a) (b := b) (u := 5 - (m + 1)) hbn (I := I) _ _ _ ⟨_, i, rfl, ⟨by simp only [List.length_set, el], by simp only [go_sem, seval, -Nat.reduceSubDiff, if_pos rfl, opLen, el, e0] <;> rfl, by simp only [go_sem, seval, -Nat.reduceSubDiff, if_pos rfl, opLen, el, e1], by simp only [go_sem, seval, -Nat.reduceSubDiff, if_pos rfl, opLen, el, e2], by simp only [go_sem, seval, -Nat.reduceSubDiff, if_pos rfl, opLen, el, e3], by simp only [go_sem, seval, -Nat.reduceSubDiff, if_pos rfl, opLen, el, e9], by simp only [go_sem, seval, -Nat.reduceSubDiff, if_pos rfl, opLen, el, e10]⟩, rfl, rfl, hai, hI⟩) ?_
      intro x fr' σ1 lg1 hlg1 hB1 h
      obtain ⟨rfl, rfl, ts1, rfl, F1⟩ := h
      obtain rfl : lg1 = [] := List.eq_nil_iff_forall_not_mem.2 fun z hz => hB1 z hz
      have e0f := F1.t0
      have e1f := F1.t1
      have e2f := F1.t2
      have e3f := F1.t3
      have e9f := F1.t9
      have e10f := F1.t10
      have elf := F1.size
      simp only [sliceS] at e0f
      simp only [go_sem, seval, -Nat.reduceSubDiff, if_pos rfl, opLen, undef, pisB, pisA, loopOf, nthC, blockOf, Tryz.f115, Option.getD, Int.toNat_natCast, e0f, e1f, e2f, e3f, e9f, e10f, elf, b1, b2, b3, wb, w1, w2, w4, g1, nk, x1s, x2s, l1s, l2s, o1s, o2s, l3s, p1s, p2s, p3s, p4s]
      generalize hσs : (σ1.set k (AObj.cells (cellsP (d.setIfInBounds I d[I - 1]!).toList ++ G) false)).set k (AObj.cells (cellsP ((d.setIfInBounds I d[I - 1]!).setIfInBounds (I - 1) d[I]!).toList ++ G) false) = σs at H1 ⊢
      clear hσs
      refine loop_then (qdown_loop (s := s) (n := d.size) (cap := cap) (G := G) hc (a := a) (b := b) (u := 5 - (m + 1)) (i := I) (D := Sort.shiftDown lt (I - 1) d1) hbn hn (I - 1) _ _ ⟨_, d1, I - 1, rfl, ⟨by simp only [List.length_set, elf], by simp only [go_sem, seval, -Nat.reduceSubDiff, if_pos rfl, opLen, elf, e0f] <;> rfl, by simp only [go_sem, seval, -Nat.reduceSubDiff, if_pos rfl, opLen, elf, e1f], by simp only [go_sem, seval, -Nat.reduceSubDiff, if_pos rfl, opLen, elf, e2f], by simp only [go_sem, seval, -Nat.reduceSubDiff, if_pos rfl, opLen, elf, e3f], by simp only [go_sem, seval, -Nat.reduceSubDiff, if_pos rfl, opLen, elf, e9f], by simp only [go_sem, seval, -Nat.reduceSubDiff, if_pos rfl, opLen, elf, e10f]⟩, by simp only [go_sem, seval, -Nat.reduceSubDiff, if_pos rfl, opLen, elf], H1, hz1, rfl, by omega, rfl⟩) ?_
      intro x fr' σ2 lg2 hlg2 hB2 h
      obtain ⟨rfl, ts2, rfl, F2, H2, hz2⟩ := h
      have e0g := F2.t0
      have e1g := F2.t1
      have e2g := F2.t2
      have e3g := F2.t3
      have e9g := F2.t9
      have e10g := F2.t10
      have elg := F2.size
      simp only [sliceS] at e0g
      simp only [go_sem, seval, -Nat.reduceSubDiff, if_pos rfl, opLen, undef, pisB, pisA, loopOf, nthC, blockOf, Tryz.f115, Option.getD, Int.toNat_natCast, e0g, e1g, e2g, e3g, e9g, e10g, elg, b4, w3, w4]
      refine loop_then (qup_loop (s := s) (n := d.size) (cap := cap) (G := G) hc (a := a) (b := b) (u := 5 - (m + 1)) (i := I) (D := Sort.shiftUp lt b (I + 1) (Sort.shiftDown lt (I - 1) d1)) hbn hn (b - (I + 1)) _ _ ⟨_, (Sort.shiftDown lt (I - 1) d1), I + 1, rfl, ⟨by simp only [List.length_set, elg], by simp only [go_sem, seval, -Nat.reduceSubDiff, if_pos rfl, opLen, elg, e0g] <;> rfl, by simp only [go_sem, seval, -Nat.reduceSubDiff, if_pos rfl, opLen, elg, e1g], by simp only [go_sem, seval, -Nat.reduceSubDiff, if_pos rfl, opLen, elg, e2g], by simp only [go_sem, seval, -Nat.reduceSubDiff, if_pos rfl, opLen, elg, e3g], by simp only [go_sem, seval, -Nat.reduceSubDiff, if_pos rfl, opLen, elg, e9g], by simp only [go_sem, seval, -Nat.reduceSubDiff, if_pos rfl, opLen, elg, e10g]⟩, by simp only [go_sem, seval, -Nat.reduceSubDiff, if_pos rfl, opLen, elg], H2, hz2, rfl, by omega, rfl⟩) ?_
      intro x fr' σ3 lg3 hlg3 hB3 h
      obtain ⟨rfl, ts3, rfl, F3, H3, hz3⟩ := h
      have e0h := F3.t0
      have e1h := F3.t1
      have e2h := F3.t2
      have e3h := F3.t3
      have e9h := F3.t9
      have e10h := F3.t10
      have elh := F3.size
      simp only [sliceS] at e0h
      simp only [go_sem, seval, -Nat.reduceSubDiff, if_pos rfl, opLen, undef, pisB, pisA, loopOf, nthC, blockOf, Tryz.f115, Option.getD, Int.toNat_natCast, e0h, e1h, e2h, e3h, e9h, e10h, elh, wu]
      refine ⟨?_, m, by omega, _, (Sort.shiftUp lt b (I + 1) (Sort.shiftDown lt (I - 1) d1)), I, rfl, ?_, by omega, by omega, by omega, H3, hz3, hD⟩
      ·first | exact ⟨.inl trivial, .inl trivial, fun z hz => hz.elim (hB2 z) (hB3 z)⟩ | exact ⟨.inl trivial, .inl trivial, hB2⟩ | exact ⟨.inl trivial, .inl trivial, hB3⟩ | exact .inl trivial
      ·exact ⟨by simp only [List.length_set, elh], by simp only [go_sem, seval, -Nat.reduceSubDiff, if_pos rfl, opLen, elh, e0h] <;> rfl, by simp only [go_sem, seval, -Nat.reduceSubDiff, if_pos rfl, opLen, elh, e1h], by simp only [go_sem, seval, -Nat.reduceSubDiff, if_pos rfl, opLen, elh, e2h], by simp only [go_sem, seval, -Nat.reduceSubDiff, if_pos rfl, opLen, elh, e3h], by simp only [go_sem, seval, -Nat.reduceSubDiff, if_pos rfl, opLen, elh, e9h], by simp only [go_sem, seval, -Nat.reduceSubDiff, if_pos rfl, opLen, elh, e10h, wu]⟩
     ·have b3 : (2 : Int) ≤ ((I - a : Nat) : Int) := by omega
      have b4 : ¬ (2 : Int) ≤ ((b - I : Nat) : Int) := by omega
      rw [if_pos h3, if_neg h4] at hD
      simp only [go_sem, seval, -Nat.reduceSubDiff, if_pos rfl, opLen, undef, pisB, pisA, loopOf, nthC, blockOf, Tryz.f115, Option.getD, Int.toNat_natCast, e0, e1, e2, e3, e9, e10, el, c0]
      refine loop_then (qs_loop (s := s) (cap := cap) (G := G) hc H (a := a) (b := b) (u := 5 - (m + 1)) hbn (I := I) _ _ _ ⟨_, i, rfl, ⟨by simp only [List.length_set, el], by simp only [go_sem, seval, -Nat.reduceSubDiff, if_pos rfl, opLen, el, e0] <;> rfl, by simp only [go_sem, seval, -Nat.reduceSubDiff, if_pos rfl, opLen, el, e1], by simp only [go_sem, seval, -Nat.reduceSubDiff, if_pos rfl, opLen, el, e2], by simp only [go_sem, seval, -Nat.reduceSubDiff, if_pos rfl, opLen, el, e3], by simp only [go_sem, seval, -Nat.reduceSubDiff, if_pos rfl, opLen, el, e9], by simp only [go_sem, seval, -Nat.reduceSubDiff, if_pos rfl, opLen, el, e10]⟩, rfl, rfl, hai, hI⟩) ?_
      intro x fr' σ1 lg1 hlg1 hB1 h
      obtain ⟨rfl, rfl, ts1, rfl, F1⟩ := h
      obtain rfl : lg1 = [] := List.eq_nil_iff_forall_not_mem.2 fun z hz => hB1 z hz
      have e0f := F1.t0
      have e1f := F1.t1
      have e2f := F1.t2
      have e3f := F1.t3
      have e9f := F1.t9
      have e10f := F1.t10
      have elf := F1.size
      simp only [sliceS] at e0f
      simp only [go_sem, seval, -Nat.reduceSubDiff, if_pos rfl, opLen, undef, pisB, pisA, loopOf, nthC, blockOf, Tryz.f115, Option.getD, Int.toNat_natCast, e0f, e1f, e2f, e3f, e9f, e10f, elf, b1, b2, b3, wb, w1, w2, w4, g1, nk, x1s, x2s, l1s, l2s, o1s, o2s, l3s, p1s, p2s, p3s, p4s]
      generalize hσs : (σ1.set k (AObj.cells (cellsP (d.setIfInBounds I d[I - 1]!).toList ++ G) false)).set k (AObj.cells (cellsP ((d.setIfInBounds I d[I - 1]!).setIfInBounds (I - 1) d[I]!).toList ++ G) false) = σs at H1 ⊢
      clear hσs
      refine loop_then (qdown_loop (s := s) (n := d.size) (cap := cap) (G := G) hc (a := a) (b := b) (u := 5 - (m + 1)) (i := I) (D := Sort.shiftDown lt (I - 1) d1) hbn hn (I - 1) _ _ ⟨_, d1, I - 1, rfl, ⟨by simp only [List.length_set, elf], by simp only [go_sem, seval, -Nat.reduceSubDiff, if_pos rfl, opLen, elf, e0f] <;> rfl, by simp only [go_sem, seval, -Nat.reduceSubDiff, if_pos rfl, opLen, elf, e1f], by simp only [go_sem, seval, -Nat.reduceSubDiff, if_pos rfl, opLen, elf, e2f], by simp only [go_sem, seval, -Nat.reduceSubDiff, if_pos rfl, opLen, elf, e3f], by simp only [go_sem, seval, -Nat.reduceSubDiff, if_pos rfl, opLen, elf, e9f], by simp only [go_sem, seval, -Nat.reduceSubDiff, if_pos rfl, opLen, elf, e10f]⟩, by simp only [go_sem, seval, -Nat.reduceSubDiff, if_pos rfl, opLen, elf], H1, hz1, rfl, by omega, rfl⟩) ?_
      intro x fr' σ2 lg2 hlg2 hB2 h
      obtain ⟨rfl, ts2, rfl, F2, H2, hz2⟩ := h
      have e0g := F2.t0
      have e1g := F2.t1
      have e2g := F2.t2
      have e3g := F2.t3
      have e9g := F2.t9
      have e10g := F2.t10
      have elg := F2.size
      simp only [sliceS] at e0g
      simp only [go_sem, seval, -Nat.reduceSubDiff, if_pos rfl, opLen, undef, pisB, pisA, loopOf, nthC, blockOf, Tryz.f115, Option.getD, Int.toNat_natCast, e0g, e1g, e2g, e3g, e9g, e10g, elg, b4, w3, w4]
      try simp only [go_sem, seval, -Nat.reduceSubDiff, if_pos rfl, opLen, undef, pisB, pisA, loopOf, nthC, blockOf, Tryz.f115, Option.getD, Int.toNat_natCast, e0g, e1g, e2g, e3g, e9g, e10g, elg, wu]
      refine ⟨?_, m, by omega, _, (Sort.shiftDown lt (I - 1) d1), I, rfl, ?_, by omega, by omega, by omega, H2, hz2, hD⟩
      ·first | exact ⟨.inl trivial, .inl trivial, fun z hz => hz.elim (hB2 z) (hB3 z)⟩ | exact ⟨.inl trivial, .inl trivial, hB2⟩ | exact ⟨.inl trivial, .inl trivial, hB3⟩ | exact .inl trivial
      ·exact ⟨by simp only [List.length_set, elg], by simp only [go_sem, seval, -Nat.reduceSubDiff, if_pos rfl, opLen, elg, e0g] <;> rfl, by simp only [go_sem, seval, -Nat.reduceSubDiff, if_pos rfl, opLen, elg, e1g], by simp only [go_sem, seval, -Nat.reduceSubDiff, if_pos rfl, opLen, elg, e2g], by simp only [go_sem, seval, -Nat.reduceSubDiff, if_pos rfl, opLen, elg, e3g], by simp only [go_sem, seval, -Nat.reduceSubDiff, if_pos rfl, opLen, elg, e9g], by simp only [go_sem, seval, -Nat.reduceSubDiff, if_pos rfl, opLen, elg, e10g, wu]⟩
    ·by_cases h4 : b - I ≥ 2
     ·have b3 : ¬ (2 : Int) ≤ ((I - a : Nat) : Int) := by omega
      have b4 : (2 : Int) ≤ ((b - I : Nat) : Int) := by omega
      rw [if_neg h3, if_pos h4] at hD
      simp only [go_sem, seval, -Nat.reduceSubDiff, if_pos rfl, opLen, undef, pisB, pisA, loopOf, nthC, blockOf, Tryz.f115, Option.getD, Int.toNat_natCast, e0, e1, e2, e3, e9, e10, el, c0]
      refine loop_then (qs_loop (s := s) (cap := cap) (G := G) hc H (a := a) (b := b) (u := 5 - (m + 1)) hbn (I := I) _ _ _ ⟨_, i, rfl, ⟨by simp only [List.length_set, el], by simp only [go_sem, seval, -Nat.reduceSubDiff, if_pos rfl, opLen, el, e0] <;> rfl, by simp only [go_sem, seval, -Nat.reduceSubDiff, if_pos rfl, opLen, el, e1], by simp only [go_sem, seval, -Nat.reduceSubDiff, if_pos rfl, opLen, el, e2], by simp only [go_sem, seval, -Nat.reduceSubDiff, if_pos rfl, opLen, el, e3], by simp only [go_sem, seval, -Nat.reduceSubDiff, if_pos rfl, opLen, el, e9], by simp only [go_sem, seval, -Nat.reduceSubDiff, if_pos rfl, opLen, el, e10]⟩, rfl, rfl, hai, hI⟩) ?_
      intro x fr' σ1 lg1 hlg1 hB1 h
      obtain ⟨rfl, rfl, ts1, rfl, F1⟩ := h
      obtain rfl : lg1 = [] := List.eq_nil_iff_forall_not_mem.2 fun z hz => hB1 z hz
      have e0f := F1.t0
      have e1f := F1.t1
      have e2f := F1.t2
      have e3f := F1.t3
      have e9f := F1.t9
      have e10f := F1.t10
      have elf := F1.size
      simp only [sliceS] at e0f
      simp only [go_sem, seval, -Nat.reduceSubDiff, if_pos rfl, opLen, undef, pisB, pisA, loopOf, nthC, blockOf, Tryz.f115, Option.getD, Int.toNat_natCast, e0f, e1f, e2f, e3f, e9f, e10f, elf, b1, b2, b3, b4, w3, wb, w1, w2, w4, g1, nk, x1s, x2s, l1s, l2s, o1s, o2s, l3s, p1s, p2s, p3s, p4s]
      generalize hσs : (σ1.set k (AObj.cells (cellsP (d.setIfInBounds I d[I - 1]!).toList ++ G) false)).set k (AObj.cells (cellsP ((d.setIfInBounds I d[I - 1]!).setIfInBounds (I - 1) d[I]!).toList ++ G) false) = σs at H1 ⊢
      clear hσs
      refine loop_then (qup_loop (s := s) (n := d.size) (cap := cap) (G := G) hc (a := a) (b := b) (u := 5 - (m + 1)) (i := I) (D := Sort.shiftUp lt b (I + 1) d1) hbn hn (b - (I + 1)) _ _ ⟨_, d1, I + 1, rfl, ⟨by simp only [List.length_set, elf], by simp only [go_sem, seval, -Nat.reduceSubDiff, if_pos rfl, opLen, elf, e0f] <;> rfl, by simp only [go_sem, seval, -Nat.reduceSubDiff, if_pos rfl, opLen, elf, e1f], by simp only [go_sem, seval, -Nat.reduceSubDiff, if_pos rfl, opLen, elf, e2f], by simp only [go_sem, seval, -Nat.reduceSubDiff, if_pos rfl, opLen, elf, e3f], by simp only [go_sem, seval, -Nat.reduceSubDiff, if_pos rfl, opLen, elf, e9f], by simp only [go_sem, seval, -Nat.reduceSubDiff, if_pos rfl, opLen, elf, e10f]⟩, by simp only [go_sem, seval, -Nat.reduceSubDiff, if_pos rfl, opLen, elf], H1, hz1, rfl, by omega, rfl⟩) ?_
      intro x fr' σ3 lg3 hlg3 hB3 h
      obtain ⟨rfl, ts3, rfl, F3, H3, hz3⟩ := h
      have e0h := F3.t0
      have e1h := F3.t1
      have e2h := F3.t2
      have e3h := F3.t3
      have e9h := F3.t9
      have e10h := F3.t10
      have elh := F3.size
      simp only [sliceS] at e0h
      simp only [go_sem, seval, -Nat.reduceSubDiff, if_pos rfl, opLen, undef, pisB, pisA, loopOf, nthC, blockOf, Tryz.f115, Option.getD, Int.toNat_natCast, e0h, e1h, e2h, e3h, e9h, e10h, elh, wu]
      refine ⟨?_, m, by omega, _, (Sort.shiftUp lt b (I + 1) d1), I, rfl, ?_, by omega, by omega, by omega, H3, hz3, hD⟩
      ·first | exact ⟨.inl trivial, .inl trivial, fun z hz => hz.elim (hB2 z) (hB3 z)⟩ | exact ⟨.inl trivial, .inl trivial, hB2⟩ | exact ⟨.inl trivial, .inl trivial, hB3⟩ | exact .inl trivial
      ·exact ⟨by simp only [List.length_set, elh], by simp only [go_sem, seval, -Nat.reduceSubDiff, if_pos rfl, opLen, elh, e0h] <;> rfl, by simp only [go_sem, seval, -Nat.reduceSubDiff, if_pos rfl, opLen, elh, e1h], by simp only [go_sem, seval, -Nat.reduceSubDiff, if_pos rfl, opLen, elh, e2h], by simp only [go_sem, seval, -Nat.reduceSubDiff, if_pos rfl, opLen, elh, e3h], by simp only [go_sem, seval, -Nat.reduceSubDiff, if_pos rfl, opLen, elh, e9h], by simp only [go_sem, seval, -Nat.reduceSubDiff, if_pos rfl, opLen, elh, e10h, wu]⟩
     ·have b3 : ¬ (2 : Int) ≤ ((I - a : Nat) : Int) := by omega
      have b4 : ¬ (2 : Int) ≤ ((b - I : Nat) : Int) := by omega
      rw [if_neg h3, if_neg h4] at hD
      simp only [go_sem, seval, -Nat.reduceSubDiff, if_pos rfl, opLen, undef, pisB, pisA, loopOf, nthC, blockOf, Tryz.f115, Option.getD, Int.toNat_natCast, e0, e1, e2, e3, e9, e10, el, c0]
      refine loop_then (qs_loop (s := s) (cap := cap) (G := G) hc H (a := a) (b := b) (u := 5 - (m + 1)) hbn (I := I) _ _ _ ⟨_, i, rfl, ⟨by simp only [List.length_set, el], by simp only [go_sem, seval, -Nat.reduceSubDiff, if_pos rfl, opLen, el, e0] <;> rfl, by simp only [go_sem, seval, -Nat.reduceSubDiff, if_pos rfl, opLen, el, e1], by simp only [go_sem, seval, -Nat.reduceSubDiff, if_pos rfl, opLen, el, e2], by simp only [go_sem, seval, -Nat.reduceSubDiff, if_pos rfl, opLen, el, e3], by simp only [go_sem, seval, -Nat.reduceSubDiff, if_pos rfl, opLen, el, e9], by simp only [go_sem, seval, -Nat.reduceSubDiff, if_pos rfl, opLen, el, e10]⟩, rfl, rfl, hai, hI⟩) ?_
      intro x fr' σ1 lg1 hlg1 hB1 h
      obtain ⟨rfl, rfl, ts1, rfl, F1⟩ := h
      obtain rfl : lg1 = [] := List.eq_nil_iff_forall_not_mem.2 fun z hz => hB1 z hz
      have e0f := F1.t0
      have e1f := F1.t1
      have e2f := F1.t2
      have e3f := F1.t3
      have e9f := F1.t9
      have e10f := F1.t10
      have elf := F1.size
      simp only [sliceS] at e0f
      simp only [go_sem, seval, -Nat.reduceSubDiff, if_pos rfl, opLen, undef, pisB, pisA, loopOf, nthC, blockOf, Tryz.f115, Option.getD, Int.toNat_natCast, e0f, e1f, e2f, e3f, e9f, e10f, elf, b1, b2, b3, b4, w3, wb, w1, w2, w4, g1, nk, x1s, x2s, l1s, l2s, o1s, o2s, l3s, p1s, p2s, p3s, p4s]
      generalize hσs : (σ1.set k (AObj.cells (cellsP (d.setIfInBounds I d[I - 1]!).toList ++ G) false)).set k (AObj.cells (cellsP ((d.setIfInBounds I d[I - 1]!).setIfInBounds (I - 1) d[I]!).toList ++ G) false) = σs at H1 ⊢
      clear hσs
      try simp only [go_sem, seval, -Nat.reduceSubDiff, if_pos rfl, opLen, undef, pisB, pisA, loopOf, nthC, blockOf, Tryz.f115, Option.getD, Int.toNat_natCast, e0f, e1f, e2f, e3f, e9f, e10f, elf, wu]
      refine ⟨?_, m, by omega, _, d1, I, rfl, ?_, by omega, by omega, by omega, H1, hz1, hD⟩
      ·first | exact ⟨.inl trivial, .inl trivial, fun z hz => hz.elim (hB2 z) (hB3 z)⟩ | exact ⟨.inl trivial, .inl trivial, hB2⟩ | exact ⟨.inl trivial, .inl trivial, hB3⟩ | exact .inl trivial
      ·exact ⟨by simp only [List.length_set, elf], by simp only [go_sem, seval, -Nat.reduceSubDiff, if_pos rfl, opLen, elf, e0f] <;> rfl, by simp only [go_sem, seval, -Nat.reduceSubDiff, if_pos rfl, opLen, elf, e1f], by simp only [go_sem, seval, -Nat.reduceSubDiff, if_pos rfl, opLen, elf, e2f], by simp only [go_sem, seval, -Nat.reduceSubDiff, if_pos rfl, opLen, elf, e3f], by simp only [go_sem, seval, -Nat.reduceSubDiff, if_pos rfl, opLen, elf, e9f], by simp only [go_sem, seval, -Nat.reduceSubDiff, if_pos rfl, opLen, elf, e10f, wu]⟩
set_option maxHeartbeats 3200000 in
set_option maxRecDepth 20000 in
theorem pis_call (hc : CmpOk σ0 k g ys lt p) {a b : Nat} {d : Array Pk} {σ : St} (H : SAt σ0 k d G p σ) (hab : a < b) (hbn : b ≤ d.size) :
  callX Tryz.prog 115 [sliceS k s d.size cap, .int .i64 a, .int .i64 b, .func (.func g) ⟨[]⟩ ⟨ys⟩] σ (SortE σ0 k G p (.bool (Sort.partialInsertionSort lt d a b).2) (Sort.partialInsertionSort lt d a b).1) := by
 have hsm := H.small
 have w1 : IntKind.i64.wrap ((a : Int) + 1) = ((a + 1 : Nat) : Int) := by
  have : (a : Int) + 1 = ((a + 1 : Nat) : Int) := by omega
  rw [this]; exact wrapIN (by omega)
 obtain ⟨D, hD⟩ : ∃ D, D = (Sort.partialInsertionSort lt d a b).1 := ⟨_, rfl⟩
 obtain ⟨R, hR⟩ : ∃ R, R = (Sort.partialInsertionSort lt d a b).2 := ⟨_, rfl⟩
 rw [← hD, ← hR]
 refine enter (p := q0) Tryz.func115 rfl stat115 ?_
 simp only [go_sem, seval, -Nat.reduceSubDiff, if_pos rfl, opLen, undef, sliceS, Tryz.f115, w1]
 refine loop_then (pis_loop (s := s) (n := d.size) (cap := cap) (G := G) hc (a := a) (b := b) (by omega) hbn hsm (D := D) (R := R) 5 _ _ ⟨_, d, a + 1, rfl, ⟨rfl, rfl, rfl, rfl, rfl, rfl, rfl⟩, by omega, by omega, by omega, H, rfl, by rw [hD, hR]; rfl⟩) ?_
 intro x fr' σ' lg hlg hB h
 obtain ⟨hds, hlen, H', h⟩ := h
 obtain ⟨ts', ds'⟩ := fr'
 simp only at hds hlen h
 subst hds
 rcases h with ⟨rfl, rfl⟩ | ⟨rfl, h8⟩
 ·simp only [go_sem, seval, -Nat.reduceSubDiff, if_pos rfl, opLen, undef, hlen]
  exact ⟨rfl, hB, H'⟩
 ·simp only [go_sem, seval, -Nat.reduceSubDiff, if_pos rfl, opLen, undef, hlen, h8]
  exact ⟨rfl, hB, H'⟩
end
end Go.Ab
