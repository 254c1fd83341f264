/- Maps written; calls, deferred calls, panics, recover; each with its soundness. -/
import Derived.Test.YtlipmhhndhhgdaaGreatFg
set_option linter.unusedSimpArgs false
set_option linter.unusedVariables false
namespace Go.Ab

variable {P : Program} {T : TT}

def modE : List MapEntry → Nat → Value → Value → List MapEntry
  | [], _, _, _ => []
  | e :: es, 0, k, v => { e with key := k, val := v } :: es
  | e :: es, n + 1, k, v => e :: modE es n k v

def delE : List MapEntry → Nat → List MapEntry
  | [], _ => []
  | _ :: es, 0 => es
  | e :: es, n + 1 => e :: delE es n

def pushE : List MapEntry → MapEntry → List MapEntry
  | [], x => [x]
  | e :: es, x => e :: pushE es x

theorem ME.modE {ρ : Ren} {k k' v v' : Value} (hk : VR ρ k k') (hv : VR ρ v v') : ∀ {a b : List MapEntry} (n : Nat), ME ρ a b → ME ρ (modE a n k v) (b.modify n fun e => { e with key := k', val := v' })
  | [], [], _, _ => by simp [Ab.modE, ME]
  | x :: a, y :: b, 0, h => by simp [Ab.modE, ME]; exact ⟨⟨hk, hv, h.1.2.2⟩, h.2⟩
  | x :: a, y :: b, n + 1, h => by simp [Ab.modE, ME]; exact ⟨h.1, ME.modE hk hv n h.2⟩
  | [], _ :: _, _, h => h.elim
  | _ :: _, [], _, h => h.elim

theorem ME.delE {ρ : Ren} : ∀ {a b : List MapEntry} (n : Nat), ME ρ a b → ME ρ (delE a n) (b.eraseIdx n)
  | [], [], _, _ => by simp [Ab.delE, ME]
  | x :: a, y :: b, 0, h => by simp [Ab.delE]; exact h.2
  | x :: a, y :: b, n + 1, h => by simp [Ab.delE, ME]; exact ⟨h.1, ME.delE n h.2⟩
  | [], _ :: _, _, h => h.elim
  | _ :: _, [], _, h => h.elim

theorem ME.pushE {ρ : Ren} {x y : MapEntry} (hx : VR ρ x.key y.key ∧ VR ρ x.val y.val ∧ x.born = y.born) : ∀ {a b : List MapEntry}, ME ρ a b → ME ρ (pushE a x) (b ++ [y])
  | [], [], _ => ⟨hx, trivial⟩
  | _ :: a, _ :: b, h => ⟨h.1, ME.pushE hx h.2⟩
  | [], _ :: _, h => h.elim
  | _ :: _, [], h => h.elim

def opMapUpdate (T : TT) (σ : St) (t : TypeId) (m k v : Value) : Option ORes :=
  match T.und t, m with
  | some (.map kt _), .map (some r) =>
    match σ.get r with
    | some (.map es clock) =>
      if keyOk T kt k = true then
        match findA T kt k es 0 with
        | some none => some (.eff undef (σ.set r (.map (pushE es { key := k, val := v, born := clock }) (clock + 1))) [r])
        | some (some (j, _)) => some (.eff undef (σ.set r (.map (modE es j k v) clock)) [r])
        | none => none
      else none
    | _ => none
  | _, _ => none

theorem run_setObj_map {w : World} {r : Nat} {es : Array MapEntry} {c : Nat} (h : w.heap[r]? = some (.map es c)) (o : Obj) : (setObj r o).run P w = .ok () { w with heap := w.heap.setIfInBounds r o } := by
  simp [setObj, Sem.run, h]

theorem keyThatStays_run {t : TypeId} {k : Value} (h : keyOk T t k = true) (w : World) : (Instr.keyThatStays k k).run P w = .ok k w := by
  unfold Instr.keyThatStays
  have : Instr.sameBits 10000 k k = true := sameBits_self h 9998
  simp [this]

theorem mapUpdate_sound (hT : T.Ok P) {o : Oper} {ts : List Value} {σ : St} {t : TypeId} {x y z : Operand} {m k v : Value} {r : ORes} (ho : o.op = .mapUpdate t x y z ∨ o.op = .insert t x y z) (hx : ev ts x = some m) (hy : ev ts y = some k) (hz : ev ts z = some v) (h : opMapUpdate T σ t m k v = some r) : Sound P o ts σ r := by
  unfold opMapUpdate at h
  split at h
  · rename_i kt et r' hu
    split at h
    · rename_i es clock hg
      split at h
      · rename_i hko
        have key : ∀ (ρ : Ren) (w : World) (a : Act), WR ρ σ w.heap → VRL ρ ts a.tmps.toList → ∃ (l : Loc) (es' : Array MapEntry) (v' : Value), ρ r' = some l ∧ w.heap[l.block]? = some (.map es' clock) ∧ ME ρ es es'.toList ∧ a.eval x = .map (some l.block) ∧ a.eval y = k ∧ VR ρ k k ∧ a.eval z = v' ∧ VR ρ v v' := fun ρ w a hw hts => by
          have hvx := ev_VR hts hx
          have hvy := ev_VR hts hy
          have hvz := ev_VR hts hz
          have hke := keyOk_VR hko hvy
          rw [hke] at hvy
          generalize he : a.eval x = xv at hvx
          cases hvx with
          | map hl =>
            rename_i l
            obtain ⟨es', h1, h2⟩ := hw.obj r' l _ hl hg
            exact ⟨l, es', a.eval z, hl, h1, h2, rfl, hke, hvy, rfl, hvz⟩
        have hlive : σ.get r' ≠ none := by rw [hg]; simp
        split at h
        · rename_i hf
          cases h
          refine ⟨?_, logged_put _ _ _⟩
          intro ρ w a hw hts
          obtain ⟨l, es', v', hl, h1, h2, e1, e2, hkk, e3, hvv⟩ := key ρ w a hw hts
          obtain ⟨r2, h3, h4⟩ := findKey_run hT hko w hf h2
          cases r2 with
          | some _ => exact h4.elim
          | none =>
            have hlt : l.block < w.heap.size := (hw.dom r' l hl).2
            refine ⟨ρ, undef, { w with heap := w.heap.setIfInBounds l.block (.map (es'.push { key := k, val := v', born := clock }) (clock + 1)) }, .inr ⟨?_, rfl⟩, undef_VR ρ, Aft.put hw hl hlive rfl rfl rfl rfl ⟨es'.push { key := k, val := v', born := clock }, ?_, ?_⟩⟩
            · have hget : (getObj l.block).run P w = .ok (.map es' clock) w := by simp [getObj, Sem.run, h1]
              have hck := checkKey_run (P := P) hT hko false w
              rcases ho with ho | ho <;> simp [execOp, ho, Instr.mapUpdate, run_underlying (hT.und hu), e1, e2, e3, hget, hck, h3, run_setObj_map h1]
            · simp [hlt]
            · rw [Array.toList_push]
              exact ME.pushE (x := ⟨k, v, clock⟩) (y := ⟨k, v', clock⟩) ⟨hkk, hvv, rfl⟩ h2
        · rename_i j e hf
          cases h
          refine ⟨?_, logged_put _ _ _⟩
          intro ρ w a hw hts
          obtain ⟨l, es', v', hl, h1, h2, e1, e2, hkk, e3, hvv⟩ := key ρ w a hw hts
          obtain ⟨r2, h3, h4⟩ := findKey_run hT hko w hf h2
          cases r2 with
          | none => exact h4.elim
          | some q =>
            obtain ⟨j', u⟩ := q
            obtain ⟨rfl, _, h5, e', h6, _, _⟩ := h4
            have hlt : l.block < w.heap.size := (hw.dom r' l hl).2
            -- the key that was there is this key
            have hkey : e'.key = k := by
              have hfound : ∀ (es : List MapEntry) (i : Nat), findA T kt k es i = some (some (j, e)) → k = e.key := by
                intro es
                induction es with
                | nil => intro i hq; simp [findA] at hq
                | cons x es ih =>
                  intro i hq
                  simp only [findA] at hq
                  split at hq
                  · cases hq
                  · rename_i hkq; cases hq; exact keyEq_true hkq
                  · exact ih _ hq
              have hke := hfound es 0 hf
              have hpair : ∀ (a b : List MapEntry) (n : Nat) (x y : MapEntry), ME ρ a b → a[n]? = some x → b[n]? = some y → VR ρ x.key y.key := by
                intro a
                induction a with
                | nil => intro b n x y _ hx; simp at hx
                | cons p a ih =>
                  intro b n x y hm hx hy
                  cases b with
                  | nil => exact hm.elim
                  | cons q b => cases n with
                    | zero => simp at hx hy; subst hx hy; exact hm.1.1
                    | succ n => simp at hx hy; exact ih b n x y hm.2 hx hy
              have := hpair _ _ _ _ _ h2 h5 h6
              rw [← hke] at this
              exact keyOk_VR hko this
            refine ⟨ρ, undef, { w with heap := w.heap.setIfInBounds l.block (.map (es'.modify j fun e => { e with key := k, val := v' }) clock) }, .inr ⟨?_, rfl⟩, undef_VR ρ, Aft.put hw hl hlive rfl rfl rfl rfl ⟨es'.modify j fun e => { e with key := k, val := v' }, ?_, ?_⟩⟩
            · have hget : (getObj l.block).run P w = .ok (.map es' clock) w := by simp [getObj, Sem.run, h1]
              have hck := checkKey_run (P := P) hT hko false w
              have hold : ((es'[j]?).map (·.key)).getD k = k := by
                have : es'[j]? = some e' := by simpa using h6
                rw [this]; exact hkey
              rcases ho with ho | ho <;> simp [execOp, ho, Instr.mapUpdate, run_underlying (hT.und hu), e1, e2, e3, hget, hck, h3, hold, keyThatStays_run hko, run_setObj_map h1]
            · simp [hlt]
            · rw [Array.toList_modify]
              exact ME.modE hkk hvv j h2
        · cases h
      · cases h
    · cases h
  · cases h

def opDelete (T : TT) (σ : St) (t : TypeId) (m k : Value) : Option ORes :=
  match T.und t, m with
  | some (.map kt _), .map (some r) =>
    match σ.get r with
    | some (.map es clock) =>
      if keyOk T kt k = true then
        match findA T kt k es 0 with
        | some none => some (.eff (.tuple #[]) (σ.set r (.map es clock)) [r])
        | some (some (j, _)) => some (.eff (.tuple #[]) (σ.set r (.map (delE es j) clock)) [r])
        | none => none
      else none
    | _ => none
  | _, _ => none

theorem delete_sound (hT : T.Ok P) {o : Oper} {ts : List Value} {σ : St} {t t' : TypeId} {x y : Operand} {m k : Value} {r : ORes} (ho : o.op = .call { callee := .builtin .delete, args := #[x, y], argTypes := #[t, t'] }) (hx : ev ts x = some m) (hy : ev ts y = some k) (h : opDelete T σ t m k = some r) : Sound P o ts σ r := by
  have hb : ∀ (consts : Array Bool) (as : Array Value), builtin .delete #[t, t'] o.type consts as = (do pure (.value (← Builtin.delete_ #[t, t'] o.type as))) := fun _ _ => rfl
  unfold opDelete at h
  split at h
  · rename_i kt et r' hu
    split at h
    · rename_i es clock hg
      split at h
      · rename_i hko
        have key : ∀ (ρ : Ren) (w : World) (a : Act), WR ρ σ w.heap → VRL ρ ts a.tmps.toList → ∃ (l : Loc) (es' : Array MapEntry), ρ r' = some l ∧ w.heap[l.block]? = some (.map es' clock) ∧ ME ρ es es'.toList ∧ a.eval x = .map (some l.block) ∧ a.eval y = k := fun ρ w a hw hts => by
          have hvx := ev_VR hts hx
          have hke := keyOk_VR hko (ev_VR hts hy)
          generalize he : a.eval x = xv at hvx
          cases hvx with
          | map hl =>
            rename_i l
            obtain ⟨es', h1, h2⟩ := hw.obj r' l _ hl hg
            exact ⟨l, es', hl, h1, h2, rfl, hke⟩
        have hlive : σ.get r' ≠ none := by rw [hg]; simp
        split at h
        · rename_i hf
          cases h
          refine ⟨?_, logged_put _ _ _⟩
          intro ρ w a hw hts
          obtain ⟨l, es', hl, h1, h2, e1, e2⟩ := key ρ w a hw hts
          obtain ⟨r2, h3, h4⟩ := findKey_run hT hko w hf h2
          cases r2 with
          | some _ => exact h4.elim
          | none =>
            have hlt : l.block < w.heap.size := (hw.dom r' l hl).2
            refine ⟨ρ, .tuple #[], { w with heap := w.heap.setIfInBounds l.block (.map es' clock) }, .inl ?_, undef_VR ρ, Aft.put hw hl hlive rfl rfl rfl rfl ⟨es', ?_, h2⟩⟩
            · refine exec_builtin ho fun consts => ?_
              rw [hb]
              have hget : (getObj l.block).run P w = .ok (.map es' clock) w := by simp [getObj, Sem.run, h1]
              have hck := checkKey_run (P := P) hT hko es'.isEmpty w
              simp [Builtin.delete_, run_underlying (hT.und hu), e1, e2, hget, hck, h3, run_setObj_map h1]
            · simp [hlt]
        · rename_i j e hf
          cases h
          refine ⟨?_, logged_put _ _ _⟩
          intro ρ w a hw hts
          obtain ⟨l, es', hl, h1, h2, e1, e2⟩ := key ρ w a hw hts
          obtain ⟨r2, h3, h4⟩ := findKey_run hT hko w hf h2
          cases r2 with
          | none => exact h4.elim
          | some q =>
            obtain ⟨j', u⟩ := q
            obtain ⟨rfl, _, h5, e', h6, _, _⟩ := h4
            have hlt : l.block < w.heap.size := (hw.dom r' l hl).2
            refine ⟨ρ, .tuple #[], { w with heap := w.heap.setIfInBounds l.block (.map (es'.eraseIdxIfInBounds j) clock) }, .inl ?_, undef_VR ρ, Aft.put hw hl hlive rfl rfl rfl rfl ⟨es'.eraseIdxIfInBounds j, ?_, ?_⟩⟩
            · refine exec_builtin ho fun consts => ?_
              rw [hb]
              have hget : (getObj l.block).run P w = .ok (.map es' clock) w := by simp [getObj, Sem.run, h1]
              have hck := checkKey_run (P := P) hT hko es'.isEmpty w
              simp [Builtin.delete_, run_underlying (hT.und hu), e1, e2, hget, hck, h3, run_setObj_map h1]
            · simp [hlt]
            · have : (es'.eraseIdxIfInBounds j).toList = es'.toList.eraseIdx j := by
                unfold Array.eraseIdxIfInBounds
                split
                · simp
                · rw [List.eraseIdx_of_length_le (by simp; omega)]
              rw [this]
              exact ME.delE j h2
        · cases h
      · cases h
    · cases h
  · cases h

/-! ### calls, panics -/
/-- A function that the model stands in for. -/
def extA (σ : St) : Option Ext → List Value → Option ORes
  | some .add64, [.int .u64 x, .int .u64 y, .int .u64 c] => if 0 ≤ x ∧ 0 ≤ y ∧ 0 ≤ c ∧ c ≤ 1 then some (.val (.tuple ⟨[.int .u64 ((x + y + c) % 18446744073709551616), .int .u64 ((x + y + c) / 18446744073709551616)]⟩) []) else none
  | some .sub64, [.int .u64 x, .int .u64 y, .int .u64 b] => if 0 ≤ x ∧ 0 ≤ y ∧ 0 ≤ b ∧ b ≤ 1 ∧ y + b ≤ x + 18446744073709551616 then some (.val (.tuple ⟨[.int .u64 ((x + 18446744073709551616 - y - b) % 18446744073709551616), .int .u64 (if x < y + b then 1 else 0)]⟩) []) else none
  | some .clone, [.iface t (.map (some r))] => match σ.get r with
    | some (.map es clock) => some (.new (.map es clock) (.iface t (.map (some σ.next))) [r])
    | _ => none
  | _, _ => none

/-- The function that a value leads to, and the arguments: those that are bound ahead, those of the call, what was captured. -/
def opCall (T : TT) (bodies : FuncId → Bool) (σ : St) (f : Value) (args : List Value) : Option ORes :=
  match f with
  | .func (.func g) ⟨xs⟩ ⟨ys⟩ => if bodies g then some (.enter g (xs ++ args ++ ys)) else extA σ (T.ext g) (xs ++ args ++ ys)
  | .func (.yield l) ⟨[]⟩ ⟨[]⟩ => some (.round l args)
  | _ => none

/-- Functions with a body of their own. -/
def HasBody (P : Program) (g : FuncId) : Prop := ∃ fn, P.funcs[g]? = some fn ∧ fn.body.isSome = true ∧ fn.name ≠ "runtime.NumGoroutine"

theorem callFunc_run {g : FuncId} (h : HasBody P g) (args : Array Value) (w : World) : (callFunc g args).run P w = .ok (.enter g args) w := by
  obtain ⟨fn, h1, h2, h3⟩ := h
  have h2' : fn.body.isNone = false := by cases hb : fn.body with | none => rw [hb] at h2; cases h2 | some _ => rfl
  simp [callFunc, h1, h3, h2']
  intro hn; rw [hn] at h2; cases h2

theorem run_ext {g : FuncId} {x : Ext} (h : ExtIs P g x) (args : Array Value) (w : World) : (callFunc g args).run P w = ((x.row args).run P w).andThen fun v w' => .ok (.value v) w' := by
  obtain ⟨fn, h1, h2, h3, h4, h5⟩ := h
  exact run_callFunc_extern h1 h2 h3 h4 h5 args w

theorem run_sub64Row (x y b : Int) (hx : 0 ≤ x) (hy : 0 ≤ y) (hb0 : 0 ≤ b) (hb : b ≤ 1) (hs : y + b ≤ x + 18446744073709551616) (w : World) :
    (sub64Row #[.int .u64 x, .int .u64 y, .int .u64 b]).run P w =
      .ok (.tuple #[.int .u64 ((x + 18446744073709551616 - y - b) % 18446744073709551616), .int .u64 (if x < y + b then 1 else 0)]) w := by
  have key : ∀ k : Nat, k ≤ 1 → (sub64Row #[.int .u64 x, .int .u64 y, .int .u64 (k : Int)]).run P w =
      .ok (Extern.MathBitsCarry.pair ((x.toNat + Extern.MathBitsCarry.m64 - y.toNat - k) % Extern.MathBitsCarry.m64) (if x.toNat < y.toNat + k then 1 else 0)) w := by
    intro k hk
    have : k = 0 ∨ k = 1 := by omega
    rcases this with rfl | rfl <;> rfl
  obtain ⟨k, rfl⟩ := Int.eq_ofNat_of_zero_le hb0
  rw [key k (by omega)]
  obtain ⟨X, rfl⟩ := Int.eq_ofNat_of_zero_le hx
  obtain ⟨Y, rfl⟩ := Int.eq_ofNat_of_zero_le hy
  simp only [Extern.MathBitsCarry.pair, Extern.MathBitsCarry.m64, Int.toNat_natCast, Int.ofNat_eq_natCast]
  have e1 : (((X + 2 ^ 64 - Y - k) % 2 ^ 64 : Nat) : Int) = ((X : Int) + 18446744073709551616 - Y - k) % 18446744073709551616 := by omega
  have e2 : (((if X < Y + k then 1 else 0) : Nat) : Int) = if (X : Int) < Y + k then 1 else 0 := by
    by_cases hc : X < Y + k
    · rw [if_pos hc, if_pos (by omega)]; rfl
    · rw [if_neg hc, if_neg (by omega)]; rfl
  rw [e1, e2]

theorem VRL.ints {ρ : Ren} {vs : List Value} (hp : plainL vs = true) {ws : List Value} (h : VRL ρ vs ws) (he : ∀ v ∈ vs, ∃ k n, v = .int k n) : ws = vs := by
  induction vs generalizing ws with
  | nil => cases h; rfl
  | cons v vs ih =>
    cases h with
    | cons h t =>
      obtain ⟨k, n, rfl⟩ := he v (by simp)
      cases h
      rw [ih (by simpa [plainL, plain] using hp) t fun v hv => he v (by simp [hv])]

theorem extA_sound {T : TT} (hT : T.Ok P) {o : Oper} {ts : List Value} {σ : St} {g : FuncId} {vs : List Value} {r : ORes} (h : extA σ (T.ext g) vs = some r)
    (hrun : ∀ (ρ : Ren) (a : Act), VRL ρ ts a.tmps.toList → ∃ args' : Array Value, (∀ w : World, (execOp a.eval o).run P w = (callFunc g args').run P w) ∧ VRL ρ vs args'.toList) : Sound P o ts σ r := by
  cases hx : T.ext g with
  | none => rw [hx] at h; simp [extA] at h
  | some x =>
    have hE := hT.ext g x hx
    rw [hx] at h
    unfold extA at h
    split at h
    · rename_i x y c he
      cases he
      split at h
      · rename_i hc
        cases h
        intro ρ w a hts _
        obtain ⟨args', h1, h2⟩ := hrun ρ a hts
        have := VRL.ints rfl h2 (by simp)
        obtain rfl : args' = #[.int .u64 x, .int .u64 y, .int .u64 c] := by cases args'; simp_all
        refine ⟨_, ?_, plain_VR ρ _ rfl⟩
        rw [h1, run_ext hE]
        show ((add64Entry _).run P w).andThen _ = _
        rw [run_add64 x y c hc.1 hc.2.1 hc.2.2.1 hc.2.2.2]
        rfl
      · cases h
    · rename_i x y c he
      cases he
      split at h
      · rename_i hc
        cases h
        intro ρ w a hts _
        obtain ⟨args', h1, h2⟩ := hrun ρ a hts
        have := VRL.ints rfl h2 (by simp)
        obtain rfl : args' = #[.int .u64 x, .int .u64 y, .int .u64 c] := by cases args'; simp_all
        refine ⟨_, ?_, plain_VR ρ _ rfl⟩
        rw [h1, run_ext hE]
        show ((sub64Row _).run P w).andThen _ = _
        rw [run_sub64Row x y c hc.1 hc.2.1 hc.2.2.1 hc.2.2.2.1 hc.2.2.2.2]
        rfl
      · cases h
    · rename_i t r₀ he
      cases he
      split at h
      · rename_i es clock hg
        cases h
        intro ρ w a hts hrd
        obtain ⟨args', h1, h2⟩ := hrun ρ a hts
        obtain ⟨l, hl, rfl⟩ : ∃ l : Loc, ρ r₀ = some l ∧ args' = #[.iface t (.map (some l.block))] := by
          obtain ⟨as⟩ := args'
          cases h2 with
          | cons q1 q2 =>
            cases q2
            cases q1 with
            | iface q => cases q with | map q => exact ⟨_, q, rfl⟩
        obtain ⟨es', g1, g2⟩ := hrd r₀ (by simp) l _ hl hg
        refine ⟨.iface t (.map (some w.heap.size)), w.alloc (.map es' clock), .map es' clock, 0, ?_, rfl, rfl, rfl, rfl, fun ρ' hle hn => ⟨.iface (.map hn), ⟨es', by show (w.heap.push _)[w.heap.size]? = _; simp, g2.mono hle⟩⟩⟩
        rw [h1, run_ext hE]
        have e : Ext.row .clone #[.iface t (.map (some l.block))] = (do
            let .map entries clock ← getObj l.block | stuck "maps.clone: a map expected"
            pure (.iface t (.map (some (← newObj (.map entries clock)))))) := rfl
        rw [e]
        simp [getObj, newObj, Sem.run, g1]
      · cases h
    · cases h

theorem call_sound {T : TT} (hT : T.Ok P) {bodies : FuncId → Bool} (hB : ∀ g, bodies g = true → HasBody P g) {o : Oper} {ts : List Value} {σ : St} {f : Operand} {xs : Array Operand} {tys : Array TypeId} {fv : Value} {vs : List Value} {r : ORes}
    (ho : o.op = .call { callee := .value f, args := xs, argTypes := tys }) (hf : ev ts f = some fv) (hxs : evs ts xs.toList = some vs) (h : opCall T bodies σ fv vs = some r) : Sound P o ts σ r := by
  have hargs : ∀ a : Act, xs.map a.eval = ⟨xs.toList.map a.eval⟩ := fun a => by apply Array.ext'; simp
  unfold opCall at h
  split at h
  · rename_i g us ys
    split at h
    · rename_i hbd
      cases h
      intro ρ w a hts
      have hfv := ev_VR hts hf
      have hvs := evs_VR hts hxs
      generalize he : a.eval f = fv' at hfv
      cases hfv with
      | func h1 h2 =>
        rename_i us' ys'
        refine ⟨⟨us'⟩ ++ ⟨xs.toList.map a.eval⟩ ++ ⟨ys'⟩, ?_, ?_⟩
        · simp only [execOp, ho, resolve, he, Deferred.ofValue, Sem.run_bind, Sem.run_pure, Result.andThen_ok, invoke, hargs]
          rw [callFunc_run (hB g hbd)]
        · simpa using (h1.append hvs).append h2
    · refine extA_sound hT h fun ρ a hts => ?_
      have hfv := ev_VR hts hf
      have hvs := evs_VR hts hxs
      generalize he : a.eval f = fv' at hfv
      cases hfv with
      | func h1 h2 =>
        rename_i us' ys'
        refine ⟨⟨us'⟩ ++ ⟨xs.toList.map a.eval⟩ ++ ⟨ys'⟩, fun w => ?_, ?_⟩
        · simp only [execOp, ho, resolve, he, Deferred.ofValue, Sem.run_bind, Sem.run_pure, Result.andThen_ok, invoke, hargs]
        · simpa using (h1.append hvs).append h2
  · rename_i l
    cases h
    intro ρ w a hts
    have hfv := ev_VR hts hf
    have hvs := evs_VR hts hxs
    generalize he : a.eval f = fv' at hfv
    cases hfv with
    | yield hl =>
      rename_i lc
      refine ⟨_, lc, ⟨xs.toList.map a.eval⟩, ho, hl, ?_, hvs⟩
      simp only [execOp, ho, resolve, he, Deferred.ofValue, Sem.run_bind, Sem.run_pure, Result.andThen_ok, invoke, hargs]
      simp
  · cases h

def opPanic (v : Value) : Option ORes :=
  match v with
  | .iface t u => some (.panic (.iface t u))
  | _ => none

theorem panic_sound {o : Oper} {ts : List Value} {σ : St} {x : Operand} {v : Value} {r : ORes} (ho : o.op = .panic x) (hx : ev ts x = some v) (h : opPanic v = some r) : Sound P o ts σ r := by
  unfold opPanic at h
  split at h
  · cases h
    intro ρ w a hts
    have hv := ev_VR hts hx
    generalize he : a.eval x = xv at hv
    cases hv with
    | iface hv =>
      exact ⟨_, by simp [execOp, ho, he, Instr.panic], .iface hv⟩
  · cases h

def opDefer (bodies : FuncId → Bool) (f : Value) (args : List Value) : Option ORes :=
  match f with
  | .func (.func g) ⟨xs⟩ ⟨ys⟩ => if bodies g then some (.defer { target := .fn (.func g) ⟨ys⟩, args := ⟨xs ++ args⟩ }) else none
  | _ => none

theorem defer_sound {bodies : FuncId → Bool} {o : Oper} {ts : List Value} {σ : St} {f : Operand} {xs : Array Operand} {tys : Array TypeId} {fv : Value} {vs : List Value} {r : ORes}
    (ho : o.op = .defer { callee := .value f, args := xs, argTypes := tys }) (hf : ev ts f = some fv) (hxs : evs ts xs.toList = some vs) (h : opDefer bodies fv vs = some r) : Sound P o ts σ r := by
  have hargs : ∀ a : Act, xs.map a.eval = ⟨xs.toList.map a.eval⟩ := fun a => by apply Array.ext'; simp
  unfold opDefer at h
  split at h
  · rename_i g us ys
    split at h
    · cases h
      intro ρ w a hts
      have hfv := ev_VR hts hf
      have hvs := evs_VR hts hxs
      generalize he : a.eval f = fv' at hfv
      cases hfv with
      | func h1 h2 =>
        rename_i us' ys'
        refine ⟨_, { target := .fn (.func g) ⟨ys'⟩, args := ⟨us'⟩ ++ ⟨xs.toList.map a.eval⟩ }, ho, ?_, .inl ⟨g, ⟨ys⟩, ⟨ys'⟩, rfl, rfl, h2, ?_⟩⟩
        · simp only [resolve, he, Deferred.ofValue, Sem.run_pure, hargs]
        · simpa using h1.append hvs
    · cases h
  · cases h

theorem recover_sound {o : Oper} {ts : List Value} {σ : St} {tys : Array TypeId} (ho : o.op = .call { callee := .builtin .recover, args := #[], argTypes := tys }) : Sound P o ts σ .recover := by
  intro w a
  simp [execOp, ho, resolve, invoke, builtin]

end Go.Ab
