/- Regions whose order is drawn: any order that keeps to the edges does what the text's order does, where what does not commute is ordered. -/
import Derived.Test.YtlipmhhndhhgdaaGreatFj
import Derived.OrdersIn
set_option linter.unusedSimpArgs false
set_option linter.unusedVariables false
namespace Go.Ab

variable {P : Program}

/-! ### two renamings -/
def Ren.on (ρ ρ₁ : Ren) : Ren := fun b => if ρ₁ b = none then none else ρ b
def Ren.below (ρ : Ren) (n : Nat) : Ren := fun b => if b < n then ρ b else none

theorem Ren.on_some {ρ ρ₁ : Ren} {b : Nat} {l l₁ : Loc} (h : ρ b = some l) (h₁ : ρ₁ b = some l₁) : ρ.on ρ₁ b = some l := by simp [Ren.on, h₁, h]
theorem Ren.below_some {ρ : Ren} {n b : Nat} {l : Loc} : ρ.below n b = some l ↔ b < n ∧ ρ b = some l := by
  unfold Ren.below; split <;> simp [*]
theorem Ren.below_le (ρ : Ren) (n : Nat) : (ρ.below n).le ρ := fun _ _ h => (Ren.below_some.1 h).2
theorem Ren.below_mono {ρ ρ' : Ren} (h : ρ.le ρ') {n m : Nat} (hn : n ≤ m) : (ρ.below n).le (ρ'.below m) := fun b l hb => by
  rw [Ren.below_some] at hb ⊢; exact ⟨by omega, h _ _ hb.2⟩

mutual
theorem VR.meet {ρ₁ ρ : Ren} {v : Value} : ∀ {v₁ v' : Value}, VR ρ₁ v v₁ → VR ρ v v' → VR (ρ.on ρ₁) v v' := fun {v₁ v'} h k => by
  cases k with
  | bool b => exact .bool b
  | int k n => exact .int k n
  | string s => exact .string s
  | nilFunc => exact .nilFunc
  | nilIface => exact .nilIface
  | ptrNil => exact .ptrNil
  | ptr hb => cases h with
    | ptr h₁ => exact .ptr (Ren.on_some hb h₁)
  | sliceNil => exact .sliceNil
  | sliceX hb => cases h with
    | sliceX h₁ => exact .sliceX (Ren.on_some hb h₁)
  | sliceG hb hc hg => cases h with
    | sliceG h₁ _ _ => exact .sliceG (Ren.on_some hb h₁) hc hg
  | sliceE => exact .sliceE
  | mapNil => exact .mapNil
  | map hb => cases h with
    | map h₁ => exact .map (Ren.on_some hb h₁)
  | func ha hb => cases h with
    | func h₁ h₂ => exact .func (VRL.meet h₁ ha) (VRL.meet h₂ hb)
  | yield hb => cases h with
    | yield h₁ => exact .yield (Ren.on_some hb h₁)
  | iface hb => cases h with
    | iface h₁ => exact .iface (VR.meet h₁ hb)
  | agg hb => cases h with
    | agg h₁ => exact .agg (VRL.meet h₁ hb)
  | tuple hb => cases h with
    | tuple h₁ => exact .tuple (VRL.meet h₁ hb)
theorem VRL.meet {ρ₁ ρ : Ren} {v : List Value} : ∀ {v₁ v' : List Value}, VRL ρ₁ v v₁ → VRL ρ v v' → VRL (ρ.on ρ₁) v v' := fun {v₁ v'} h k => by
  cases k with
  | nil => exact .nil
  | cons k ks => cases h with
    | cons h hs => exact .cons (VR.meet h k) (VRL.meet hs ks)
end

theorem ME.meet {ρ₁ ρ : Ren} : ∀ {v v₁ v' : List MapEntry}, ME ρ₁ v v₁ → ME ρ v v' → ME (ρ.on ρ₁) v v'
  | [], [], [], _, _ => trivial
  | _ :: _, _ :: _, _ :: _, h, k => ⟨⟨h.1.1.meet k.1.1, h.1.2.1.meet k.1.2.1, k.1.2.2⟩, ME.meet h.2 k.2⟩
  | [], _ :: _, _, h, _ => h.elim
  | _ :: _, [], _, h, _ => h.elim
  | [], [], _ :: _, _, k => k.elim
  | _ :: _, _ :: _, [], _, k => k.elim

theorem OR.meet {ρ₁ ρ : Ren} {l₁ l : Loc} {H₁ H : Array Obj} {o : AObj} (h : OR ρ₁ l₁ H₁ o) (k : OR ρ l H o) : OR (ρ.on ρ₁) l H o := by
  cases o with
  | cells vs ro =>
    obtain ⟨c, e, fz, h1, h2, h3, h4, h6⟩ := k
    obtain ⟨_, _, _, _, _, _, _, g6⟩ := h
    exact ⟨c, e, fz, h1, h2, h3, h4, g6.meet h6⟩
  | map es clock => obtain ⟨es', h1, h2⟩ := k; obtain ⟨_, _, g2⟩ := h; exact ⟨es', h1, g2.meet h2⟩
  | mapIter m a b c => obtain ⟨m', h1, h2⟩ := k; obtain ⟨_, _, g2⟩ := h; exact ⟨m', h1, g2.meet h2⟩
  | stringIter s pos => exact k
  | loop r => obtain ⟨ts, d, ld, g, h1, h2, h3, h4⟩ := k; obtain ⟨_, _, _, _, _, g2, g3, _⟩ := h; exact ⟨ts, d, ld, g, h1, g2.meet h2, Ren.on_some h3 g3, h4⟩
  | deferred n => exact k

theorem lget_eq (vs : List Value) (n : Nat) : lget vs n = (vs[n]?).getD undef := by
  induction vs generalizing n with
  | nil => simp [lget]
  | cons v vs ih => cases n with
    | zero => simp [lget]
    | succ n => simp [lget, ih]

theorem lget_set (vs : List Value) (d t : Nat) (v : Value) : lget (vs.set d v) t = if d = t ∧ d < vs.length then v else lget vs t := by
  rw [lget_eq, lget_eq]
  by_cases e : d = t
  · subst e
    by_cases h : d < vs.length
    · simp [h]
    · simp [h]
  · simp [List.getElem?_set_ne e, e]

/-! ### a run in the text's order, as a table -/
inductive SK where
  | pure (rd : List Nat)
  | alloc (ob : AObj) (rd : List Nat)
  | full (lg : List Nat)

def SK.lg : SK → List Nat
  | .full lg => lg
  | _ => []
def SK.rd : SK → List Nat
  | .full _ => []
  | .pure rd => rd
  | .alloc _ rd => rd
def SK.isFull : SK → Bool
  | .full _ => true
  | _ => false

structure Tab where
  n : Nat
  ts : Nat → List Value
  σ : Nat → St
  v : Nat → Value
  kd : Nat → SK
  dst : Nat → Option Tmp
  lk : Nat → List Tmp
  bf : Nat → Nat → Bool

/-- Operation 'k' makes the block 'c', or turns it. -/
def Tab.tch (X : Tab) (c k : Nat) : Prop := (X.σ k).next ≤ c ∧ c < (X.σ (k + 1)).next ∨ c < (X.σ k).next ∧ c ∈ (X.kd k).lg

def SlotR (ρ : Ren) (ts : List Value) (a : Act) (t : Nat) : Prop := VR ρ (lget ts t) (lget a.tmps.toList t)

def Tab.sem (X : Tab) (F : Fence) (P : Program) (ops : Array Oper) (Q : Exit → Act → World → Prop) (i : Nat) : Prop :=
  ∀ (ρ : Ren) (w : World) (a : Act) (K : Act → World → Prop), a.tmps.size = (X.ts i).length → (∀ t ∈ X.lk i, SlotR ρ (X.ts i) a t) →
    match X.kd i with
    | .pure rd => Reads ρ (X.σ i) w.heap rd → (∀ v', VR ρ (X.v i) v' → K (a.put (X.dst i) v') w) → wpOpIn F 0 P ops Q i K a w
    | .alloc ob rd => Reads ρ (X.σ i) w.heap rd →
        (∀ v' w' obj sz, w'.heap = w.heap.push obj → w'.tape = w.tape → w'.os = w.os → w'.output = w.output →
          (∀ ρ' : Ren, ρ.le ρ' → ρ' (X.σ i).next = some ⟨w.heap.size, 0, sz, none⟩ → VR ρ' (X.v i) v' ∧ OR ρ' ⟨w.heap.size, 0, sz, none⟩ w'.heap ob) → K (a.put (X.dst i) v') w') → wpOpIn F 0 P ops Q i K a w
    | .full _ => WR ρ (X.σ i) w.heap → (∀ ρ' v' w', VR ρ' (X.v i) v' → Aft ρ (X.σ i) w ρ' (X.σ (i + 1)) w' → K (a.put (X.dst i) v') w') → wpOpIn F 0 P ops Q i K a w

structure Tab.Ok (X : Tab) (F : Fence) (P : Program) (ops : Array Oper) (Q : Exit → Act → World → Prop) : Prop where
  size : ops.size = X.n
  sem : ∀ i, i < X.n → X.sem F P ops Q i
  nxt : ∀ i, i < X.n → match X.kd i with
    | .pure _ => X.σ (i + 1) = X.σ i
    | .alloc ob _ => X.σ (i + 1) = (X.σ i).new ob
    | .full lg => Logged (X.σ i) (X.σ (i + 1)) lg
  put : ∀ i, i < X.n → X.ts (i + 1) = match X.dst i with
    | some d => (X.ts i).set d (X.v i)
    | none => X.ts i
  slots : ∀ i j t, i < j → j < X.n → X.dst i = some t ∧ (t ∈ X.lk j ∨ X.dst j = some t) ∨ t ∈ X.lk i ∧ X.dst j = some t → X.bf i j = true
  effs : ∀ i j, i < j → j < X.n → (X.kd i).isFull = true → (X.kd j).isFull = true → (X.kd i).lg ≠ [] ∨ (X.kd j).lg ≠ [] → X.bf i j = true
  makes : ∀ i j c, i < j → j < X.n → (X.σ i).next ≤ c → c < (X.σ (i + 1)).next → c ∈ (X.kd j).lg ∨ c ∈ (X.kd j).rd → X.bf i j = true
  reads : ∀ i j c, i < j → j < X.n → c ∈ (X.kd i).rd ∧ c ∈ (X.kd j).lg ∨ c ∈ (X.kd i).lg ∧ c ∈ (X.kd j).rd → X.bf i j = true
  /-- what is ready: all that is before it is done -/
  ready : ∀ (listed : Array Bool) i, (∀ j k, k < X.n → listed.getD k false = true → X.bf j k = true → listed.getD j false = true) →
    i ∈ Region.ready .any ops listed → ∀ j, X.bf j i = true → listed.getD j false = true
  done : ∀ (listed : Array Bool), listed.size = X.n → Region.ready .any ops listed = [] → ∀ i, i < X.n → listed.getD i false = true

variable {X : Tab} {F : Fence} {ops : Array Oper} {Q : Exit → Act → World → Prop}

theorem Tab.Ok.next_le (hX : X.Ok F P ops Q) {i : Nat} (hi : i < X.n) : (X.σ i).next ≤ (X.σ (i + 1)).next := by
  have := hX.nxt i hi
  cases hk : X.kd i with
  | pure rd => rw [hk] at this; simp only at this; rw [this]; omega
  | alloc ob rd => rw [hk] at this; simp only at this; rw [this]; simp
  | full lg => rw [hk] at this; exact this.1

theorem Tab.Ok.next_mono (hX : X.Ok F P ops Q) {i j : Nat} (hij : i ≤ j) (hj : j ≤ X.n) : (X.σ i).next ≤ (X.σ j).next := by
  induction j with
  | zero => have : i = 0 := by omega
            subst this; omega
  | succ j ih =>
    by_cases e : i = j + 1
    · subst e; omega
    · exact Nat.le_trans (ih (by omega) (by omega)) (hX.next_le (by omega))

theorem Tab.Ok.calm (hX : X.Ok F P ops Q) {i c : Nat} (hi : i < X.n) (hc : c < (X.σ i).next) (ht : ¬ X.tch c i) : (X.σ (i + 1)).get c = (X.σ i).get c := by
  have := hX.nxt i hi
  cases hk : X.kd i with
  | pure rd => rw [hk] at this; simp only at this; rw [this]
  | alloc ob rd => rw [hk] at this; simp only at this; rw [this, St.get_new, if_neg (by omega)]
  | full lg =>
    rw [hk] at this
    exact this.2 c hc fun h => ht (.inr ⟨hc, by rw [hk]; exact h⟩)

theorem Tab.Ok.between (hX : X.Ok F P ops Q) {c p m : Nat} (hpm : p ≤ m) (hm : m ≤ X.n) (hc : c < (X.σ p).next) (ht : ∀ k, p ≤ k → k < m → ¬ X.tch c k) : (X.σ m).get c = (X.σ p).get c := by
  induction m with
  | zero => have : p = 0 := by omega
            subst this; rfl
  | succ m ih =>
    by_cases e : p = m + 1
    · subst e; rfl
    · have hpm' : p ≤ m := by omega
      have := hX.next_mono hpm' (by omega : m ≤ X.n)
      rw [hX.calm (by omega) (by omega) (ht m hpm' (by omega)), ih hpm' (by omega) fun k h1 h2 => ht k h1 (by omega)]

theorem Tab.Ok.between_slot (hX : X.Ok F P ops Q) {t p m : Nat} (hpm : p ≤ m) (hm : m ≤ X.n) (ht : ∀ k, p ≤ k → k < m → X.dst k ≠ some t) : lget (X.ts m) t = lget (X.ts p) t := by
  induction m with
  | zero => have : p = 0 := by omega
            subst this; rfl
  | succ m ih =>
    by_cases e : p = m + 1
    · subst e; rfl
    · have hpm' : p ≤ m := by omega
      rw [← ih hpm' (by omega) fun k h1 h2 => ht k h1 (by omega), hX.put m (by omega)]
      have := ht m hpm' (by omega)
      cases hd : X.dst m with
      | none => rfl
      | some d =>
        rw [hd] at this
        rw [lget_set, if_neg (by rintro ⟨e, _⟩; subst e; exact this rfl)]

theorem Tab.Ok.ts_len (hX : X.Ok F P ops Q) {m : Nat} (hm : m ≤ X.n) : (X.ts m).length = (X.ts 0).length := by
  induction m with
  | zero => rfl
  | succ m ih =>
    rw [hX.put m (by omega)]
    cases X.dst m <;> simp [ih (by omega)]

/-! ### what is so between -/
/-- 'm' is a place of the text's order at which just those that turn it, and are done, lie behind. -/
def Tab.at (X : Tab) (S tc : Nat → Prop) (m : Nat) : Prop := m ≤ X.n ∧ (∀ k, k < m → tc k → S k) ∧ (∀ k, m ≤ k → k < X.n → tc k → ¬ S k)

structure Inv (X : Tab) (ρ₀ : Ren) (w₀ : World) (ds : List Deferred) (S : Nat → Prop) (g : Nat → Option AObj) (ρ : Ren) (w : World) (a : Act) : Prop where
  len : a.tmps.size = (X.ts 0).length
  slot : ∀ t m, X.at S (fun k => X.dst k = some t) m → VR (ρ.below (X.σ m).next) (lget (X.ts m) t) (lget a.tmps.toList t)
  ds : DRL (ρ.below (X.σ 0).next) ds a.defers
  cont : ∀ c m, X.at S (X.tch c) m → c < (X.σ m).next → g c = (X.σ m).get c
  dom : ∀ c l, ρ c = some l → l.block < w.heap.size ∧ (c < (X.σ 0).next ∨ ∃ k, k < X.n ∧ S k ∧ (X.σ k).next ≤ c ∧ c < (X.σ (k + 1)).next)
  obj : ∀ c m l o, X.at S (X.tch c) m → c < (X.σ m).next → ρ c = some l → g c = some o → OR (ρ.below (X.σ m).next) l w.heap o
  inj : ∀ b b' l l', ρ b = some l → ρ b' = some l' → g b ≠ none → g b' ≠ none → l.block = l'.block → b = b'
  ext : ∀ b, b < (X.σ 0).next → ρ b = ρ₀ b
  size : w₀.heap.size ≤ w.heap.size
  fr : ∀ k, k < w₀.heap.size → (∀ b l, ρ₀ b = some l → (X.σ 0).get b ≠ none → l.block ≠ k) → w.heap[k]? = w₀.heap[k]?
  kept : ∀ b, b < (X.σ 0).next → ρ₀ b = none → g b = (X.σ 0).get b
  dead : ∀ b, b < (X.σ 0).next → (X.σ 0).get b = none → g b = none
  fresh : ∀ b l, (X.σ 0).next ≤ b → ρ b = some l → w₀.heap.size ≤ l.block ∨ ∃ b₀ l₀, ρ₀ b₀ = some l₀ ∧ (X.σ 0).get b₀ ≠ none ∧ l₀.block = l.block
  tape : w.tape = w₀.tape
  os : w.os = w₀.os
  out : w.output = w₀.output

section
variable {ρ₀ : Ren} {w₀ : World} {ds : List Deferred} {S : Nat → Prop} {g : Nat → Option AObj} {ρ : Ren} {w : World} {a : Act} {i : Nat}

/-- What is done is closed, 'i' is not done, all that is before it is. -/
structure Turn (X : Tab) (S : Nat → Prop) (i : Nat) : Prop where
  lt : i < X.n
  new : ¬ S i
  pre : ∀ j, X.bf j i = true → S j
  closed : ∀ j k, k < X.n → S k → X.bf j k = true → S j

theorem Turn.at {tc : Nat → Prop} (hi : Turn X S i) (h : ∀ k, k < i → tc k → X.bf k i = true ∨ S k) (k : ∀ k, i < k → k < X.n → tc k → X.bf i k = true) : X.at S tc i :=
  ⟨Nat.le_of_lt hi.lt, fun j hj ht => (h j hj ht).elim (hi.pre j) id, fun j hj hjn ht hs => by
    by_cases e : j = i
    · subst e; exact hi.new hs
    · exact hi.new (hi.closed i j hjn hs (k j (by omega) hjn ht))⟩

/-- What 'i' turns is of the place behind 'i', when 'i' is done. -/
theorem Turn.at_self {tc : Nat → Prop} {m : Nat} (hi : Turn X S i) (ho : ∀ k, i < k → k < X.n → tc k → X.bf i k = true) (ht : tc i) (h : X.at (fun k => S k ∨ k = i) tc m) :
    i < m ∧ ∀ k, i + 1 ≤ k → k < m → ¬ tc k := by
  have him : i < m := by
    by_cases e : m ≤ i
    · exact absurd (.inr rfl) (h.2.2 i e hi.lt ht)
    · omega
  refine ⟨him, fun k hk hkm htk => ?_⟩
  rcases h.2.1 k hkm htk with hs | e
  · have := h.1
    exact hi.new (hi.closed i k (by omega) hs (ho k (by omega) (by omega) htk))
  · omega

theorem Turn.at_other {tc : Nat → Prop} {m : Nat} (ht : ¬ tc i) (h : X.at (fun k => S k ∨ k = i) tc m) : X.at S tc m :=
  ⟨h.1, fun k hk hk' => (h.2.1 k hk hk').elim id fun e => absurd (e ▸ hk') ht, fun k hk hkn hk' hs => h.2.2 k hk hkn hk' (.inl hs)⟩

theorem Inv.new_slots (hX : X.Ok F P ops Q) (h : Inv X ρ₀ w₀ ds S g ρ w a) (hi : Turn X S i) {ρ' : Ren} (hle : ρ.le ρ') {v' : Value} (hv : VR (ρ'.below (X.σ (i + 1)).next) (X.v i) v') :
    ∀ t m, X.at (fun k => S k ∨ k = i) (fun k => X.dst k = some t) m → VR (ρ'.below (X.σ m).next) (lget (X.ts m) t) (lget (a.put (X.dst i) v').tmps.toList t) := by
  intro t m hat
  by_cases ht : X.dst i = some t
  · have ho : ∀ k, i < k → k < X.n → X.dst k = some t → X.bf i k = true := fun k hk hkn hd => hX.slots i k t hk hkn (.inl ⟨ht, .inr hd⟩)
    obtain ⟨him, hno⟩ := hi.at_self ho ht hat
    rw [hX.between_slot him hat.1 hno, hX.put i hi.lt, ht]
    simp only [Act.put, Array.toList_setIfInBounds]
    rw [lget_set, lget_set]
    have hl : (X.ts i).length = a.tmps.toList.length := by rw [hX.ts_len (Nat.le_of_lt hi.lt), ← h.len]; simp
    by_cases hlt : t < (X.ts i).length
    · rw [if_pos ⟨rfl, hlt⟩, if_pos ⟨rfl, hl ▸ hlt⟩]
      exact hv.mono (Ren.below_mono (Ren.le_refl _) (hX.next_mono him hat.1))
    · rw [if_neg (fun h => hlt h.2), if_neg (fun h => hlt (hl.symm ▸ h.2))]
      rw [lget_eq, lget_eq, List.getElem?_eq_none (Nat.le_of_not_lt hlt), List.getElem?_eq_none (Nat.le_of_not_lt (hl ▸ hlt))]
      exact undef_VR _
  · have : lget (a.put (X.dst i) v').tmps.toList t = lget a.tmps.toList t := by
      cases hd : X.dst i with
      | none => rfl
      | some d =>
        rw [hd] at ht
        simp only [Act.put, Array.toList_setIfInBounds, lget_set]
        rw [if_neg]; rintro ⟨e, _⟩; subst e; exact ht rfl
    rw [this]
    exact (h.slot t m (Turn.at_other ht hat)).mono (Ren.below_mono hle (Nat.le_refl _))

theorem Inv.put_len (h : Inv X ρ₀ w₀ ds S g ρ w a) (d : Option Tmp) (v' : Value) : (a.put d v').tmps.size = (X.ts 0).length := by
  cases d <;> simp [Act.put, h.len]
theorem put_defers (a : Act) (d : Option Tmp) (v' : Value) : (a.put d v').defers = a.defers := by cases d <;> rfl

theorem Inv.slot_at (hX : X.Ok F P ops Q) (h : Inv X ρ₀ w₀ ds S g ρ w a) (hi : Turn X S i) : ∀ t ∈ X.lk i, SlotR (ρ.below (X.σ i).next) (X.ts i) a t := fun t ht =>
  h.slot t i (hi.at (fun k hk hd => .inl (hX.slots k i t hk hi.lt (.inl ⟨hd, .inl ht⟩))) fun k hk hkn hd => hX.slots i k t hk hkn (.inr ⟨ht, hd⟩))

theorem Tab.Ok.window (hX : X.Ok F P ops Q) {c k j : Nat} (hk : k < X.n) (hj : j < X.n) (h1 : (X.σ k).next ≤ c) (h2 : c < (X.σ (k + 1)).next) (h3 : (X.σ j).next ≤ c) (h4 : c < (X.σ (j + 1)).next) : k = j := by
  rcases Nat.lt_trichotomy k j with h | h | h
  · have := hX.next_mono (by omega : k + 1 ≤ j) (by omega : j ≤ X.n); omega
  · exact h
  · have := hX.next_mono (by omega : j + 1 ≤ k) (by omega : k ≤ X.n); omega

/-- Those that turn the same block are ordered. -/
theorem Tab.Ok.ordered (hX : X.Ok F P ops Q) {c i j : Nat} (hij : i < j) (hj : j < X.n) (h : X.tch c i) (k : X.tch c j) : X.bf i j = true := by
  have full : ∀ {k : Nat}, c ∈ (X.kd k).lg → (X.kd k).isFull = true ∧ (X.kd k).lg ≠ [] := fun {k} hm => by
    cases hk : X.kd k with
    | full lg => rw [hk] at hm; exact ⟨rfl, List.ne_nil_of_mem hm⟩
    | _ => rw [hk] at hm; cases hm
  rcases h with ⟨h1, h2⟩ | ⟨h1, h2⟩
  · rcases k with ⟨k1, k2⟩ | ⟨k1, k2⟩
    · have := hX.window (by omega) hj h1 h2 k1 k2; omega
    · exact hX.makes i j c hij hj h1 h2 (.inl k2)
  · rcases k with ⟨k1, k2⟩ | ⟨k1, k2⟩
    · have := hX.next_mono (by omega : i ≤ j) (by omega); omega
    · exact hX.effs i j hij hj (full h2).1 (full k2).1 (.inl (full h2).2)

/-- What a reading sees. -/
theorem Inv.reads (hX : X.Ok F P ops Q) (h : Inv X ρ₀ w₀ ds S g ρ w a) (hi : Turn X S i) : Reads (ρ.below (X.σ i).next) (X.σ i) w.heap (X.kd i).rd := by
  intro c hc l o hl ho
  rw [Ren.below_some] at hl
  have notfull : (X.kd i).lg = [] := by
    cases hk : X.kd i with
    | full lg => rw [hk] at hc; cases hc
    | _ => rfl
  have hat : X.at S (X.tch c) i := hi.at
    (fun k hk ht => .inl (by
      rcases ht with ⟨h1, h2⟩ | ⟨h1, h2⟩
      · exact hX.makes k i c hk hi.lt h1 h2 (.inr hc)
      · exact hX.reads k i c hk hi.lt (.inr ⟨h2, hc⟩)))
    fun k hk hkn ht => by
      rcases ht with ⟨h1, h2⟩ | ⟨h1, h2⟩
      · have := hX.next_mono (by omega : i ≤ k) (by omega); omega
      · exact hX.reads i k c hk hkn (.inl ⟨hc, h2⟩)
  have hg := h.cont c i hat hl.1
  exact h.obj c i l o hat hl.1 hl.2 (hg.trans ho)

/-- What an effect sees: all of the state ahead of it. -/
theorem Inv.full_at (hX : X.Ok F P ops Q) (h : Inv X ρ₀ w₀ ds S g ρ w a) (hi : Turn X S i) (hf : (X.kd i).isFull = true) {c : Nat} (hc : c < (X.σ i).next) (hm : c < (X.σ 0).next ∨ ρ c ≠ none) :
    X.at S (X.tch c) i := by
  have full : ∀ {k : Nat}, c ∈ (X.kd k).lg → (X.kd k).isFull = true ∧ (X.kd k).lg ≠ [] := fun {k} hm => by
    cases hk : X.kd k with
    | full lg => rw [hk] at hm; exact ⟨rfl, List.ne_nil_of_mem hm⟩
    | _ => rw [hk] at hm; cases hm
  refine hi.at (fun k hk ht => ?_) fun k hk hkn ht => ?_
  · have := hi.lt
    rcases ht with ⟨h1, h2⟩ | ⟨h1, h2⟩
    · have hb : (X.σ 0).next ≤ (X.σ k).next := hX.next_mono (Nat.zero_le _) (by omega)
      have hr : ρ c ≠ none := hm.elim (fun h => by omega) id
      cases hl : ρ c with
      | none => exact absurd hl hr
      | some l =>
        rcases (h.dom c l hl).2 with h0 | ⟨k', hk', hs, h3, h4⟩
        · omega
        · have := hX.window (by omega) hk' h1 h2 h3 h4
          subst this; exact .inr hs
    · exact .inl (hX.effs k i hk hi.lt (full h2).1 hf (.inl (full h2).2))
  · rcases ht with ⟨h1, h2⟩ | ⟨h1, h2⟩
    · have := hX.next_mono (by omega : i ≤ k) (by omega); omega
    · exact hX.effs i k hk hkn hf (full h2).1 (.inr (full h2).2)

theorem Inv.wr (hX : X.Ok F P ops Q) (h : Inv X ρ₀ w₀ ds S g ρ w a) (hi : Turn X S i) (hf : (X.kd i).isFull = true) : WR (ρ.below (X.σ i).next) (X.σ i) w.heap where
  dom b l hl := by rw [Ren.below_some] at hl; exact ⟨hl.1, (h.dom b l hl.2).1⟩
  obj b l o hl ho := by
    rw [Ren.below_some] at hl
    have hat := h.full_at hX hi hf hl.1 (.inr (by rw [hl.2]; simp))
    exact h.obj b i l o hat hl.1 hl.2 ((h.cont b i hat hl.1).trans ho)
  inj b b' l l' hl hl' hg hg' hbl := by
    rw [Ren.below_some] at hl hl'
    have hat := h.full_at hX hi hf hl.1 (.inr (by rw [hl.2]; simp))
    have hat' := h.full_at hX hi hf hl'.1 (.inr (by rw [hl'.2]; simp))
    exact h.inj b b' l l' hl.2 hl'.2 (by rw [h.cont b i hat hl.1]; exact hg) (by rw [h.cont b' i hat' hl'.1]; exact hg') hbl

open Classical in
/-- The contents behind 'i'. -/
noncomputable def Tab.turned (X : Tab) (g : Nat → Option AObj) (i : Nat) : Nat → Option AObj := fun c => if X.tch c i then (X.σ (i + 1)).get c else g c

theorem Inv.new_cont (hX : X.Ok F P ops Q) (h : Inv X ρ₀ w₀ ds S g ρ w a) (hi : Turn X S i) :
    ∀ c m, X.at (fun k => S k ∨ k = i) (X.tch c) m → c < (X.σ m).next → X.turned g i c = (X.σ m).get c := by
  intro c m hat hc
  unfold Tab.turned
  by_cases ht : X.tch c i
  · rw [if_pos ht]
    obtain ⟨him, hno⟩ := hi.at_self (fun k hk hkn hk' => hX.ordered hk hkn ht hk') ht hat
    refine (hX.between (p := i + 1) him hat.1 ?_ hno).symm
    have := hX.next_le hi.lt
    rcases ht with ⟨_, h2⟩ | ⟨h1, _⟩ <;> omega
  · rw [if_neg ht]
    exact h.cont c m (Turn.at_other ht hat) hc

/-- Nothing is turned. -/
theorem Inv.step_pure (hX : X.Ok F P ops Q) (h : Inv X ρ₀ w₀ ds S g ρ w a) (hi : Turn X S i) {rd : List Nat} (hk : X.kd i = .pure rd) {v' : Value} (hv : VR (ρ.below (X.σ i).next) (X.v i) v') :
    Inv X ρ₀ w₀ ds (fun k => S k ∨ k = i) (X.turned g i) ρ w (a.put (X.dst i) v') := by
  have hσ : X.σ (i + 1) = X.σ i := by have := hX.nxt i hi.lt; rw [hk] at this; exact this
  have hno : ∀ c, ¬ X.tch c i := by
    rintro c (⟨h1, h2⟩ | ⟨_, h2⟩)
    · rw [hσ] at h2; omega
    · rw [hk] at h2; cases h2
  have hg : X.turned g i = g := funext fun c => by unfold Tab.turned; rw [if_neg (hno c)]
  have hcont := h.new_cont hX hi
  rw [hg] at hcont ⊢
  exact { h with
    len := h.put_len _ _, slot := h.new_slots hX hi (Ren.le_refl _) (by rw [hσ]; exact hv), ds := by rw [put_defers]; exact h.ds, cont := hcont
    dom := fun c l hl => ⟨(h.dom c l hl).1, (h.dom c l hl).2.imp id fun ⟨k, h1, h2, h3⟩ => ⟨k, h1, .inl h2, h3⟩⟩
    obj := fun c m l o hat => h.obj c m l o (Turn.at_other (hno c) hat) }

/-- A block more. -/
theorem Inv.step_alloc (hX : X.Ok F P ops Q) (h : Inv X ρ₀ w₀ ds S g ρ w a) (hi : Turn X S i) {ob : AObj} {rd : List Nat} (hk : X.kd i = .alloc ob rd) {v' : Value} {w' : World} {obj : Obj} {sz : Nat}
    (hh : w'.heap = w.heap.push obj) (ht : w'.tape = w.tape) (hos : w'.os = w.os) (hout : w'.output = w.output)
    (hv : ∀ ρ' : Ren, (ρ.below (X.σ i).next).le ρ' → ρ' (X.σ i).next = some ⟨w.heap.size, 0, sz, none⟩ → VR ρ' (X.v i) v' ∧ OR ρ' ⟨w.heap.size, 0, sz, none⟩ w'.heap ob) :
    Inv X ρ₀ w₀ ds (fun k => S k ∨ k = i) (X.turned g i) (ρ.add (X.σ i).next ⟨w.heap.size, 0, sz, none⟩) w' (a.put (X.dst i) v') := by
  have hσ : X.σ (i + 1) = (X.σ i).new ob := by have := hX.nxt i hi.lt; rw [hk] at this; exact this
  have hn : (X.σ (i + 1)).next = (X.σ i).next + 1 := by rw [hσ]; rfl
  have htc : ∀ c, X.tch c i ↔ c = (X.σ i).next := fun c => by
    unfold Tab.tch
    rw [hk, hn]
    constructor
    · rintro (⟨h1, h2⟩ | ⟨_, h2⟩)
      · omega
      · cases h2
    · intro e; exact .inl (by omega)
  have hnone : ρ (X.σ i).next = none := by
    cases hl : ρ (X.σ i).next with
    | none => rfl
    | some l =>
      rcases (h.dom _ l hl).2 with h0 | ⟨k, hkn, hs, h3, h4⟩
      · have := hX.next_mono (Nat.zero_le i) (Nat.le_of_lt hi.lt); omega
      · have := hX.window hi.lt hkn (Nat.le_refl _) (by omega) h3 h4
        subst this; exact absurd hs hi.new
  have hle : ρ.le (ρ.add (X.σ i).next ⟨w.heap.size, 0, sz, none⟩) := fun b l hl => by
    rw [Ren.add_other]; exact hl
    intro e; subst e; rw [hnone] at hl; cases hl
  have hold : ∀ k, k < w.heap.size → w'.heap[k]? = w.heap[k]? := fun k hk => by rw [hh, Array.getElem?_push_lt hk, Array.getElem?_eq_getElem hk]
  have hle' : (ρ.below (X.σ i).next).le ((ρ.add (X.σ i).next ⟨w.heap.size, 0, sz, none⟩).below (X.σ (i + 1)).next) := Ren.below_mono hle (by omega)
  obtain ⟨hv1, hv2⟩ := hv _ hle' (by rw [Ren.below_some]; exact ⟨by omega, Ren.add_same _ _ _⟩)
  have hother : ∀ c, c ≠ (X.σ i).next → X.turned g i c = g c := fun c hc => by unfold Tab.turned; rw [if_neg (by rw [htc]; exact hc)]
  have hsame : X.turned g i (X.σ i).next = some ob := by unfold Tab.turned; rw [if_pos ((htc _).2 rfl), hσ, St.get_new, if_pos rfl]
  have h0 := hX.next_mono (Nat.zero_le i) (Nat.le_of_lt hi.lt)
  refine { len := h.put_len _ _, slot := h.new_slots hX hi hle hv1, ds := by rw [put_defers]; exact h.ds.mono (Ren.below_mono hle (Nat.le_refl _)), cont := h.new_cont hX hi,
           dom := ?_, obj := ?_, inj := ?_, ext := ?_, size := ?_, fr := ?_, kept := ?_, dead := ?_, fresh := ?_, tape := ht.trans h.tape, os := hos.trans h.os, out := hout.trans h.out }
  · intro c l hl
    by_cases e : c = (X.σ i).next
    · subst e
      rw [Ren.add_same] at hl; cases hl
      exact ⟨by rw [hh]; simp, .inr ⟨i, hi.lt, .inr rfl, Nat.le_refl _, by omega⟩⟩
    · rw [Ren.add_other _ _ e] at hl
      have := h.dom c l hl
      exact ⟨by rw [hh]; simp; omega, this.2.imp id fun ⟨k, h1, h2, h3⟩ => ⟨k, h1, .inl h2, h3⟩⟩
  · intro c m l o hat hc hl ho
    by_cases e : c = (X.σ i).next
    · subst e
      rw [Ren.add_same] at hl; cases hl
      rw [hsame] at ho; cases ho
      obtain ⟨him, _⟩ := hi.at_self (fun k hk hkn hk' => hX.ordered hk hkn ((htc _).2 rfl) hk') ((htc _).2 rfl) hat
      exact hv2.mono (Ren.below_mono (Ren.le_refl _) (hX.next_mono him hat.1))
    · rw [Ren.add_other _ _ e] at hl
      rw [hother c e] at ho
      refine ((h.obj c m l o (Turn.at_other (by rw [htc]; exact e) hat) hc hl ho).of_block (hold _ (h.dom c l hl).1)).mono (Ren.below_mono hle (Nat.le_refl _))
  · intro b b' l l' hl hl' hg hg' hbl
    by_cases e : b = (X.σ i).next
    · by_cases e' : b' = (X.σ i).next
      · rw [e, e']
      · subst e
        rw [Ren.add_same] at hl; cases hl
        rw [Ren.add_other _ _ e'] at hl'
        have := (h.dom b' l' hl').1
        simp at hbl; omega
    · by_cases e' : b' = (X.σ i).next
      · subst e'
        rw [Ren.add_same] at hl'; cases hl'
        rw [Ren.add_other _ _ e] at hl
        have := (h.dom b l hl).1
        simp at hbl; omega
      · rw [Ren.add_other _ _ e] at hl
        rw [Ren.add_other _ _ e'] at hl'
        rw [hother b e] at hg
        rw [hother b' e'] at hg'
        exact h.inj b b' l l' hl hl' hg hg' hbl
  · intro b hb; rw [Ren.add_other _ _ (by omega)]; exact h.ext b hb
  · rw [hh]; simp; have := h.size; omega
  · intro k hk hn; rw [hold k (by have := h.size; omega)]; exact h.fr k hk hn
  · intro b hb hr; rw [hother b (by omega)]; exact h.kept b hb hr
  · intro b hb hr; rw [hother b (by omega)]; exact h.dead b hb hr
  · intro b l hb hl
    by_cases e : b = (X.σ i).next
    · subst e
      rw [Ren.add_same] at hl; cases hl
      exact .inl h.size
    · rw [Ren.add_other _ _ e] at hl
      exact h.fresh b l hb hl

/-- The renaming behind an effect. -/
def Tab.grown (X : Tab) (i : Nat) (ρ ρᵢ : Ren) : Ren := fun c => if (X.σ i).next ≤ c ∧ c < (X.σ (i + 1)).next then ρᵢ c else ρ c

theorem Inv.step_full (hX : X.Ok F P ops Q) (h : Inv X ρ₀ w₀ ds S g ρ w a) (hi : Turn X S i) (hf : (X.kd i).isFull = true) {v' : Value} {w' : World} {ρᵢ : Ren}
    (hv : VR ρᵢ (X.v i) v') (hA : Aft (ρ.below (X.σ i).next) (X.σ i) w ρᵢ (X.σ (i + 1)) w') :
    Inv X ρ₀ w₀ ds (fun k => S k ∨ k = i) (X.turned g i) (X.grown i ρ ρᵢ) w' (a.put (X.dst i) v') := by
  have h0 := hX.next_mono (Nat.zero_le i) (Nat.le_of_lt hi.lt)
  have hn := hX.next_le hi.lt
  have hwr := h.wr hX hi hf
  -- what is known of the blocks ahead
  have full_at : ∀ {c : Nat}, c < (X.σ i).next → (c < (X.σ 0).next ∨ ρ c ≠ none) → X.at S (X.tch c) i := fun hc hm => h.full_at hX hi hf hc hm
  have gold : ∀ {c : Nat}, c < (X.σ i).next → (c < (X.σ 0).next ∨ ρ c ≠ none) → g c = (X.σ i).get c := fun hc hm => h.cont _ i (full_at hc hm) hc
  have gnew : ∀ {c : Nat}, c < (X.σ i).next → (c < (X.σ 0).next ∨ ρ c ≠ none) → X.turned g i c = (X.σ (i + 1)).get c := fun {c} hc hm => by
    unfold Tab.turned
    split
    · rfl
    · rename_i ht; rw [gold hc hm, hX.calm hi.lt hc ht]
  have gwin : ∀ {c : Nat}, (X.σ i).next ≤ c → c < (X.σ (i + 1)).next → X.turned g i c = (X.σ (i + 1)).get c := fun {c} h1 h2 => by
    unfold Tab.turned; rw [if_pos (.inl ⟨h1, h2⟩)]
  have gfar : ∀ {c : Nat}, (X.σ (i + 1)).next ≤ c → X.turned g i c = g c := fun {c} h1 => by
    unfold Tab.turned; rw [if_neg]; rintro (⟨_, h2⟩ | ⟨h2, _⟩) <;> omega
  have hwin : ∀ {c : Nat}, (X.σ i).next ≤ c → c < (X.σ (i + 1)).next → ρ c = none := fun {c} h1 h2 => by
    cases hl : ρ c with
    | none => rfl
    | some l =>
      rcases (h.dom _ l hl).2 with h0 | ⟨k, hkn, hs, h3, h4⟩
      · omega
      · have := hX.window hi.lt hkn h1 h2 h3 h4
        subst this; exact absurd hs hi.new
  have rold : ∀ {c : Nat}, c < (X.σ i).next → ρᵢ c = ρ c := fun {c} hc => by rw [hA.ext c hc]; unfold Ren.below; rw [if_pos hc]
  have rfar : ∀ {c : Nat} {l : Loc}, ρᵢ c = some l → c < (X.σ (i + 1)).next := fun hl => (hA.wr.dom _ _ hl).1
  have grow_lo : ∀ {c : Nat}, c < (X.σ i).next → X.grown i ρ ρᵢ c = ρ c := fun {c} hc => by unfold Tab.grown; rw [if_neg (by omega)]
  have grow_win : ∀ {c : Nat}, (X.σ i).next ≤ c → c < (X.σ (i + 1)).next → X.grown i ρ ρᵢ c = ρᵢ c := fun {c} h1 h2 => by unfold Tab.grown; rw [if_pos ⟨h1, h2⟩]
  have grow_far : ∀ {c : Nat}, (X.σ (i + 1)).next ≤ c → X.grown i ρ ρᵢ c = ρ c := fun {c} hc => by unfold Tab.grown; rw [if_neg (by omega)]
  have hle : ρ.le (X.grown i ρ ρᵢ) := fun b l hl => by
    by_cases hw : (X.σ i).next ≤ b ∧ b < (X.σ (i + 1)).next
    · rw [hwin hw.1 hw.2] at hl; cases hl
    · unfold Tab.grown; rw [if_neg hw]; exact hl
  have hleᵢ : ρᵢ.le ((X.grown i ρ ρᵢ).below (X.σ (i + 1)).next) := fun b l hl => by
    have hb := rfar hl
    rw [Ren.below_some]
    refine ⟨hb, ?_⟩
    by_cases hw : (X.σ i).next ≤ b
    · rw [grow_win hw hb]; exact hl
    · rw [grow_lo (by omega), ← rold (by omega)]; exact hl
  -- blocks of others lie still
  have far_block : ∀ {c : Nat} {l : Loc}, (X.σ (i + 1)).next ≤ c → ρ c = some l → g c ≠ none → w'.heap[l.block]? = w.heap[l.block]? := fun {c l} hc hl hg =>
    hA.fr _ (h.dom c l hl).1 fun b lb hlb hgb e => by
      rw [Ren.below_some] at hlb
      have := h.inj b c lb l hlb.2 hl (by rw [gold hlb.1 (.inr (by rw [hlb.2]; simp))]; exact hgb) hg e
      omega
  refine { len := h.put_len _ _, slot := h.new_slots hX hi hle (hv.mono hleᵢ), ds := by rw [put_defers]; exact h.ds.mono (Ren.below_mono hle (Nat.le_refl _)), cont := h.new_cont hX hi,
           dom := ?_, obj := ?_, inj := ?_, ext := ?_, size := Nat.le_trans h.size hA.size, fr := ?_, kept := ?_, dead := ?_, fresh := ?_,
           tape := hA.tape.trans h.tape, os := hA.os.trans h.os, out := hA.out.trans h.out }
  · intro c l hl
    by_cases hw : (X.σ i).next ≤ c ∧ c < (X.σ (i + 1)).next
    · rw [grow_win hw.1 hw.2] at hl
      exact ⟨(hA.wr.dom _ _ hl).2, .inr ⟨i, hi.lt, .inr rfl, hw⟩⟩
    · have hl' : ρ c = some l := by unfold Tab.grown at hl; rw [if_neg hw] at hl; exact hl
      have := h.dom c l hl'
      exact ⟨Nat.lt_of_lt_of_le this.1 hA.size, this.2.imp id fun ⟨k, h1, h2, h3⟩ => ⟨k, h1, .inl h2, h3⟩⟩
  · intro c m l o hat hc hl ho
    by_cases htc : X.tch c i
    · obtain ⟨him, _⟩ := hi.at_self (fun k hk hkn hk' => hX.ordered hk hkn htc hk') htc hat
      have hcn : c < (X.σ (i + 1)).next := by rcases htc with ⟨_, h2⟩ | ⟨h1, _⟩ <;> omega
      have ho' : (X.σ (i + 1)).get c = some o := by rw [← ho]; unfold Tab.turned; rw [if_pos htc]
      have hl' : ρᵢ c = some l := by
        by_cases hw : (X.σ i).next ≤ c
        · rw [← grow_win hw hcn]; exact hl
        · rw [rold (Nat.lt_of_not_le hw)]; rw [grow_lo (Nat.lt_of_not_le hw)] at hl; exact hl
      exact (hA.wr.obj c l o hl' ho').mono (Ren.le_trans hleᵢ (Ren.below_mono (Ren.le_refl _) (hX.next_mono him hat.1)))
    · have hat' := Turn.at_other htc hat
      have ho' : g c = some o := by rw [← ho]; unfold Tab.turned; rw [if_neg htc]
      by_cases hlo : c < (X.σ i).next
      · have hl' : ρ c = some l := by rw [grow_lo hlo] at hl; exact hl
        have hm : c < (X.σ 0).next ∨ ρ c ≠ none := .inr (by rw [hl']; simp)
        have hold := h.obj c m l o hat' hc hl' ho'
        have hnew := hA.wr.obj c l o (by rw [rold hlo]; exact hl') (by rw [← gnew hlo hm]; exact ho)
        refine (hold.meet hnew).mono fun b lb hb => ?_
        unfold Ren.on at hb
        split at hb
        · cases hb
        · rename_i hne
          cases hρ : ρ.below (X.σ m).next b with
          | none => exact absurd hρ hne
          | some lb' =>
            rw [Ren.below_some] at hρ
            rw [Ren.below_some]
            refine ⟨hρ.1, ?_⟩
            have hbn := rfar hb
            by_cases hw : (X.σ i).next ≤ b
            · rw [hwin hw hbn] at hρ; cases hρ.2
            · rw [grow_lo (by omega), ← rold (by omega)]; exact hb
      · have hfar : (X.σ (i + 1)).next ≤ c := by
          by_cases e : (X.σ (i + 1)).next ≤ c
          · exact e
          · exact absurd (.inl ⟨by omega, by omega⟩) htc
        have hl' : ρ c = some l := by rw [grow_far hfar] at hl; exact hl
        exact ((h.obj c m l o hat' hc hl' ho').of_block (far_block hfar hl' (by rw [ho']; simp))).mono (Ren.below_mono hle (Nat.le_refl _))
  · -- injective
    have near : ∀ {b : Nat} {l : Loc}, b < (X.σ (i + 1)).next → X.grown i ρ ρᵢ b = some l → X.turned g i b ≠ none → ρᵢ b = some l ∧ (X.σ (i + 1)).get b ≠ none := fun {b l} hb hl hg => by
      by_cases hw : (X.σ i).next ≤ b
      · rw [grow_win hw hb] at hl
        rw [gwin hw hb] at hg
        exact ⟨hl, hg⟩
      · rw [grow_lo (by omega)] at hl
        rw [gnew (by omega) (.inr (by rw [hl]; simp))] at hg
        exact ⟨by rw [rold (by omega)]; exact hl, hg⟩
    have mixed : ∀ {b c : Nat} {l l' : Loc}, b < (X.σ (i + 1)).next → (X.σ (i + 1)).next ≤ c → X.grown i ρ ρᵢ b = some l → X.grown i ρ ρᵢ c = some l' → X.turned g i b ≠ none → X.turned g i c ≠ none → l.block ≠ l'.block := fun {b c l l'} hb hc hl hl' hg hg' e => by
      obtain ⟨hl1, hg1⟩ := near hb hl hg
      rw [grow_far hc] at hl'
      rw [gfar hc] at hg'
      by_cases hw : (X.σ i).next ≤ b
      · rcases hA.fresh b l hw hl1 with hsz | ⟨b₀, l₀, hb₀, hg₀, hbl⟩
        · have := (h.dom c l' hl').1; omega
        · rw [Ren.below_some] at hb₀
          have := h.inj b₀ c l₀ l' hb₀.2 hl' (by rw [gold hb₀.1 (.inr (by rw [hb₀.2]; simp))]; exact hg₀) hg' (by omega)
          omega
      · have hlb : ρ b = some l := by rw [← rold (by omega)]; exact hl1
        have hm : b < (X.σ 0).next ∨ ρ b ≠ none := .inr (by rw [hlb]; simp)
        have := h.inj b c l l' hlb hl' (by
          rw [gold (by omega) hm]
          intro hd
          exact hg1 (hA.dead b (by omega) hd)) hg' e
        omega
    intro b b' l l' hl hl' hg hg' hbl
    by_cases hb : b < (X.σ (i + 1)).next
    · by_cases hb' : b' < (X.σ (i + 1)).next
      · obtain ⟨h1, h2⟩ := near hb hl hg
        obtain ⟨h3, h4⟩ := near hb' hl' hg'
        exact hA.wr.inj b b' l l' h1 h3 h2 h4 hbl
      · exact absurd hbl (mixed hb (by omega) hl hl' hg hg')
    · by_cases hb' : b' < (X.σ (i + 1)).next
      · exact absurd hbl.symm (mixed hb' (by omega) hl' hl hg' hg)
      · rw [grow_far (by omega)] at hl hl'
        rw [gfar (by omega)] at hg hg'
        exact h.inj b b' l l' hl hl' hg hg' hbl
  · intro b hb; rw [grow_lo (by omega)]; exact h.ext b hb
  · intro k hk hnk
    rw [← h.fr k hk hnk]
    refine hA.fr k (Nat.lt_of_lt_of_le hk h.size) fun b l hl hg => ?_
    rw [Ren.below_some] at hl
    by_cases hb : b < (X.σ 0).next
    · refine hnk b l (by rw [← h.ext b hb]; exact hl.2) fun hd => hg ?_
      rw [← gold hl.1 (.inl hb)]; exact h.dead b hb hd
    · rcases h.fresh b l (by omega) hl.2 with h1 | ⟨b₀, l₀, h1, h2, h3⟩
      · omega
      · rw [← h3]; exact hnk b₀ l₀ h1 h2
  · intro b hb hr
    have hbi : b < (X.σ i).next := by omega
    rw [gnew hbi (.inl hb), hA.kept b hbi (by unfold Ren.below; rw [if_pos hbi, h.ext b hb]; exact hr), ← gold hbi (.inl hb)]
    exact h.kept b hb hr
  · intro b hb hr
    have hbi : b < (X.σ i).next := by omega
    rw [gnew hbi (.inl hb)]
    refine hA.dead b hbi ?_
    rw [← gold hbi (.inl hb)]
    exact h.dead b hb hr
  · intro b l hb hl
    by_cases hw : (X.σ i).next ≤ b ∧ b < (X.σ (i + 1)).next
    · rw [grow_win hw.1 hw.2] at hl
      rcases hA.fresh b l hw.1 hl with h1 | ⟨b₀, l₀, h1, h2, h3⟩
      · exact .inl (Nat.le_trans h.size h1)
      · rw [Ren.below_some] at h1
        by_cases hb₀ : b₀ < (X.σ 0).next
        · refine .inr ⟨b₀, l₀, by rw [← h.ext b₀ hb₀]; exact h1.2, fun hd => h2 ?_, h3⟩
          rw [← gold h1.1 (.inl hb₀)]; exact h.dead b₀ hb₀ hd
        · rcases h.fresh b₀ l₀ (by omega) h1.2 with h4 | ⟨b₁, l₁, h4, h5, h6⟩
          · exact .inl (by omega)
          · exact .inr ⟨b₁, l₁, h4, h5, by omega⟩
    · have hl' : ρ b = some l := by unfold Tab.grown at hl; rw [if_neg hw] at hl; exact hl
      exact h.fresh b l hb hl'

end
end Go.Ab
