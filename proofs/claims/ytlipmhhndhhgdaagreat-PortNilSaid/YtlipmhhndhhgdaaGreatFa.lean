/- The base of an abstract machine beside the model: a heap of numbered blocks, values up to a renaming of blocks, and what it means that a world of the model holds what an abstract state says. -/
import Derived.CallsIn
import Derived.DefersIn
import Derived.RecoverIn
import Derived.RangeFuncIn
set_option linter.unusedSimpArgs false
set_option linter.unusedVariables false
namespace Go.Ab

/-- Where an abstract block lies: the model's block, the cell at which it begins, how many cells of that block stand behind this place.
    A slice of the abstract state bears in its address's 'spot' what is known of its capacity: 'some 0': it is just that; 'some (u + 2)': it is at least that, and the block has room for it at u cells an element; 'some 1': the slice is empty, and nothing is known. -/
structure Loc where
  block : Nat
  off : Nat
  size : Nat
  /-- What a block that is only read is, whole. -/
  fix : Option Obj := none

abbrev Ren := Nat → Option Loc

/-- A block of the abstract heap. -/
inductive AObj where
  | cells (vs : List Value) (ro : Bool)
  | map (es : List MapEntry) (clock : Nat)
  | mapIter (m : Option Nat) (since : Nat) (seen : Array Nat) (stepped : Nat)
  | stringIter (s : ByteArray) (pos : Nat)
  | loop (l : Loop)
  | deferred (n : Bool)

mutual
inductive VR (ρ : Ren) : Value → Value → Prop
  | bool (b : Bool) : VR ρ (.bool b) (.bool b)
  | int (k : IntKind) (n : Int) : VR ρ (.int k n) (.int k n)
  | string (s : ByteArray) : VR ρ (.string s) (.string s)
  | nilFunc : VR ρ .nilFunc .nilFunc
  | nilIface : VR ρ .nilIface .nilIface
  | ptrNil : VR ρ (.pointer none) (.pointer none)
  | ptr {b off : Nat} {l : Loc} (h : ρ b = some l) : VR ρ (.pointer (some ⟨b, off, none⟩)) (.pointer (some ⟨l.block, l.off + off, none⟩))
  | sliceNil : VR ρ (.slice none 0 0) (.slice none 0 0)
  | sliceX {b off len cap : Nat} {l : Loc} (h : ρ b = some l) : VR ρ (.slice (some ⟨b, off, some 0⟩) len cap) (.slice (some ⟨l.block, l.off + off, none⟩) len cap)
  | sliceG {b off len cap cap' u : Nat} {l : Loc} (h : ρ b = some l) (hc : cap ≤ cap') (hg : off + cap' * u ≤ l.size) :
      VR ρ (.slice (some ⟨b, off, some (u + 2)⟩) len cap) (.slice (some ⟨l.block, l.off + off, none⟩) len cap')
  | sliceE {b off cap' : Nat} {a' : Addr} : VR ρ (.slice (some ⟨b, off, some 1⟩) 0 0) (.slice (some a') 0 cap')
  | mapNil : VR ρ (.map none) (.map none)
  | map {r : Nat} {l : Loc} (h : ρ r = some l) : VR ρ (.map (some r)) (.map (some l.block))
  | func {f : FuncId} {xs ys xs' ys' : List Value} (h : VRL ρ xs xs') (h' : VRL ρ ys ys') : VR ρ (.func (.func f) ⟨xs⟩ ⟨ys⟩) (.func (.func f) ⟨xs'⟩ ⟨ys'⟩)
  | yield {r : Nat} {l : Loc} (h : ρ r = some l) : VR ρ (.func (.yield r) #[] #[]) (.func (.yield l.block) #[] #[])
  | iface {t : TypeId} {v v' : Value} (h : VR ρ v v') : VR ρ (.iface t v) (.iface t v')
  | agg {xs ys : List Value} (h : VRL ρ xs ys) : VR ρ (.agg ⟨xs⟩) (.agg ⟨ys⟩)
  | tuple {xs ys : List Value} (h : VRL ρ xs ys) : VR ρ (.tuple ⟨xs⟩) (.tuple ⟨ys⟩)
inductive VRL (ρ : Ren) : List Value → List Value → Prop
  | nil : VRL ρ [] []
  | cons {x y : Value} {xs ys : List Value} (h : VR ρ x y) (t : VRL ρ xs ys) : VRL ρ (x :: xs) (y :: ys)
end

def Ren.le (ρ ρ' : Ren) : Prop := ∀ b l, ρ b = some l → ρ' b = some l

theorem Ren.le_refl (ρ : Ren) : ρ.le ρ := fun _ _ h => h
theorem Ren.le_trans {a b c : Ren} (h : a.le b) (h' : b.le c) : a.le c := fun x l e => h' x l (h x l e)

mutual
theorem VR.mono {ρ ρ' : Ren} (hl : ρ.le ρ') : {v w : Value} → VR ρ v w → VR ρ' v w
  | _, _, .bool b => .bool b
  | _, _, .int k n => .int k n
  | _, _, .string s => .string s
  | _, _, .nilFunc => .nilFunc
  | _, _, .nilIface => .nilIface
  | _, _, .ptrNil => .ptrNil
  | _, _, .ptr h => .ptr (hl _ _ h)
  | _, _, .sliceNil => .sliceNil
  | _, _, .sliceX h => .sliceX (hl _ _ h)
  | _, _, .sliceG h hc hg => .sliceG (hl _ _ h) hc hg
  | _, _, .sliceE => .sliceE
  | _, _, .mapNil => .mapNil
  | _, _, .map h => .map (hl _ _ h)
  | _, _, .func h h' => .func (VRL.mono hl h) (VRL.mono hl h')
  | _, _, .yield h => .yield (hl _ _ h)
  | _, _, .iface h => .iface (VR.mono hl h)
  | _, _, .agg h => .agg (VRL.mono hl h)
  | _, _, .tuple h => .tuple (VRL.mono hl h)
theorem VRL.mono {ρ ρ' : Ren} (hl : ρ.le ρ') : {v w : List Value} → VRL ρ v w → VRL ρ' v w
  | _, _, .nil => .nil
  | _, _, .cons h t => .cons (VR.mono hl h) (VRL.mono hl t)
end

section lists
variable {ρ : Ren}
theorem VRL.length {xs ys : List Value} (h : VRL ρ xs ys) : xs.length = ys.length := by
  induction xs generalizing ys with
  | nil => cases h; rfl
  | cons x xs ih => cases h with | cons h t => simp [ih t]
theorem VRL.get {xs ys : List Value} (h : VRL ρ xs ys) (i : Nat) {v : Value} (hv : xs[i]? = some v) : ∃ v' : Value, ys[i]? = some v' ∧ VR ρ v v' := by
  induction xs generalizing ys i with
  | nil => simp at hv
  | cons x xs ih =>
    cases h with
    | cons h t =>
      cases i with
      | zero => simp at hv; subst hv; exact ⟨_, by simp, h⟩
      | succ i => simp at hv; obtain ⟨v', h1, h2⟩ := ih t i hv; exact ⟨v', by simpa using h1, h2⟩
theorem VRL.of_get {xs ys : List Value} (hl : xs.length = ys.length) (h : ∀ (i : Nat) (v : Value), xs[i]? = some v → ∃ v' : Value, ys[i]? = some v' ∧ VR ρ v v') : VRL ρ xs ys := by
  induction xs generalizing ys with
  | nil => cases ys with | nil => exact .nil | cons y ys => simp at hl
  | cons x xs ih =>
    cases ys with
    | nil => simp at hl
    | cons y ys =>
      refine .cons ?_ (ih (by simpa using hl) fun i v hv => ?_)
      · obtain ⟨v', h1, h2⟩ := h 0 x (by simp); simp at h1; subst h1; exact h2
      · obtain ⟨v', h1, h2⟩ := h (i + 1) v (by simpa using hv); exact ⟨v', by simpa using h1, h2⟩
theorem VRL.append {a b c d : List Value} (h : VRL ρ a b) (h' : VRL ρ c d) : VRL ρ (a ++ c) (b ++ d) := by
  induction a generalizing b with
  | nil => cases h; exact h'
  | cons x xs ih => cases h with | cons h t => exact .cons h (ih t)
theorem VRL.set {a b : List Value} (h : VRL ρ a b) (i : Nat) {v w : Value} (hv : VR ρ v w) : VRL ρ (a.set i v) (b.set i w) := by
  induction a generalizing b i with
  | nil => cases h; exact .nil
  | cons x xs ih =>
    cases h with
    | cons h t => cases i with
      | zero => exact .cons hv t
      | succ i => exact .cons h (ih t i)
theorem VRL.take {a b : List Value} (h : VRL ρ a b) (n : Nat) : VRL ρ (a.take n) (b.take n) := by
  induction a generalizing b n with
  | nil => cases h; simp; exact .nil
  | cons x xs ih =>
    cases h with
    | cons h t => cases n with
      | zero => exact .nil
      | succ n => exact .cons h (ih t n)
theorem VRL.drop {a b : List Value} (h : VRL ρ a b) (n : Nat) : VRL ρ (a.drop n) (b.drop n) := by
  induction a generalizing b n with
  | nil => cases h; simp; exact .nil
  | cons x xs ih =>
    cases h with
    | cons h t => cases n with
      | zero => exact .cons h t
      | succ n => exact ih t n
theorem VRL.replicate (n : Nat) {v w : Value} (h : VR ρ v w) : VRL ρ (List.replicate n v) (List.replicate n w) := by
  induction n with
  | zero => exact .nil
  | succ n ih => exact .cons h ih
end lists

/-! ### The abstract heap: a tree over the binary digits of the number. -/
inductive Tr where
  | leaf
  | node (l : Tr) (o : Option AObj) (r : Tr)

def bits : Nat → Nat → List Bool
  | 0, _ => []
  | _ + 1, 0 => []
  | f + 1, n + 1 => ((n + 1) % 2 == 1) :: bits f ((n + 1) / 2)

def Tr.get : Tr → List Bool → Option AObj
  | .leaf, _ => none
  | .node _ o _, [] => o
  | .node l _ r, b :: bs => match b with | true => r.get bs | false => l.get bs

def Tr.fresh (x : Option AObj) : List Bool → Tr
  | [] => .node .leaf x .leaf
  | b :: bs => match b with | true => .node .leaf none (Tr.fresh x bs) | false => .node (Tr.fresh x bs) none .leaf

def Tr.set (x : Option AObj) : Tr → List Bool → Tr
  | .leaf, bs => Tr.fresh x bs
  | .node l _ r, [] => .node l x r
  | .node l o r, b :: bs => match b with | true => .node l o (r.set x bs) | false => .node (l.set x bs) o r

theorem Tr.get_leaf (bs : List Bool) : Tr.leaf.get bs = none := by cases bs <;> rfl
theorem Tr.get_fresh (x : Option AObj) (bs cs : List Bool) : (Tr.fresh x bs).get cs = if bs = cs then x else none := by
  induction bs generalizing cs with
  | nil => cases cs with
    | nil => simp [Tr.fresh, Tr.get]
    | cons c cs => cases c <;> simp [Tr.fresh, Tr.get]
  | cons b bs ih =>
    cases cs with
    | nil => cases b <;> simp [Tr.fresh, Tr.get]
    | cons c cs => cases b <;> cases c <;> simp [Tr.fresh, Tr.get, Tr.get_leaf, ih]
theorem Tr.get_set (x : Option AObj) (t : Tr) (bs cs : List Bool) : (t.set x bs).get cs = if bs = cs then x else t.get cs := by
  induction bs generalizing t cs with
  | nil =>
    cases t with
    | leaf => rw [Tr.set, Tr.get_fresh, Tr.get_leaf]
    | node l o r => cases cs with
      | nil => simp [Tr.set, Tr.get]
      | cons c cs => cases c <;> simp [Tr.set, Tr.get]
  | cons b bs ih =>
    cases t with
    | leaf => rw [Tr.set, Tr.get_fresh, Tr.get_leaf]
    | node l o r =>
      cases cs with
      | nil => cases b <;> simp [Tr.set, Tr.get]
      | cons c cs => cases b <;> cases c <;> simp [Tr.set, Tr.get, ih]

theorem bits_inj : ∀ (f g a b : Nat), a ≤ f → b ≤ g → bits f a = bits g b → a = b := by
  intro f
  induction f with
  | zero =>
    intro g a b ha hb h
    obtain rfl : a = 0 := by omega
    cases g with
    | zero => omega
    | succ g => cases b with
      | zero => rfl
      | succ b => simp [bits] at h
  | succ f ih =>
    intro g a b ha hb h
    cases a with
    | zero =>
      cases g with
      | zero => omega
      | succ g => cases b with
        | zero => rfl
        | succ b => simp [bits] at h
    | succ a =>
      cases g with
      | zero =>
        obtain rfl : b = 0 := by omega
        simp [bits] at h
      | succ g => cases b with
        | zero => simp [bits] at h
        | succ b =>
          simp only [bits, List.cons.injEq] at h
          have h2 := ih g _ _ (by omega) (by omega) h.2
          have h1 : ((a + 1) % 2 = 1) ↔ ((b + 1) % 2 = 1) := by
            have := h.1
            rw [Bool.eq_iff_iff] at this
            simpa using this
          omega

/-- The abstract state. -/
structure St where
  m : Tr
  next : Nat

def St.get (σ : St) (b : Nat) : Option AObj := σ.m.get (bits b b)
def St.put (σ : St) (b : Nat) (o : Option AObj) : St := { σ with m := σ.m.set o (bits b b) }
def St.set (σ : St) (b : Nat) (o : AObj) : St := σ.put b (some o)
def St.new (σ : St) (o : AObj) : St := { m := σ.m.set (some o) (bits σ.next σ.next), next := σ.next + 1 }

theorem bits_eq {a b : Nat} : bits a a = bits b b ↔ a = b :=
  ⟨fun h => bits_inj a b a b (Nat.le_refl _) (Nat.le_refl _) h, fun h => by rw [h]⟩
theorem St.get_put (σ : St) (b c : Nat) (o : Option AObj) : (σ.put b o).get c = if b = c then o else σ.get c := by
  simp only [St.get, St.put, Tr.get_set, bits_eq]
theorem St.get_set (σ : St) (b c : Nat) (o : AObj) : (σ.set b o).get c = if b = c then some o else σ.get c := St.get_put σ b c _
theorem St.get_new (σ : St) (c : Nat) (o : AObj) : (σ.new o).get c = if σ.next = c then some o else σ.get c := by
  simp only [St.get, St.new, Tr.get_set, bits_eq]
@[simp] theorem St.next_put (σ : St) (b : Nat) (o : Option AObj) : (σ.put b o).next = σ.next := rfl
@[simp] theorem St.next_set (σ : St) (b : Nat) (o : AObj) : (σ.set b o).next = σ.next := rfl
@[simp] theorem St.next_new (σ : St) (o : AObj) : (σ.new o).next = σ.next + 1 := rfl

/-! ### What a world holds -/
def DR (ρ : Ren) (d d' : Deferred) : Prop :=
  (∃ fn c c', d.target = .fn (.func fn) c ∧ d'.target = .fn (.func fn) c' ∧ VRL ρ c.toList c'.toList ∧ VRL ρ d.args.toList d'.args.toList) ∨
  (∃ r l, ρ r = some l ∧ d = { target := .collected r, args := #[] } ∧ d' = { target := .collected l.block, args := #[] })

def DRL (ρ : Ren) : List Deferred → List Deferred → Prop
  | [], [] => True
  | d :: ds, e :: es => DR ρ d e ∧ DRL ρ ds es
  | _, _ => False

/-- Entries of a map, one by one. -/
def ME (ρ : Ren) : List MapEntry → List MapEntry → Prop
  | [], [] => True
  | d :: ds, e :: es => (VR ρ d.key e.key ∧ VR ρ d.val e.val ∧ d.born = e.born) ∧ ME ρ ds es
  | _, _ => False

/-- The model's block holds what the abstract block says. -/
def OR (ρ : Ren) (l : Loc) (H : Array Obj) : AObj → Prop
  | .cells vs ro => ∃ (c : Array Value) (elem : TypeId) (fz : Nat × Nat), H[l.block]? = some (.cells c elem fz) ∧ c.size = l.off + l.size ∧ vs.length ≤ l.size ∧
      ((ro = false → fz = (0, 0)) ∧ (ro = true → ∀ o, l.fix = some o → Obj.cells c elem fz = o)) ∧ VRL ρ vs ((c.toList.drop l.off).take vs.length)
  | .map es clock => ∃ es' : Array MapEntry, H[l.block]? = some (.map es' clock) ∧ ME ρ es es'.toList
  | .mapIter m since seen stepped => ∃ m', H[l.block]? = some (.mapIter m' since seen stepped) ∧ VR ρ (.map m) (.map m')
  | .stringIter s pos => H[l.block]? = some (.stringIter s pos)
  | .loop r => ∃ (ts : Array Value) (d : Nat) (ld : Loc) (g : FuncId), H[l.block]? = some (.loop { r with tmps := ts, defers := d, fn := g }) ∧ VRL ρ r.tmps.toList ts.toList ∧ ρ r.defers = some ld ∧ ld.block = d
  | .deferred n => H[l.block]? = some (.deferred (if n then none else some []))

structure WR (ρ : Ren) (σ : St) (H : Array Obj) : Prop where
  dom : ∀ b l, ρ b = some l → b < σ.next ∧ l.block < H.size
  obj : ∀ b l o, ρ b = some l → σ.get b = some o → OR ρ l H o
  inj : ∀ b b' l l', ρ b = some l → ρ b' = some l' → σ.get b ≠ none → σ.get b' ≠ none → l.block = l'.block → b = b'

theorem ME.mono {ρ ρ' : Ren} (hl : ρ.le ρ') : ∀ {a b : List MapEntry}, ME ρ a b → ME ρ' a b
  | [], [], _ => trivial
  | _ :: _, _ :: _, h => ⟨⟨h.1.1.mono hl, h.1.2.1.mono hl, h.1.2.2⟩, ME.mono hl h.2⟩
  | [], _ :: _, h => h.elim
  | _ :: _, [], h => h.elim
theorem DR.mono {ρ ρ' : Ren} (hl : ρ.le ρ') {a b : Deferred} (h : DR ρ a b) : DR ρ' a b := by
  rcases h with ⟨fn, c, c', h1, h2, h3, h4⟩ | ⟨r, l, h1, h2, h3⟩
  · exact .inl ⟨fn, c, c', h1, h2, h3.mono hl, h4.mono hl⟩
  · exact .inr ⟨r, l, hl _ _ h1, h2, h3⟩
theorem DRL.mono {ρ ρ' : Ren} (hl : ρ.le ρ') : ∀ {a b : List Deferred}, DRL ρ a b → DRL ρ' a b
  | [], [], _ => trivial
  | _ :: _, _ :: _, h => ⟨h.1.mono hl, DRL.mono hl h.2⟩
  | [], _ :: _, h => h.elim
  | _ :: _, [], h => h.elim
theorem OR.mono {ρ ρ' : Ren} (hl : ρ.le ρ') {l : Loc} {H : Array Obj} {o : AObj} (h : OR ρ l H o) : OR ρ' l H o := by
  cases o with
  | cells vs ro => obtain ⟨c, e, fz, h1, h2, h3, h4, h6⟩ := h; exact ⟨c, e, fz, h1, h2, h3, h4, h6.mono hl⟩
  | map es clock => obtain ⟨es', h1, h2⟩ := h; exact ⟨es', h1, h2.mono hl⟩
  | mapIter m a b c => obtain ⟨m', h1, h2⟩ := h; exact ⟨m', h1, h2.mono hl⟩
  | stringIter s pos => exact h
  | loop r => obtain ⟨ts, d, ld, g, h1, h2, h3, h4⟩ := h; exact ⟨ts, d, ld, g, h1, h2.mono hl, hl _ _ h3, h4⟩
  | deferred n => exact h
/-- A block's meaning hangs on that block of the model alone. -/
theorem OR.of_block {ρ : Ren} {l : Loc} {H H' : Array Obj} {o : AObj} (hb : H'[l.block]? = H[l.block]?) (h : OR ρ l H o) : OR ρ l H' o := by
  cases o with
  | cells vs ro => obtain ⟨c, e, fz, h1, h2⟩ := h; exact ⟨c, e, fz, hb.trans h1, h2⟩
  | map es clock => obtain ⟨es', h1, h2⟩ := h; exact ⟨es', hb.trans h1, h2⟩
  | mapIter m a b c => obtain ⟨m', h1, h2⟩ := h; exact ⟨m', hb.trans h1, h2⟩
  | stringIter s pos => exact hb.trans h
  | loop r => obtain ⟨ts, d, ld, g, h1, h2⟩ := h; exact ⟨ts, d, ld, g, hb.trans h1, h2⟩
  | deferred n => exact hb.trans h

/-- What is so behind a piece of a run: the renaming has grown, the new state is held, nothing but what the state spoke of has turned. -/
structure Aft (ρ : Ren) (σ : St) (w : World) (ρ' : Ren) (σ' : St) (w' : World) : Prop where
  ext : ∀ b, b < σ.next → ρ' b = ρ b
  wr : WR ρ' σ' w'.heap
  size : w.heap.size ≤ w'.heap.size
  fr : ∀ k, k < w.heap.size → (∀ b l, ρ b = some l → σ.get b ≠ none → l.block ≠ k) → w'.heap[k]? = w.heap[k]?
  nxt : σ.next ≤ σ'.next
  kept : ∀ b, b < σ.next → ρ b = none → σ'.get b = σ.get b
  dead : ∀ b, b < σ.next → σ.get b = none → σ'.get b = none
  fresh : ∀ b l, σ.next ≤ b → ρ' b = some l → w.heap.size ≤ l.block ∨ ∃ b₀ l₀, ρ b₀ = some l₀ ∧ σ.get b₀ ≠ none ∧ l₀.block = l.block
  tape : w'.tape = w.tape
  os : w'.os = w.os
  out : w'.output = w.output

theorem Aft.refl {ρ : Ren} {σ : St} {w : World} (h : WR ρ σ w.heap) : Aft ρ σ w ρ σ w :=
  { ext := fun _ _ => rfl, wr := h, size := Nat.le_refl _, fr := fun _ _ _ => rfl, nxt := Nat.le_refl _, kept := fun _ _ _ => rfl, dead := fun _ _ h => h,
    fresh := fun b l hb hl => absurd (h.dom b l hl).1 (by omega), tape := rfl, os := rfl, out := rfl }
theorem Aft.le {ρ ρ' : Ren} {σ σ' : St} {w w' : World} (h0 : WR ρ σ w.heap) (h : Aft ρ σ w ρ' σ' w') : ρ.le ρ' := fun b l hl => (h.ext b (h0.dom b l hl).1).trans hl
theorem Aft.trans {ρ ρ₁ ρ₂ : Ren} {σ σ₁ σ₂ : St} {w w₁ w₂ : World} (h : Aft ρ σ w ρ₁ σ₁ w₁) (k : Aft ρ₁ σ₁ w₁ ρ₂ σ₂ w₂) : Aft ρ σ w ρ₂ σ₂ w₂ where
  ext b hb := (k.ext b (by have := h.nxt; omega)).trans (h.ext b hb)
  wr := k.wr
  size := Nat.le_trans h.size k.size
  fr j hj hn := by
    refine (k.fr j (by have := h.size; omega) fun b l hb hg hbl => ?_).trans (h.fr j hj hn)
    by_cases hlt : b < σ.next
    · have hb' : ρ b = some l := (h.ext b hlt).symm.trans hb
      exact hn b l hb' (fun he => hg (h.dead b hlt he)) hbl
    · rcases h.fresh b l (by omega) hb with h1 | ⟨b₀, l₀, h1, h2, h3⟩
      · omega
      · exact hn b₀ l₀ h1 h2 (h3.trans hbl)
  nxt := Nat.le_trans h.nxt k.nxt
  kept b hb hn := by
    have hlt : b < σ₁.next := by have := h.nxt; omega
    exact (k.kept b hlt ((h.ext b hb).trans hn)).trans (h.kept b hb hn)
  dead b hb hd := k.dead b (by have := h.nxt; omega) (h.dead b hb hd)
  fresh b l hb hl := by
    by_cases hlt : b < σ₁.next
    · exact h.fresh b l hb ((k.ext b hlt).symm.trans hl)
    · rcases k.fresh b l (by omega) hl with h1 | ⟨b₀, l₀, h1, h2, h3⟩
      · exact .inl (by have := h.size; omega)
      · by_cases hlt0 : b₀ < σ.next
        · exact .inr ⟨b₀, l₀, (h.ext b₀ hlt0).symm.trans h1, fun he => h2 (h.dead b₀ hlt0 he), h3⟩
        · rcases h.fresh b₀ l₀ (by omega) h1 with h4 | ⟨b₁, l₁, h4, h5, h6⟩
          · exact .inl (by omega)
          · exact .inr ⟨b₁, l₁, h4, h5, h6.trans h3⟩
  tape := k.tape.trans h.tape
  os := k.os.trans h.os
  out := k.out.trans h.out

end Go.Ab
