/- PlaneNilSaid: part 6 of 8 of the proof that it returns true for every input and leaves its arguments as they were; no condition. -/
import Derived.Test.YtjpcacdcgangoaaGreatJPlaneNilSaid4
import Derived.WalkKit
import Derived.ProofKit
import Derived.OpenShut
import Derived.ShutString
import Derived.ChangeOld
import Derived.Below
set_option linter.unusedSimpArgs false
set_option linter.unusedVariables false
noncomputable section
namespace Go.Ab
variable {P : Program}
inductive FT where
 | leaf
 | node (l : FT) (v : Value) (r : FT)
noncomputable def FT.get (t : FT) : Nat → Value :=
 @FT.rec (fun _ => Nat → Value) (fun _ => undef)
  (fun _ v _ ihl ihr n => @Bool.rec (fun _ => Value) (@Bool.rec (fun _ => Value) (ihl (Nat.div n 2)) (ihr (Nat.div n 2)) (Nat.beq (Nat.mod n 2) 1)) v (Nat.beq n 0)) t
noncomputable def FT.fresh (x : Value) (f : Nat) : Nat → FT :=
 @Nat.rec (fun _ => Nat → FT) (fun _ => .node .leaf x .leaf)
  (fun _ ih n => @Bool.rec (fun _ => FT) (@Bool.rec (fun _ => FT) (.node (ih (Nat.div n 2)) undef .leaf) (.node .leaf undef (ih (Nat.div n 2))) (Nat.beq (Nat.mod n 2) 1)) (.node .leaf x .leaf) (Nat.beq n 0)) f
noncomputable def FT.set (x : Value) (t : FT) : Nat → FT :=
 @FT.rec (fun _ => Nat → FT) (fun n => FT.fresh x n n)
  (fun l o r ihl ihr n => @Bool.rec (fun _ => FT) (@Bool.rec (fun _ => FT) (.node (ihl (Nat.div n 2)) o r) (.node l o (ihr (Nat.div n 2))) (Nat.beq (Nat.mod n 2) 1)) (.node l x r) (Nat.beq n 0)) t
theorem beq0 {n : Nat} (h : n ≠ 0) : Nat.beq n 0 = false := by cases n with | zero => exact absurd rfl h | succ n => rfl
theorem FT.get_node (l r : FT) (v : Value) (n : Nat) : (FT.node l v r).get n = if n = 0 then v else if n % 2 = 1 then r.get (n / 2) else l.get (n / 2) := by
 have e : (FT.node l v r).get n = @Bool.rec (fun _ => Value) (@Bool.rec (fun _ => Value) (l.get (n / 2)) (r.get (n / 2)) (Nat.beq (n % 2) 1)) v (Nat.beq n 0) := rfl
 rw [e]
 by_cases h : n = 0
 ·subst h; rfl
 ·rw [beq0 h, if_neg h]
  by_cases h1 : n % 2 = 1
  ·rw [if_pos h1, h1]; rfl
  ·have : n % 2 = 0 := by omega
   rw [if_neg h1, this]; rfl
theorem FT.get_leaf (n : Nat) : FT.leaf.get n = undef := rfl
theorem FT.get_fresh (x : Value) : ∀ (f n m : Nat), n ≤ f → (FT.fresh x f n).get m = if n = m then x else undef := by
 intro f
 induction f with
 | zero =>
  intro n m h
  obtain rfl : n = 0 := by omega
  show (FT.node .leaf x .leaf).get m = _
  rw [FT.get_node]
  by_cases h : m = 0
  ·subst h; rfl
  ·rw [if_neg h, if_neg (fun k : 0 = m => h k.symm)]; simp [FT.get_leaf]
 | succ f ih =>
  intro n m hn
  have e : FT.fresh x (f + 1) n = @Bool.rec (fun _ => FT) (@Bool.rec (fun _ => FT) (.node (FT.fresh x f (n / 2)) undef .leaf) (.node .leaf undef (FT.fresh x f (n / 2))) (Nat.beq (n % 2) 1)) (.node .leaf x .leaf) (Nat.beq n 0) := rfl
  rw [e]
  by_cases h : n = 0
  ·subst h
   show (FT.node .leaf x .leaf).get m = _
   rw [FT.get_node]
   by_cases h : m = 0
   ·subst h; rfl
   ·rw [if_neg h, if_neg (fun k : 0 = m => h k.symm)]; simp [FT.get_leaf]
  ·rw [beq0 h]
   by_cases h1 : n % 2 = 1
   ·rw [h1]
    show (FT.node .leaf undef (FT.fresh x f (n / 2))).get m = _
    rw [FT.get_node, ih _ _ (by omega), FT.get_leaf]
    by_cases hm : m = 0
    ·rw [if_pos hm, if_neg (by omega)]
    ·rw [if_neg hm]
     by_cases hm1 : m % 2 = 1
     ·rw [if_pos hm1]
      by_cases he : n = m
      ·rw [if_pos he, if_pos (by omega)]
      ·rw [if_neg he, if_neg (by omega)]
     ·rw [if_neg hm1, if_neg (by omega)]
   ·have h2 : n % 2 = 0 := by omega
    rw [h2]
    show (FT.node (FT.fresh x f (n / 2)) undef .leaf).get m = _
    rw [FT.get_node, ih _ _ (by omega), FT.get_leaf]
    by_cases hm : m = 0
    ·rw [if_pos hm, if_neg (by omega)]
    ·rw [if_neg hm]
     by_cases hm1 : m % 2 = 1
     ·rw [if_pos hm1, if_neg (by omega)]
     ·rw [if_neg hm1]
      by_cases he : n = m
      ·rw [if_pos he, if_pos (by omega)]
      ·rw [if_neg he, if_neg (by omega)]
theorem FT.get_set (x : Value) (t : FT) : ∀ n m, (t.set x n).get m = if n = m then x else t.get m := by
 induction t with
 | leaf =>
  intro n m
  show (FT.fresh x n n).get m = _
  rw [FT.get_fresh x n n m (Nat.le_refl _), FT.get_leaf]
 | node l o r ihl ihr =>
  intro n m
  have e : (FT.node l o r).set x n = @Bool.rec (fun _ => FT) (@Bool.rec (fun _ => FT) (.node (l.set x (n / 2)) o r) (.node l o (r.set x (n / 2))) (Nat.beq (n % 2) 1)) (.node l x r) (Nat.beq n 0) := rfl
  rw [e]
  by_cases h : n = 0
  ·subst h
   show (FT.node l x r).get m = _
   rw [FT.get_node, FT.get_node]
   by_cases h : m = 0
   ·subst h; rfl
   ·rw [if_neg h, if_neg (fun k : 0 = m => h k.symm), if_neg h]
  ·rw [beq0 h]
   by_cases h1 : n % 2 = 1
   ·rw [h1]
    show (FT.node l o (r.set x (n / 2))).get m = _
    rw [FT.get_node, FT.get_node, ihr]
    by_cases hm : m = 0
    ·rw [if_pos hm, if_pos hm, if_neg (by omega)]
    ·rw [if_neg hm, if_neg hm]
     by_cases hm1 : m % 2 = 1
     ·rw [if_pos hm1, if_pos hm1]
      by_cases he : n = m
      ·rw [if_pos he, if_pos (by omega)]
      ·rw [if_neg he, if_neg (by omega)]
     ·rw [if_neg hm1, if_neg hm1, if_neg (by omega)]
   ·have h2 : n % 2 = 0 := by omega
    rw [h2]
    show (FT.node (l.set x (n / 2)) o r).get m = _
    rw [FT.get_node, FT.get_node, ihl]
    by_cases hm : m = 0
    ·rw [if_pos hm, if_pos hm, if_neg (by omega)]
    ·rw [if_neg hm, if_neg hm]
     by_cases hm1 : m % 2 = 1
     ·rw [if_pos hm1, if_pos hm1, if_neg (by omega)]
     ·rw [if_neg hm1, if_neg hm1]
      by_cases he : n = m
      ·rw [if_pos he, if_pos (by omega)]
      ·rw [if_neg he, if_neg (by omega)]
def FT.is (t : FT) (ts : List Value) : Prop := ∀ i, t.get i = lget ts i
noncomputable def FT.put (n : Nat) (t : FT) (dst : Option Tmp) (v : Value) : FT := @Option.rec Tmp (fun _ => FT) t (fun d => @Bool.rec (fun _ => FT) t (t.set v d) (Nat.blt d n)) dst
theorem lget_len {ts : List Value} {i : Nat} (h : ts.length ≤ i) : lget ts i = undef := by rw [lget_eq, List.getElem?_eq_none h]; rfl
theorem FT.is.put {t : FT} {ts : List Value} (h : t.is ts) (dst : Option Tmp) (v : Value) : (t.put ts.length dst v).is (putL ts dst v) := by
  cases dst with
  | none => exact h
  | some d =>
    intro i
    show (@Bool.rec (fun _ => FT) t (t.set v d) (Nat.blt d ts.length)).get i = lget (ts.set d v) i
    rw [lget_set]
    cases hb : Nat.blt d ts.length with
    | true =>
      have hd : d < ts.length := by simpa [Nat.blt_eq] using hb
      show (t.set v d).get i = _
      rw [FT.get_set, h i]
      by_cases he : d = i
      · rw [if_pos he, if_pos ⟨he, hd⟩]
      · rw [if_neg he, if_neg (fun k => he k.1)]
    | false =>
      have hd : ¬ d < ts.length := by intro k; have : Nat.blt d ts.length = true := by simpa [Nat.blt_eq] using k
                                      rw [hb] at this; cases this
      show t.get i = _
      rw [h i, if_neg (fun k => hd k.2)]
theorem putL_len (ts : List Value) (dst : Option Tmp) (v : Value) : (putL ts dst v).length = ts.length := by cases dst <;> simp [putL]
theorem Fr.put_is (fr : Fr) (dst : Option Tmp) (v : Value) : fr.put dst v = ⟨putL fr.ts dst v, fr.ds⟩ := by cases dst <;> rfl
noncomputable def FT.ofL (l : List Value) : Nat → FT → FT := @List.rec Value (fun _ => Nat → FT → FT) (fun _ t => t) (fun v _ ih i t => ih (Nat.succ i) (t.set v i)) l
theorem FT.ofL_is : ∀ (l : List Value) (i : Nat) (t : FT) (n : Nat), (FT.ofL l i t).get n = if i ≤ n ∧ n < i + l.length then lget l (n - i) else t.get n
 | [], i, t, n => by
  show t.get n = _
  rw [if_neg (by simp)]
 | v :: l, i, t, n => by
  show (FT.ofL l (i + 1) (t.set v i)).get n = _
  rw [FT.ofL_is l (i + 1) _ n, FT.get_set]
  by_cases h : i = n
  ·subst h
   rw [if_neg (by omega), if_pos rfl, if_pos (by simp), Nat.sub_self]; rfl
  ·rw [if_neg h]
   by_cases h2 : i + 1 ≤ n ∧ n < i + 1 + l.length
   ·rw [if_pos h2, if_pos (by simp; omega)]
    obtain ⟨k, rfl⟩ : ∃ k, n = i + 1 + k := ⟨n - (i + 1), by omega⟩
    rw [show i + 1 + k - (i + 1) = k by omega, show i + 1 + k - i = k + 1 by omega]; rfl
   ·rw [if_neg h2, if_neg (by simp; omega)]
theorem FT.of_is (l : List Value) (ts : List Value) (h : ∀ i, lget ts i = lget l i) : (FT.ofL l 0 .leaf).is ts := fun i => by
 rw [FT.ofL_is, h i]
 by_cases k : i < l.length
 ·rw [if_pos (by omega), Nat.sub_zero]
 ·rw [if_neg (by omega), lget_len (by omega)]; rfl
theorem lget_start (args : List Value) (n i : Nat) : lget (args ++ List.replicate n undef) i = lget args i := by
 rw [lget_eq, lget_eq]
 by_cases h : i < args.length
 ·rw [List.getElem?_append_left h]
 ·rw [List.getElem?_append_right (by omega), List.getElem?_eq_none (by omega : args.length ≤ i), List.getElem?_replicate]
  split <;> rfl
noncomputable def constF (v : Value) : Option Value := @Bool.rec (fun _ => Option Value) none (some v) (plain v)
noncomputable def evF (t : FT) (x : Operand) : Option Value :=
 @Operand.rec (fun _ => Option Value) (fun i => some (t.get i)) constF (fun _ => none) (fun f => some (.func (.func f) #[] #[])) x
noncomputable def evsF (t : FT) (xs : List Operand) : Option (List Value) :=
 @List.rec Operand (fun _ => Option (List Value)) (some []) (fun x _ ih => @Option.rec Value (fun _ => Option (List Value)) none (fun v => @Option.rec (List Value) (fun _ => Option (List Value)) none (fun vs => some (v :: vs)) ih) (evF t x)) xs
noncomputable def evoF (t : FT) (x : Option Operand) : Option (Option Value) :=
 @Option.rec Operand (fun _ => Option (Option Value)) (some none) (fun x => @Option.rec Value (fun _ => Option (Option Value)) none (fun v => some (some v)) (evF t x)) x
noncomputable def partsF (t : FT) (xs : List (Nat × Operand)) : Option (List (Nat × Value)) :=
 @List.rec (Nat × Operand) (fun _ => Option (List (Nat × Value))) (some []) (fun p _ ih => @Option.rec Value (fun _ => Option (List (Nat × Value))) none (fun v => @Option.rec (List (Nat × Value)) (fun _ => Option (List (Nat × Value))) none (fun vs => some ((p.1, v) :: vs)) ih) (evF t p.2)) xs
variable {t : FT} {ts : List Value}
theorem evF_is (h : t.is ts) (x : Operand) : evF t x = ev ts x := by
 cases x with
 | tmp i => show some (t.get i) = some (lget ts i); rw [h i]
 | const v =>
  show @Bool.rec (fun _ => Option Value) none (some v) (plain v) = if plain v then some v else none
  cases plain v <;> rfl
 | global g => rfl
 | func f => rfl
theorem evsF_is (h : t.is ts) : ∀ xs, evsF t xs = evs ts xs
 | [] => rfl
 | x :: xs => by
  have e : evsF t (x :: xs) = @Option.rec Value (fun _ => Option (List Value)) none (fun v => @Option.rec (List Value) (fun _ => Option (List Value)) none (fun vs => some (v :: vs)) (evsF t xs)) (evF t x) := rfl
  rw [e, evs, evF_is h, evsF_is h xs]
  cases ev ts x with
  | none => rfl
  | some v => cases evs ts xs <;> rfl
theorem evoF_is (h : t.is ts) (x : Option Operand) : evoF t x = evo ts x := by
 cases x with
 | none => rfl
 | some x =>
  show @Option.rec Value (fun _ => Option (Option Value)) none (fun v => some (some v)) (evF t x) = _
  rw [evo, evF_is h]
  cases ev ts x <;> rfl
theorem partsF_is (h : t.is ts) : ∀ xs, partsF t xs = partsA ts xs
 | [] => rfl
 | (i, x) :: xs => by
  have e : partsF t ((i, x) :: xs) = @Option.rec Value (fun _ => Option (List (Nat × Value))) none (fun v => @Option.rec (List (Nat × Value)) (fun _ => Option (List (Nat × Value))) none (fun vs => some ((i, v) :: vs)) (partsF t xs)) (evF t x) := rfl
  rw [e, partsA, evF_is h, partsF_is h xs]
  cases ev ts x with
  | none => rfl
  | some v => cases partsA ts xs <;> rfl
noncomputable def k1 (k : Value → Option ORes) (t : FT) (x : Operand) : Option ORes := @Option.rec Value (fun _ => Option ORes) none k (evF t x)
noncomputable def k2 (k : Value → Value → Option ORes) (t : FT) (x y : Operand) : Option ORes := @Option.rec Value (fun _ => Option ORes) none (fun u => @Option.rec Value (fun _ => Option ORes) none (k u) (evF t y)) (evF t x)
noncomputable def k3 (k : Value → Value → Value → Option ORes) (t : FT) (x y z : Operand) : Option ORes := @Option.rec Value (fun _ => Option ORes) none (fun u => k2 (k u) t y z) (evF t x)
theorem k1_is (h : t.is ts) (k : Value → Option ORes) (x : Operand) : k1 k t x = match ev ts x with | some v => k v | none => none := by
 unfold k1; rw [evF_is h]; cases ev ts x <;> rfl
theorem k2_is (h : t.is ts) (k : Value → Value → Option ORes) (x y : Operand) : k2 k t x y = match ev ts x, ev ts y with | some u, some v => k u v | _, _ => none := by
 unfold k2; rw [evF_is h, evF_is h]
 cases ev ts x with
 | none => rfl
 | some u => cases ev ts y <;> rfl
theorem k3_is (h : t.is ts) (k : Value → Value → Value → Option ORes) (x y z : Operand) : k3 k t x y z = match ev ts x, ev ts y, ev ts z with | some u, some v, some w => k u v w | _, _, _ => none := by
 unfold k3 k2; rw [evF_is h, evF_is h, evF_is h]
 cases ev ts x with
 | none => rfl
 | some u => cases ev ts y with
  | none => rfl
  | some v => cases ev ts z <;> rfl
abbrev SF := TT → (FuncId → Bool) → FT → St → Option ORes
noncomputable def fMove (x : Operand) : SF := fun _ _ t _ => k1 (fun v => some (.val v [])) t x
noncomputable def fPick (a b c : Operand) : SF := fun _ _ t _ => k3 opPick t a b c
noncomputable def fAlloc (e : TypeId) : SF := fun T _ _ σ => opAlloc T σ e
noncomputable def fBox (_ : TypeId) (x : Operand) : SF := fun _ _ t σ => k1 (opBox σ) t x
noncomputable def fBuild (e : TypeId) (ps : Array (Nat × Operand)) : SF := fun T _ t _ => @Option.rec (List (Nat × Value)) (fun _ => Option ORes) none (opBuild T e) (partsF t ps.toList)
noncomputable def fBuildSlice (e : TypeId) (n : Nat) (ps : Array (Nat × Operand)) : SF := fun T _ t σ => @Option.rec (List (Nat × Value)) (fun _ => Option ORes) none (opBuildSlice T σ e n) (partsF t ps.toList)
noncomputable def fMapUpdate (e : TypeId) (x y z : Operand) : SF := fun T _ t σ => k3 (opMapUpdate T σ e) t x y z
noncomputable def fLoad (e : TypeId) (x : Operand) : SF := fun T _ t σ => k1 (opLoad T σ e) t x
noncomputable def fStore (e : TypeId) (x y : Operand) : SF := fun T _ t σ => k2 (opStore T σ e) t x y
def fNo1 (_ : Nat) : SF := fun _ _ _ _ => none
noncomputable def fNilCheck (x : Operand) : SF := fun _ _ t _ => k1 opNilCheck t x
noncomputable def fBin (op : BinOp) (e : TypeId) (x y : Operand) (_ : TypeId) : SF := fun T _ t _ => k2 (opBin T op e) t x y
noncomputable def fUn (op : UnOp) (_ : TypeId) (x : Operand) : SF := fun _ _ t _ => k1 (opUn op) t x
def convV (T : TT) (σ : St) (s d : TypeId) : Value → Option ORes
 | .pointer q => opConvP T σ s d (.pointer q)
 | v => opConvert T s d v
noncomputable def fConvert (s d : TypeId) (x : Operand) : SF := fun T _ t σ => k1 (convV T σ s d) t x
def fS2ap (_ : TypeId) (_ : Operand) : SF := fun _ _ _ _ => none
noncomputable def fMakeIface (e : TypeId) (x : Operand) : SF := fun T _ t _ => k1 (opMakeIface T e) t x
noncomputable def fMakeFunc (fn : Fn) (xs ys : Array Operand) : SF := fun _ _ t _ => @Option.rec (List Value) (fun _ => Option ORes) none (fun us => @Option.rec (List Value) (fun _ => Option ORes) none (opMakeFunc fn us) (evsF t ys.toList)) (evsF t xs.toList)
def mapIf (σ : St) (v : Option Value) (d : TypeDesc) : Option ORes := if isMapD d then opMakeMap σ v else none
noncomputable def fMakeMap (e : TypeId) (r : Option Operand) : SF := fun T _ t σ => @Option.rec TypeDesc (fun _ => Option ORes) none (fun d => @Option.rec (Option Value) (fun _ => Option ORes) none (fun v => mapIf σ v d) (evoF t r)) (T.und e)
def fMakeChan (_ : TypeId) (_ : Operand) : SF := fun _ _ _ _ => none
noncomputable def fMakeSlice (e : TypeId) (x y : Operand) : SF := fun T _ t σ => k2 (opMakeSlice T σ e) t x y
noncomputable def fSlice (e : TypeId) (x : Operand) (lo hi mx : Option Operand) : SF := fun T _ t _ =>
 k1 (fun v => @Option.rec (Option Value) (fun _ => Option ORes) none (fun l => @Option.rec (Option Value) (fun _ => Option ORes) none (fun h => @Option.rec (Option Value) (fun _ => Option ORes) none (opSlice T e v l h) (evoF t mx)) (evoF t hi)) (evoF t lo)) t x
noncomputable def fFieldAddr (e : TypeId) (x : Operand) (k : Nat) : SF := fun T _ t _ => k1 (opFieldAddr T e k) t x
noncomputable def fField (e : TypeId) (x : Operand) (k : Nat) : SF := fun T _ t _ => k1 (opField T e k) t x
noncomputable def fIndexAddr (e : TypeId) (x y : Operand) : SF := fun T _ t _ => k2 (opIndexAddr T e) t x y
noncomputable def fIndex (e : TypeId) (x y : Operand) : SF := fun T _ t _ => k2 (opIndex T e) t x y
noncomputable def fLookup (e : TypeId) (x y : Operand) (ok : Bool) : SF := fun T _ t σ => k2 (opLookup T σ e ok) t x y
def fNo3 (_ : TypeId) (_ _ : Operand) : SF := fun _ _ _ _ => none
def fNo4 (_ : TypeId) (_ _ _ : Operand) : SF := fun _ _ _ _ => none
noncomputable def fRange (e : TypeId) (x : Operand) : SF := fun T _ t σ => k1 (opRange T σ e) t x
noncomputable def fNext (x : Operand) (s : Bool) : SF := fun _ _ t σ => k1 (opNext σ s) t x
noncomputable def fEntry (x : Operand) : SF := fun _ _ t σ => k1 (opEntry σ) t x
noncomputable def fTypeAssert (x : Operand) (_ u : TypeId) (ok : Bool) : SF := fun T _ t _ => k1 (opTypeAssert T u ok) t x
noncomputable def fExtract (x : Operand) (k : Nat) : SF := fun _ _ t _ => k1 (opExtract k) t x
noncomputable def fBuiltin (T : TT) (b : Builtin) (xs : List Operand) (tys : List TypeId) (t : FT) (σ : St) : Option ORes :=
 match b, xs, tys with
 | .len, [x], [e] => k1 (opLen T σ e) t x
 | .cap, [x], [e] => k1 (opCap T e) t x
 | .append, [x, y], [e, e'] => k2 (opAppend T σ e e') t x y
 | .copy, [x, y], [e, _] => k2 (opCopy T σ e) t x y
 | .delete, [x, y], [e, _] => k2 (opDelete T σ e) t x y
 | .max, [x, y], _ => k2 opMax t x y
 | .min, [x, y], _ => k2 opMin t x y
 | .recover, [], _ => some .recover
 | _, _, _ => none
noncomputable def fCall (c : Call) : SF := fun T B t σ => @Callee.rec (fun _ => Option ORes)
 (fun f => @Option.rec Value (fun _ => Option ORes) none (fun fv => @Option.rec (List Value) (fun _ => Option ORes) none (opCall T B σ fv) (evsF t c.args.toList)) (evF t f))
 (fun _ _ => none) (fun b => fBuiltin T b c.args.toList c.argTypes.toList t σ) c.callee
def fGo (_ : Call) : SF := fun _ _ _ _ => none
noncomputable def fDefer (c : Call) : SF := fun _ B t _ => @Callee.rec (fun _ => Option ORes)
 (fun f => @Option.rec Value (fun _ => Option ORes) none (fun fv => @Option.rec (List Value) (fun _ => Option ORes) none (opDefer B fv) (evsF t c.args.toList)) (evF t f))
 (fun _ _ => none) (fun _ => none) c.callee
noncomputable def fPanic (x : Operand) : SF := fun _ _ t _ => k1 opPanic t x
def fSend (_ _ : Operand) : SF := fun _ _ _ _ => none
def fRecv (_ : TypeId) (_ : Operand) (_ : Bool) : SF := fun _ _ _ _ => none
def fSelect (_ : Array SelectCase) (_ : Bool) : SF := fun _ _ _ _ => none
noncomputable def stepF (o : Op) : SF :=
 @Op.rec (fun _ => SF) fMove fMove fPick fAlloc fBox fBuild fBuildSlice fMapUpdate fLoad fStore fNo1 fNo1 fNilCheck fBin fUn fConvert fS2ap fMakeIface fMakeFunc fMakeMap fMakeChan fMakeSlice fSlice fFieldAddr fField fIndexAddr fIndex fLookup fMapUpdate fNo3 fNo4 fRange fNext fEntry fTypeAssert fExtract fCall fGo fDefer fPanic fSend fRecv fSelect o
theorem fBuiltin_is (h : t.is ts) (T : TT) (o : Oper) (b : Builtin) (xs : List Operand) (tys : List TypeId) (σ : St) : fBuiltin T b xs tys t σ = stepBuiltin T o b xs tys ts σ := by
 unfold fBuiltin stepBuiltin
 split
 ·exact k1_is h _ _
 ·exact k1_is h _ _
 ·exact k2_is h _ _ _
 ·exact k2_is h _ _ _
 ·exact k2_is h _ _ _
 ·exact k2_is h _ _ _
 ·exact k2_is h _ _ _
 ·rfl
 ·split <;> simp_all <;> (rename_i hx; exact absurd rfl (hx _ _ _ _ rfl rfl rfl))
theorem stepF_is (h : t.is ts) (T : TT) (B : FuncId → Bool) (o : Oper) (σ : St) : stepF o.op T B t σ = stepOp T B o ts σ := by
 unfold stepOp
 cases ho : o.op with
 | move x => exact k1_is h _ _
 | assign x => exact k1_is h _ _
 | pick a b c => exact k3_is h _ _ _ _
 | alloc e => rfl
 | box e x => exact k1_is h _ _
 | build e ps =>
  show @Option.rec (List (Nat × Value)) (fun _ => Option ORes) none (opBuild T e) (partsF t ps.toList) = _
  rw [partsF_is h]
  dsimp only
  cases partsA ts ps.toList <;> rfl
 | buildSlice e n ps =>
  show @Option.rec (List (Nat × Value)) (fun _ => Option ORes) none (opBuildSlice T σ e n) (partsF t ps.toList) = _
  rw [partsF_is h]
  dsimp only
  cases partsA ts ps.toList <;> rfl
 | insert e x y z => exact k3_is h _ _ _ _
 | load e x => exact k1_is h _ _
 | store e x y => exact k2_is h _ _ _
 | nilCheck x => exact k1_is h _ _
 | binOp op e x y e' => exact k2_is h _ _ _
 | unOp op e x => exact k1_is h _ _
 | convert s d x =>
  refine (k1_is h _ _).trans ?_
  dsimp only
  cases ev ts x with
  | none => rfl
  | some v => cases v <;> rfl
 | makeInterface e x => exact k1_is h _ _
 | makeFunc fn xs ys =>
  show @Option.rec (List Value) (fun _ => Option ORes) none (fun us => @Option.rec (List Value) (fun _ => Option ORes) none (opMakeFunc fn us) (evsF t ys.toList)) (evsF t xs.toList) = _
  rw [evsF_is h, evsF_is h]
  dsimp only
  cases evs ts xs.toList with
  | none => rfl
  | some us => cases evs ts ys.toList <;> rfl
 | makeMap e r =>
  show @Option.rec TypeDesc (fun _ => Option ORes) none (fun d => @Option.rec (Option Value) (fun _ => Option ORes) none (fun v => mapIf σ v d) (evoF t r)) (T.und e) = _
  rw [evoF_is h]
  dsimp only
  cases T.und e with
  | none => rfl
  | some d => cases evo ts r <;> rfl
 | makeSlice e x y => exact k2_is h _ _ _
 | slice e x lo hi mx =>
  refine (k1_is h _ _).trans ?_
  rw [evoF_is h, evoF_is h, evoF_is h]
  dsimp only
  cases ev ts x with
  | none => rfl
  | some v => cases evo ts lo with
   | none => rfl
   | some l => cases evo ts hi with
    | none => rfl
    | some u => cases evo ts mx <;> rfl
 | fieldAddr e x k => exact k1_is h _ _
 | field e x k => exact k1_is h _ _
 | indexAddr e x y => exact k2_is h _ _ _
 | index e x y => exact k2_is h _ _ _
 | lookup e x y ok => exact k2_is h _ _ _
 | mapUpdate e x y z => exact k3_is h _ _ _ _
 | range e x => exact k1_is h _ _
 | next x s => exact k1_is h _ _
 | entry x => exact k1_is h _ _
 | typeAssert x e u ok => exact k1_is h _ _
 | extract x k => exact k1_is h _ _
 | call c =>
  obtain ⟨callee, args, tys⟩ := c
  cases callee with
  | value f =>
   show @Option.rec Value (fun _ => Option ORes) none (fun fv => @Option.rec (List Value) (fun _ => Option ORes) none (opCall T B σ fv) (evsF t args.toList)) (evF t f) = _
   rw [evF_is h, evsF_is h]
   dsimp only
   cases ev ts f with
   | none => rfl
   | some fv => cases evs ts args.toList <;> rfl
  | builtin b => exact fBuiltin_is h T o b _ _ σ
  | invoke _ _ => rfl
 | defer c =>
  obtain ⟨callee, args, tys⟩ := c
  cases callee with
  | value f =>
   show @Option.rec Value (fun _ => Option ORes) none (fun fv => @Option.rec (List Value) (fun _ => Option ORes) none (opDefer B fv) (evsF t args.toList)) (evF t f) = _
   rw [evF_is h, evsF_is h]
   dsimp only
   cases ev ts f with
   | none => rfl
   | some fv => cases evs ts args.toList <;> rfl
  | builtin b => rfl
  | invoke _ _ => rfl
 | panic x => exact k1_is h _ _
 | _ => rfl
def boolOf : Value → Option Bool
 | .bool b => some b
 | _ => none
noncomputable def yieldF (ops : List Oper) (t : FT) (j : Nat) : Option Bool :=
 match ops[j]? with
 | some o => match o.dst with
  | some d => boolOf (t.get d)
  | none => none
 | none => none
noncomputable def wantedF (ops : List Oper) (o : Oper) (t : FT) : Bool :=
 @Option.rec (Nat × Bool) (fun _ => Bool) true (fun p => @Option.rec Bool (fun _ => Bool) false (fun b => b == p.2) (yieldF ops t p.1)) o.guard
theorem yieldF_is (h : t.is ts) (ops : List Oper) (j : Nat) : yieldF ops t j = yieldedA ops ts j := by
 unfold yieldF yieldedA
 cases ops[j]? with
 | none => rfl
 | some o =>
  dsimp only
  cases o.dst with
  | none => rfl
  | some d =>
   dsimp only
   rw [h d, lget_eq, lget?_eq]
   cases ts[d]? with
   | none => rfl
   | some v => cases v <;> rfl
theorem wantedF_is (h : t.is ts) (ops : List Oper) (o : Oper) : wantedF ops o t = wantedA ops o ts := by
 unfold wantedF wantedA
 cases o.guard with
 | none => rfl
 | some p =>
  obtain ⟨j, b⟩ := p
  dsimp only
  rw [yieldF_is h]
  cases yieldedA ops ts j <;> rfl
noncomputable def wantF (T : TT) (B : FuncId → Bool) (o : Oper) (t : FT) (σ : St) (b : Bool) : Option ORes :=
 @Bool.rec (fun _ => Option ORes) (some (.val undef [])) (stepF o.op T B t σ) b
theorem wantF_is (h : t.is ts) (T : TT) (B : FuncId → Bool) (o : Oper) (σ : St) (b : Bool) : wantF T B o t σ b = wantK T B o ts σ b := by
 cases b with
 | true => exact stepF_is h T B o σ
 | false => rfl
structure RF where
 x : AX
 t : FT
 ds : List Deferred
 σ : St
 lg : Log
def RF.is (r : RF) (n : Nat) (r' : RR) : Prop := r.x = r'.x ∧ r.t.is r'.fr.ts ∧ r'.fr.ts.length = n ∧ r.ds = r'.fr.ds ∧ r.σ = r'.σ ∧ r.lg = r'.lg
def Sim (n : Nat) (a : Option RF) (b : Option RR) : Prop := ∀ r, a = some r → ∃ r', b = some r' ∧ r.is n r'
abbrev KF := FT → List Deferred → St → Log → Option RF
noncomputable def callFK (n : Nat) (t : FT) (ds : List Deferred) (dst : Option Tmp) (lg : Log) (k : KF) (p : AE × St × Log) : Option RF :=
 @AE.rec (fun _ => Option RF) (fun v => k (t.put n dst v) ds p.2.1 (lg ++ p.2.2)) (fun c => some ⟨.panic c, t, ds, p.2.1, lg ++ p.2.2⟩) p.1
noncomputable def opsFK (orc : Orc) (rnd : Bool) (n : Nat) (dst : Option Tmp) (t : FT) (ds : List Deferred) (σ : St) (lg : Log) (k : KF) (r : ORes) : Option RF :=
 @ORes.rec (fun _ => Option RF)
  (fun v _ => k (t.put n dst v) ds σ lg)
  (fun ob v _ => k (t.put n dst v) ds (σ.new ob) lg)
  (fun v σ' l => k (t.put n dst v) ds σ' (lg ++ l))
  (fun v => some ⟨.panic [{ v, recovered := false }], t, ds, σ, lg⟩)
  (fun f args => @Option.rec (AE × St × Log) (fun _ => Option RF) none (callFK n t ds dst lg k) (orc.call f args σ))
  (fun f args => @Option.rec (AE × St × Log) (fun _ => Option RF) none (callFK n t ds dst lg k) (orc.round f args σ))
  (fun d => @Bool.rec (fun _ => Option RF) (k (t.put n dst undef) (d :: ds) σ lg) none rnd)
  none r
noncomputable def opsF (C : Cx) (orc : Orc) (rnd : Bool) (n : Nat) (ops rest : List Oper) : KF :=
 @List.rec Oper (fun _ => KF) (fun t ds σ lg => some ⟨.norm, t, ds, σ, lg⟩)
  (fun o _ ih t ds σ lg => @Option.rec ORes (fun _ => Option RF) none (opsFK orc rnd n o.dst t ds σ lg ih) (wantF C.T C.bodies o t σ (wantedF ops o t))) rest
def toRR : Option (AX × Fr × St × Log) → Option RR
 | some (x, fr, σ, lg) => some ⟨x, fr, σ, lg⟩
 | none => none
theorem callFK_sim {n : Nat} {ds : List Deferred} (h : t.is ts) (hn : ts.length = n) (dst : Option Tmp) (lg : Log) {k : KF} {k' : OpsK}
  (hk : ∀ t ts, t.is ts → ts.length = n → ∀ ds σ lg, Sim n (k t ds σ lg) (toRR (k' ⟨ts, ds⟩ σ lg))) (p : Option (AE × St × Log)) :
  Sim n (@Option.rec (AE × St × Log) (fun _ => Option RF) none (callFK n t ds dst lg k) p) (toRR (callK ⟨ts, ds⟩ dst lg k' p)) := by
 cases p with
 | none => intro r hr; cases hr
 | some p =>
  obtain ⟨e, σ', l⟩ := p
  cases e with
  | ret v =>
   show Sim n (k (t.put n dst v) ds σ' (lg ++ l)) (toRR (k' (Fr.put ⟨ts, ds⟩ dst v) σ' (lg ++ l)))
   rw [Fr.put_is]
   exact hk _ _ (by rw [← hn]; exact h.put dst v) (by rw [putL_len]; exact hn) _ _ _
  | panic c =>
   intro r hr
   cases hr
   exact ⟨_, rfl, rfl, h, hn, rfl, rfl, rfl⟩
theorem opsFK_sim {orc : Orc} {rnd : Bool} {n : Nat} {ds : List Deferred} {σ : St} (h : t.is ts) (hn : ts.length = n) (dst : Option Tmp) (lg : Log) {k : KF} {k' : OpsK}
  (hk : ∀ t ts, t.is ts → ts.length = n → ∀ ds σ lg, Sim n (k t ds σ lg) (toRR (k' ⟨ts, ds⟩ σ lg))) (p : Option ORes) :
  Sim n (@Option.rec ORes (fun _ => Option RF) none (opsFK orc rnd n dst t ds σ lg k) p) (toRR (opsK orc rnd dst ⟨ts, ds⟩ σ lg k' p)) := by
 have hp : ∀ v, (t.put n dst v).is (putL ts dst v) := fun v => by rw [← hn]; exact h.put dst v
 have hl : ∀ v, (putL ts dst v).length = n := fun v => by rw [putL_len]; exact hn
 cases p with
 | none => intro r hr; cases hr
 | some p =>
  cases p with
  | val v rd =>
   show Sim n (k (t.put n dst v) ds σ lg) (toRR (k' (Fr.put ⟨ts, ds⟩ dst v) σ lg))
   rw [Fr.put_is]; exact hk _ _ (hp v) (hl v) _ _ _
  | new ob v rd =>
   show Sim n (k (t.put n dst v) ds (σ.new ob) lg) (toRR (k' (Fr.put ⟨ts, ds⟩ dst v) (σ.new ob) lg))
   rw [Fr.put_is]; exact hk _ _ (hp v) (hl v) _ _ _
  | eff v σ' l =>
   show Sim n (k (t.put n dst v) ds σ' (lg ++ l)) (toRR (k' (Fr.put ⟨ts, ds⟩ dst v) σ' (lg ++ l)))
   rw [Fr.put_is]; exact hk _ _ (hp v) (hl v) _ _ _
  | panic v => intro r hr; cases hr; exact ⟨_, rfl, rfl, h, hn, rfl, rfl, rfl⟩
  | enter f args => exact callFK_sim h hn dst lg hk _
  | round f args => exact callFK_sim h hn dst lg hk _
  | defer d =>
   cases rnd with
   | true => intro r hr; cases hr
   | false =>
    show Sim n (k (t.put n dst undef) (d :: ds) σ lg) (toRR (k' (Fr.put ⟨ts, d :: ds⟩ dst undef) σ lg))
    rw [Fr.put_is]; exact hk _ _ (hp _) (hl _) _ _ _
  | recover => intro r hr; cases hr
theorem opsF_sim {C : Cx} {orc : Orc} {rnd : Bool} {n : Nat} {ops : List Oper} : ∀ (rest : List Oper) (t : FT) (ts : List Value), t.is ts → ts.length = n → ∀ ds σ lg, Sim n (opsF C orc rnd n ops rest t ds σ lg) (toRR (runOps C orc rnd ops rest ⟨ts, ds⟩ σ lg))
 | [], t, ts, h, hn, ds, σ, lg => by
  intro r hr; cases hr; exact ⟨_, rfl, rfl, h, hn, rfl, rfl, rfl⟩
 | o :: rest, t, ts, h, hn, ds, σ, lg => by
  have e : opsF C orc rnd n ops (o :: rest) t ds σ lg = @Option.rec ORes (fun _ => Option RF) none (opsFK orc rnd n o.dst t ds σ lg (opsF C orc rnd n ops rest)) (wantF C.T C.bodies o t σ (wantedF ops o t)) := rfl
  rw [e, runOps, wantedF_is h, wantF_is h]
  exact opsFK_sim h hn _ _ (fun t ts h hn ds σ lg => opsF_sim rest t ts h hn ds σ lg) _
structure DF where
 st : List (St × SK)
 t : FT
 σ : St
 lg : Log
def DF.is (r : DF) (n : Nat) (r' : Dr) : Prop := r.st = r'.st.map (fun s => (s.σ, s.kd)) ∧ r.t.is r'.ts ∧ r'.ts.length = n ∧ r.σ = r'.σ ∧ r.lg = r'.lg
def SimD (n : Nat) (a : Option DF) (b : Option Dr) : Prop := (a = none → b = none) ∧ ∀ r, a = some r → ∃ r', b = some r' ∧ r.is n r'
theorem SimD.none {n : Nat} : SimD n none none := ⟨fun _ => rfl, fun r hr => by cases hr⟩
noncomputable def consF (s : St × SK) (l : Log) (r : Option DF) : Option DF := @Option.rec DF (fun _ => Option DF) none (fun r => some ⟨s :: r.st, r.t, r.σ, l ++ r.lg⟩) r
noncomputable def callFD (n : Nat) (t : FT) (σ : St) (dst : Option Tmp) (k : FT → St → Option DF) (p : AE × St × Log) : Option DF :=
 @AE.rec (fun _ => Option DF) (fun v => consF (σ, .full p.2.2) p.2.2 (k (t.put n dst v) p.2.1)) (fun _ => none) p.1
noncomputable def drawnFK (orc : Orc) (n : Nat) (dst : Option Tmp) (t : FT) (σ : St) (k : FT → St → Option DF) (r : ORes) : Option DF :=
 @ORes.rec (fun _ => Option DF)
  (fun v rd => consF (σ, .pure rd) [] (k (t.put n dst v) σ))
  (fun ob v rd => consF (σ, .alloc ob rd) [] (k (t.put n dst v) (σ.new ob)))
  (fun v σ' l => consF (σ, .full l) l (k (t.put n dst v) σ'))
  (fun _ => none)
  (fun f args => @Option.rec (AE × St × Log) (fun _ => Option DF) none (callFD n t σ dst k) (orc.call f args σ))
  (fun _ _ => none) (fun _ => none) none r
noncomputable def drawnF (C : Cx) (orc : Orc) (n : Nat) (ops rest : List Oper) : FT → St → Option DF :=
 @List.rec Oper (fun _ => FT → St → Option DF) (fun t σ => some ⟨[], t, σ, []⟩)
  (fun o _ ih t σ => @Option.rec ORes (fun _ => Option DF) none (drawnFK orc n o.dst t σ ih) (wantF C.T C.bodies o t σ (wantedF ops o t))) rest
theorem consF_sim {n : Nat} {s : Stp} {l : Log} {a : Option DF} {b : Option Dr} (h : SimD n a b) : SimD n (consF (s.σ, s.kd) l a) (consD s l b) := by
 cases a with
 | none => rw [h.1 rfl]; exact SimD.none
 | some q =>
  obtain ⟨q', h1, h2, h3, h4, h5, h6⟩ := h.2 q rfl
  refine ⟨fun hr => (by cases hr), fun r hr => ?_⟩
  cases hr
  refine ⟨⟨s :: q'.st, q'.ts, q'.σ, l ++ q'.lg⟩, by rw [h1]; rfl, ?_, h3, h4, h5, ?_⟩
  ·show (s.σ, s.kd) :: q.st = _
   rw [h2]; rfl
  ·show l ++ q.lg = l ++ q'.lg
   rw [h6]
theorem drawnF_sim {C : Cx} {orc : Orc} {n : Nat} {ops : List Oper} : ∀ (rest : List Oper) (t : FT) (ts : List Value), t.is ts → ts.length = n → ∀ σ, SimD n (drawnF C orc n ops rest t σ) (runDrawn C orc ops rest ts σ)
 | [], t, ts, h, hn, σ => by
  exact ⟨fun hr => (by cases hr), fun r hr => by cases hr; exact ⟨_, rfl, rfl, h, hn, rfl, rfl⟩⟩
 | o :: rest, t, ts, h, hn, σ => by
  have e : drawnF C orc n ops (o :: rest) t σ = @Option.rec ORes (fun _ => Option DF) none (drawnFK orc n o.dst t σ (drawnF C orc n ops rest)) (wantF C.T C.bodies o t σ (wantedF ops o t)) := rfl
  rw [e, runDrawn, wantedF_is h, wantF_is h]
  have hk : ∀ v σ, SimD n (drawnF C orc n ops rest (t.put n o.dst v) σ) (runDrawn C orc ops rest (putL ts o.dst v) σ) := fun v σ => drawnF_sim rest _ _ (by rw [← hn]; exact h.put _ v) (by rw [putL_len]; exact hn) σ
  generalize wantK C.T C.bodies o ts σ (wantedA ops o ts) = p
  cases p with
  | none => exact SimD.none
  | some p =>
   cases p with
   | val v rd => exact consF_sim (s := ⟨ts, σ, v, .pure rd⟩) (hk v σ)
   | new ob v rd => exact consF_sim (s := ⟨ts, σ, v, .alloc ob rd⟩) (hk v _)
   | eff v σ' l => exact consF_sim (s := ⟨ts, σ, v, .full l⟩) (hk v _)
   | panic v => exact SimD.none
   | enter f args =>
    show SimD n (@Option.rec (AE × St × Log) (fun _ => Option DF) none (callFD n t σ o.dst (drawnF C orc n ops rest)) (orc.call f args σ)) (callD ts σ o.dst (runDrawn C orc ops rest) (orc.call f args σ))
    cases orc.call f args σ with
    | none => exact SimD.none
    | some p =>
     obtain ⟨e, σ', l⟩ := p
     cases e with
     | ret v => exact consF_sim (s := ⟨ts, σ, v, .full l⟩) (hk v _)
     | panic c => exact SimD.none
   | round f args => exact SimD.none
   | defer d => exact SimD.none
   | recover => exact SimD.none
noncomputable def orF (a b : Bool) : Bool := @Bool.rec (fun _ => Bool) b true a
noncomputable def andF (a b : Bool) : Bool := @Bool.rec (fun _ => Bool) false b a
noncomputable def notF (a : Bool) : Bool := @Bool.rec (fun _ => Bool) true false a
theorem orF_is (a b : Bool) : orF a b = (a || b) := by cases a <;> rfl
theorem andF_is (a b : Bool) : andF a b = (a && b) := by cases a <;> rfl
theorem notF_is (a : Bool) : notF a = !a := by cases a <;> rfl
noncomputable def anyF {α : Type} (p : α → Bool) (l : List α) : Bool := @List.rec α (fun _ => Bool) false (fun c _ ih => @Bool.rec (fun _ => Bool) ih true (p c)) l
noncomputable def allF {α : Type} (p : α → Bool) (l : List α) : Bool := @List.rec α (fun _ => Bool) true (fun c _ ih => @Bool.rec (fun _ => Bool) false ih (p c)) l
theorem anyF_is {α : Type} (p : α → Bool) : ∀ l, anyF p l = l.any p
 | [] => rfl
 | c :: l => by
  show @Bool.rec (fun _ => Bool) (anyF p l) true (p c) = _
  rw [List.any_cons, anyF_is p l]; cases p c <;> rfl
theorem allF_is {α : Type} (p : α → Bool) : ∀ l, allF p l = l.all p
 | [] => rfl
 | c :: l => by
  show @Bool.rec (fun _ => Bool) false (allF p l) (p c) = _
  rw [List.all_cons, allF_is p l]; cases p c <;> rfl
noncomputable def inF (lo hi c : Nat) : Bool := andF (Nat.ble lo c) (Nat.blt c hi)
theorem inF_is (lo hi c : Nat) : inF lo hi c = (decide (lo ≤ c) && decide (c < hi)) := by
 rw [inF, andF_is]
 congr 1 <;> (rw [Bool.eq_iff_iff]; simp [Nat.blt_eq])
noncomputable def memF (l : List Nat) (c : Nat) : Bool := anyF (Nat.beq c) l
theorem memF_is (l : List Nat) (c : Nat) : memF l c = l.contains c := by
 rw [memF, anyF_is, Bool.eq_iff_iff, List.any_eq_true, List.contains_iff_mem]
 exact ⟨fun ⟨x, h1, h2⟩ => by rw [Nat.eq_of_beq_eq_true h2]; exact h1, fun h => ⟨c, h, Nat.beq_refl c⟩⟩
noncomputable def nilF (l : List Nat) : Bool := @List.rec Nat (fun _ => Bool) true (fun _ _ _ => false) l
theorem nilF_is (l : List Nat) : nilF l = l.isEmpty := by cases l <;> rfl
noncomputable def clashF (ki kj : SK) (lo hi : Nat) : Bool :=
 orF (andF (andF ki.isFull kj.isFull) (notF (andF (nilF ki.lg) (nilF kj.lg))))
  (orF (anyF (inF lo hi) kj.lg) (orF (anyF (inF lo hi) kj.rd) (orF (anyF (memF kj.lg) ki.rd) (anyF (memF kj.rd) ki.lg))))
theorem clashF_is (ki kj : SK) (lo hi : Nat) : clashF ki kj lo hi = clash ki kj lo hi := by
 unfold clashF clash
 simp only [orF_is, andF_is, notF_is, anyF_is, nilF_is]
 simp only [show inF lo hi = (fun c => decide (lo ≤ c) && decide (c < hi)) from funext (inF_is lo hi), show memF kj.lg = (fun c => kj.lg.contains c) from funext (memF_is kj.lg), show memF kj.rd = (fun c => kj.rd.contains c) from funext (memF_is kj.rd)]
 simp only [Bool.or_assoc]
abbrev LoudF := List (Nat × SK × Nat × Nat)
noncomputable def headF (σ : St) (l : List (St × SK)) : St := @List.rec (St × SK) (fun _ => St) σ (fun s _ _ => s.1) l
noncomputable def loudF (σ : St) (l : List (St × SK)) : Nat → LoudF :=
 @List.rec (St × SK) (fun _ => Nat → LoudF) (fun _ => []) (fun s rest ih k => @Bool.rec (fun _ => LoudF) ((k, s.2, s.1.next, (headF σ rest).next) :: ih (Nat.succ k)) (ih (Nat.succ k)) (quietK s.2)) l
theorem loudF_is (σ : St) : ∀ (l : List Stp) (k : Nat), loudF σ (l.map fun s => (s.σ, s.kd)) k = loud l σ k
 | [], _ => rfl
 | s :: rest, k => by
  show @Bool.rec (fun _ => LoudF) ((k, s.kd, s.σ.next, (headF σ (rest.map fun s => (s.σ, s.kd))).next) :: loudF σ (rest.map fun s => (s.σ, s.kd)) (k + 1)) (loudF σ (rest.map fun s => (s.σ, s.kd)) (k + 1)) (quietK s.kd) = _
  rw [loudF_is σ rest (k + 1)]
  cases rest with
  | nil =>
   show _ = if quietK s.kd then loud [] σ (k + 1) else (k, s.kd, s.σ.next, σ.next) :: loud [] σ (k + 1)
   cases quietK s.kd <;> rfl
  | cons s' rest =>
   show _ = if quietK s.kd then loud (s' :: rest) σ (k + 1) else (k, s.kd, s.σ.next, s'.σ.next) :: loud (s' :: rest) σ (k + 1)
   cases quietK s.kd <;> rfl
noncomputable def pairF (bj j : Nat) (kj : SK) (q : Nat × SK × Nat × Nat) : Bool :=
 orF (Nat.ble j q.1) (orF (Nat.beq (Nat.land 1 (Nat.shiftRight bj q.1)) 1) (notF (clashF q.2.1 kj q.2.2.1 q.2.2.2)))
theorem pairF_is (bj j : Nat) (kj : SK) (q : Nat × SK × Nat × Nat) : pairF bj j kj q = (decide (j ≤ q.1) || bj.testBit q.1 || !clash q.2.1 kj q.2.2.1 q.2.2.2) := by
 unfold pairF
 rw [orF_is, orF_is, notF_is, clashF_is, ← Bool.or_assoc]
 congr 2
 ·rw [Bool.eq_iff_iff]; simp
 ·rw [Bool.eq_iff_iff, Nat.beq_eq]
  show 1 &&& (bj >>> q.1) = 1 ↔ (1 &&& (bj >>> q.1) != 0) = true
  have : 1 &&& (bj >>> q.1) = (bj >>> q.1) % 2 := by rw [Nat.and_comm, Nat.and_one_is_mod]
  rw [this]
  simp only [bne_iff_ne]
  omega
noncomputable def rowF (B : List Nat) (l : LoudF) (q : Nat × SK × Nat × Nat) : Bool := allF (pairF (B.getD q.1 0) q.1 q.2.1) l
noncomputable def dynF (B : List Nat) (r : DF) : Bool :=
 match loudF r.σ r.st 0 with
 | [] => true
 | [_] => true
 | l => allF (rowF B l) l
theorem dynF_is {n : Nat} {B : List Nat} {r : DF} {r' : Dr} (h : r.is n r') : dynF B r = dynOk B r' := by
 obtain ⟨h1, _, _, h4, _⟩ := h
 unfold dynF dynOk
 rw [h1, h4, loudF_is]
 generalize loud r'.st r'.σ 0 = l
 have key : allF (rowF B l) l = l.all fun (j, kj, _, _) => l.all fun (i, ki, lo, hi) => decide (j ≤ i) || (B.getD j 0).testBit i || !clash ki kj lo hi := by
  rw [allF_is]
  congr 1
  funext q
  obtain ⟨j, kj, a, b⟩ := q
  show allF (pairF (B.getD j 0) j kj) _ = _
  rw [allF_is]
  congr 1
  funext q
  exact pairF_is _ _ _ q
 cases l with
 | nil => rfl
 | cons a l => cases l with
  | nil => rfl
  | cons b l => exact key
noncomputable def absF (t : FT) (n : Nat) : Nat → List Value := @Nat.rec (fun _ => Nat → List Value) (fun _ => []) (fun _ ih i => t.get i :: ih (Nat.succ i)) n
theorem absF_get (t : FT) : ∀ (n i k : Nat), (absF t n i)[k]? = if k < n then some (t.get (i + k)) else none
 | 0, i, k => rfl
 | n + 1, i, k => by
  show (t.get i :: absF t n (i + 1))[k]? = _
  cases k with
  | zero => simp
  | succ k =>
   rw [List.getElem?_cons_succ, absF_get t n (i + 1) k, show i + 1 + k = i + (k + 1) by omega]
   by_cases h : k < n
   ·rw [if_pos h, if_pos (by omega)]
   ·rw [if_neg h, if_neg (by omega)]
theorem absF_is {n : Nat} (h : t.is ts) (hn : ts.length = n) : absF t n 0 = ts := by
 apply List.ext_getElem?
 intro k
 rw [absF_get]
 by_cases hk : k < n
 ·rw [if_pos hk, Nat.zero_add, h k, lget_eq, List.getElem?_eq_getElem (by omega)]; rfl
 ·rw [if_neg hk, List.getElem?_eq_none (by omega)]
noncomputable def backF (n : Nat) (r : Option RR) : Option RF :=
 @Option.rec RR (fun _ => Option RF) none (fun r => @Bool.rec (fun _ => Option RF) none (some ⟨r.x, FT.ofL r.fr.ts 0 .leaf, r.fr.ds, r.σ, r.lg⟩) (Nat.beq r.fr.ts.length n)) r
theorem backF_sim (n : Nat) (r : Option RR) : Sim n (backF n r) r := by
 intro q hq
 cases r with
 | none => cases hq
 | some r =>
  have e : backF n (some r) = @Bool.rec (fun _ => Option RF) none (some ⟨r.x, FT.ofL r.fr.ts 0 .leaf, r.fr.ds, r.σ, r.lg⟩) (Nat.beq r.fr.ts.length n) := rfl
  rw [e] at hq
  cases hb : Nat.beq r.fr.ts.length n with
  | false => rw [hb] at hq; cases hq
  | true => rw [hb] at hq; cases hq; exact ⟨r, rfl, rfl, FT.of_is _ _ fun _ => rfl, Nat.eq_of_beq_eq_true hb, rfl, rfl, rfl⟩
noncomputable def regionF (C : Cx) (orc : Orc) (B : List Nat) (rnd : Bool) (n : Nat) (ops : Array Oper) (draw : Bool) (t : FT) (ds : List Deferred) (σ : St) : Option RF :=
 @Bool.rec (fun _ => Option RF) (opsF C orc rnd n ops.toList ops.toList t ds σ [])
  (@Option.rec DF (fun _ => Option RF) (backF n (stopR C orc B ops.toList ⟨absF t n 0, ds⟩ σ ops.toList.reverse))
   (fun r => @Bool.rec (fun _ => Option RF) none (some ⟨.norm, r.t, ds, r.σ, r.lg⟩) (dynF B r)) (drawnF C orc n ops.toList ops.toList t σ)) draw
theorem regionF_sim {C : Cx} {orc : Orc} {B : List Nat} {rnd : Bool} {n : Nat} {ops : Array Oper} {draw : Bool} {ds : List Deferred} {σ : St} (h : t.is ts) (hn : ts.length = n) :
  Sim n (regionF C orc B rnd n ops draw t ds σ) (regionR C orc B rnd draw ops ⟨ts, ds⟩ σ) := by
 cases draw with
 | false =>
  have := opsF_sim (C := C) (orc := orc) (rnd := rnd) (ops := ops.toList) ops.toList t ts h hn ds σ []
  intro r hr
  obtain ⟨r', h1, h2⟩ := this r hr
  refine ⟨r', ?_, h2⟩
  unfold regionR
  dsimp only
  cases hq : runOps C orc rnd ops.toList ops.toList ⟨ts, ds⟩ σ [] with
  | none => rw [hq] at h1; cases h1
  | some q => rw [hq] at h1; exact h1
 | true =>
  have hs := drawnF_sim (C := C) (orc := orc) (ops := ops.toList) ops.toList t ts h hn σ
  intro r hr
  have e : regionF C orc B rnd n ops true t ds σ = @Option.rec DF (fun _ => Option RF) (backF n (stopR C orc B ops.toList ⟨absF t n 0, ds⟩ σ ops.toList.reverse))
   (fun r => @Bool.rec (fun _ => Option RF) none (some ⟨.norm, r.t, ds, r.σ, r.lg⟩) (dynF B r)) (drawnF C orc n ops.toList ops.toList t σ) := rfl
  rw [e] at hr
  cases hd : drawnF C orc n ops.toList ops.toList t σ with
  | none =>
   rw [hd, absF_is h hn] at hr
   obtain ⟨r', h1, h2⟩ := backF_sim n _ r hr
   refine ⟨r', ?_, h2⟩
   unfold regionR
   dsimp only
   rw [hs.1 hd]
   exact h1
  | some q =>
   rw [hd] at hr
   obtain ⟨q', h1, h2⟩ := hs.2 q hd
   have hb := dynF_is (B := B) h2
   unfold regionR
   dsimp only
   rw [h1]
   dsimp only
   rw [← hb]
   cases hy : dynF B q with
   | false => simp only [hy] at hr; cases hr
   | true =>
    simp only [hy] at hr
    cases hr
    exact ⟨_, rfl, rfl, h2.2.1, h2.2.2.1, rfl, h2.2.2.2.1, h2.2.2.2.2⟩
noncomputable def preF (l : Log) (r : Option RF) : Option RF := @Option.rec RF (fun _ => Option RF) none (fun r => some ⟨r.x, r.t, r.ds, r.σ, l ++ r.lg⟩) r
theorem preF_sim {n : Nat} {l : Log} {a : Option RF} {b : Option RR} (h : Sim n a b) : Sim n (preF l a) (preO l b) := by
 intro r hr
 cases a with
 | none => cases hr
 | some q =>
  obtain ⟨q', h1, h2, h3, h4, h5, h6, h7⟩ := h q rfl
  cases hr
  exact ⟨q'.pre l, by rw [h1]; rfl, h2, h3, h4, h5, h6, by show l ++ q.lg = l ++ q'.lg; rw [h7]⟩
noncomputable def thenF (r : Option RF) (k : FT → List Deferred → St → Option RF) : Option RF :=
 @Option.rec RF (fun _ => Option RF) none (fun r => @AX.rec (fun _ => Option RF) (preF r.lg (k r.t r.ds r.σ)) (fun _ => some r) (fun _ => some r) (some r) (fun _ => some r) r.x) r
theorem thenF_sim {n : Nat} {a : Option RF} {b : Option RR} (h : Sim n a b) {k : FT → List Deferred → St → Option RF} {k' : Fr → St → Option RR}
  (hk : ∀ t ts, t.is ts → ts.length = n → ∀ ds σ, Sim n (k t ds σ) (k' ⟨ts, ds⟩ σ)) : Sim n (thenF a k) (thenR b k') := by
 intro r hr
 cases a with
 | none => cases hr
 | some q =>
  obtain ⟨⟨x', ⟨ts', ds'⟩, σ', lg'⟩, h1, h2, h3, h4, h5, h6, h7⟩ := h q rfl
  obtain ⟨x, t, ds, σ, lg⟩ := q
  dsimp only at h2 h3 h4 h5 h6 h7
  subst h2 h5 h6 h7
  rw [h1]
  cases x with
  | norm => exact preF_sim (hk t ts' h3 h4 ds σ) r hr
  | exit i => cases hr; exact ⟨_, rfl, rfl, h3, h4, rfl, rfl, rfl⟩
  | goto i => cases hr; exact ⟨_, rfl, rfl, h3, h4, rfl, rfl, rfl⟩
  | ret => cases hr; exact ⟨_, rfl, rfl, h3, h4, rfl, rfl, rfl⟩
  | panic c => cases hr; exact ⟨_, rfl, rfl, h3, h4, rfl, rfl, rfl⟩
noncomputable def condF (k₁ k₂ : FT → List Deferred → St → Option RF) (t : FT) (ds : List Deferred) (σ : St) (v : Option Value) : Option RF :=
 @Option.rec Value (fun _ => Option RF) none (fun v => @Option.rec Bool (fun _ => Option RF) none (fun b => @Bool.rec (fun _ => Option RF) (k₂ t ds σ) (k₁ t ds σ) b) (boolOf v)) v
theorem condF_sim {n : Nat} {k₁ k₂ : FT → List Deferred → St → Option RF} {k₁' k₂' : Fr → St → Option RR} {ds : List Deferred} {σ : St} (h1 : Sim n (k₁ t ds σ) (k₁' ⟨ts, ds⟩ σ)) (h2 : Sim n (k₂ t ds σ) (k₂' ⟨ts, ds⟩ σ)) (v : Option Value) :
    Sim n (condF k₁ k₂ t ds σ v) (condK k₁' k₂' ⟨ts, ds⟩ σ v) := by
  cases v with
  | none => intro r hr; cases hr
  | some v => cases v <;> try (intro r hr; cases hr; done)
              rename_i b
              cases b
              · exact h2
              · exact h1
noncomputable def blockF (id : Nat) (r : Option RF) : Option RF := @Option.rec RF (fun _ => Option RF) none (fun r => some ⟨r.x.inBlock id, r.t, r.ds, r.σ, r.lg⟩) r
theorem blockF_sim {n id : Nat} {a : Option RF} {b : Option RR} (h : Sim n a b) : Sim n (blockF id a) (blockK id b) := by
 intro r hr
 cases a with
 | none => cases hr
 | some q =>
  obtain ⟨q', h1, h2, h3, h4, h5, h6, h7⟩ := h q rfl
  cases hr
  exact ⟨⟨q'.x.inBlock id, q'.fr, q'.σ, q'.lg⟩, by rw [h1]; rfl, by show q.x.inBlock id = _; rw [h2], h3, h4, h5, h6, h7⟩
abbrev JF := Job → FT → List Deferred → St → Option RF
noncomputable def jumpF (k : JF) (b : Code) (l : Nat) (r : RF) (c : Option Code) : Option RF :=
 @Option.rec Code (fun _ => Option RF) (some r) (fun rest => preF r.lg (k (.scope b rest) r.t r.ds r.σ)) c
noncomputable def scopeF (k : JF) (b : Code) (r : Option RF) : Option RF :=
 @Option.rec RF (fun _ => Option RF) none (fun r => @AX.rec (fun _ => Option RF) (some r) (fun _ => some r) (fun l => jumpF k b l r (findLabel b l)) (some r) (fun _ => some r) r.x) r
def SimJ (n : Nat) (k : JF) (k' : Job → Fr → St → Option RR) : Prop := ∀ j t ts, t.is ts → ts.length = n → ∀ ds σ, Sim n (k j t ds σ) (k' j ⟨ts, ds⟩ σ)
theorem scopeF_sim {n : Nat} {k : JF} {k' : Job → Fr → St → Option RR} (hk : SimJ n k k') {b : Code} {a : Option RF} {c : Option RR} (h : Sim n a c) : Sim n (scopeF k b a) (scopeK k' b c) := by
 intro r hr
 cases a with
 | none => cases hr
 | some q =>
  obtain ⟨⟨x', ⟨ts', ds'⟩, σ', lg'⟩, h1, h2, h3, h4, h5, h6, h7⟩ := h q rfl
  obtain ⟨x, t, ds, σ, lg⟩ := q
  dsimp only at h2 h3 h4 h5 h6 h7
  subst h2 h5 h6 h7
  rw [h1]
  cases x with
  | norm => cases hr; exact ⟨_, rfl, rfl, h3, h4, rfl, rfl, rfl⟩
  | exit i => cases hr; exact ⟨_, rfl, rfl, h3, h4, rfl, rfl, rfl⟩
  | goto l =>
   have e : scopeF k b (some ⟨.goto l, t, ds, σ, lg⟩) = jumpF k b l ⟨.goto l, t, ds, σ, lg⟩ (findLabel b l) := rfl
   rw [e] at hr
   show ∃ r', jumpK k' b l ⟨ts', ds⟩ σ lg (findLabel b l) = some r' ∧ r.is n r'
   cases hf : findLabel b l with
   | none => rw [hf] at hr; cases hr; exact ⟨_, rfl, rfl, h3, h4, rfl, rfl, rfl⟩
   | some rest => rw [hf] at hr; exact preF_sim (hk _ t ts' h3 h4 ds σ) r hr
  | ret => cases hr; exact ⟨_, rfl, rfl, h3, h4, rfl, rfl, rfl⟩
  | panic c => cases hr; exact ⟨_, rfl, rfl, h3, h4, rfl, rfl, rfl⟩
def outF (t : FT) (ds : List Deferred) : Option RR → Option RF
 | some r => some ⟨r.x, t, ds, r.σ, r.lg⟩
 | none => none
noncomputable def rangeG (C : Cx) (orc : Orc) (me : FuncId) (n : Nat) (ps : Array Tmp) (assign body : Code) (t : FT) (ds : List Deferred) (σ : St) : Option Value → Option RF
 | some (.func (.func f) ⟨xs⟩ ⟨ys⟩) => match C.bodies f with
  | true => outF t (markOf σ.next :: ds) (rangeEnd ⟨[], markOf σ.next :: ds⟩ (σ.next + 1) (orc.call f (xs ++ [.func (.yield (σ.next + 1)) #[] #[]] ++ ys) (rangeSt me ps assign body (absF t n 0) σ)))
  | false => none
 | _ => none
noncomputable def rangeF (C : Cx) (orc : Orc) (bt : Nat → List Nat) (rnd : Bool) (n : Nat) (g : Operand) (ps : Array Tmp) (assign body : Code) (t : FT) (ds : List Deferred) (σ : St) : Option RF :=
 @Bool.rec (fun _ => Option RF) (rangeG C orc (meOf bt) n ps assign body t ds σ (evF t g)) none rnd
theorem rangeEnd_fr (ts : List Value) (ds : List Deferred) (b : Nat) (p : Option (AE × St × Log)) : rangeEnd ⟨ts, ds⟩ b p = (rangeEnd ⟨[], ds⟩ b p).map fun r => { r with fr := ⟨ts, ds⟩ } := by
 unfold rangeEnd
 split
 ·rename_i σ lg
  split
  ·rename_i L
   unfold rangeFin
   split <;> rfl
  ·rfl
 ·rfl
 ·rfl
theorem rangeEnd_ds {ds : List Deferred} {b : Nat} {p : Option (AE × St × Log)} {r : RR} (h : rangeEnd ⟨[], ds⟩ b p = some r) : r.fr = ⟨[], ds⟩ := by
 unfold rangeEnd at h
 split at h
 ·split at h
  ·unfold rangeFin at h
   split at h
   ·cases h; rfl
   ·cases h
  ·cases h
 ·cases h; rfl
 ·cases h
theorem rangeF_sim {C : Cx} {orc : Orc} {bt : Nat → List Nat} {rnd : Bool} {n : Nat} {g : Operand} {ps : Array Tmp} {assign body : Code} {ds : List Deferred} {σ : St} (h : t.is ts) (hn : ts.length = n) :
  Sim n (rangeF C orc bt rnd n g ps assign body t ds σ) (rangeQ C orc bt rnd g ps assign body ⟨ts, ds⟩ σ) := by
 cases rnd with
 | true => intro r hr; cases hr
 | false =>
  have e : rangeF C orc bt false n g ps assign body t ds σ = rangeG C orc (meOf bt) n ps assign body t ds σ (evF t g) := rfl
  rw [e, evF_is h]
  unfold rangeQ rangeR rangeG
  dsimp only
  split
  ·rename_i f xs ys hev
   rw [hev]
   dsimp only
   split
   ·rename_i hb
    rw [absF_is h hn, hb]
    dsimp only
    rw [rangeEnd_fr ts]
    intro r hr
    generalize hz : rangeEnd ⟨[], markOf σ.next :: ds⟩ (σ.next + 1) _ = z at hr
    cases z with
    | none => cases hr
    | some z =>
     cases hr
     exact ⟨_, rfl, rfl, h, hn, rfl, rfl, rfl⟩
   ·intro r hr; cases hr
  ·intro r hr; cases hr
structure RE where
 C : Cx
 orc : Orc
 bt : Nat → List Nat
 rnd : Bool
 n : Nat
 k : JF
abbrev CF := RE → FT → List Deferred → St → Option RF
def cSkip : CF := fun _ t ds σ => some ⟨.norm, t, ds, σ, []⟩
noncomputable def cRegion (id : Nat) (ops : Array Oper) (draw : Bool) : CF := fun E t ds σ => regionF E.C E.orc (E.bt id) E.rnd E.n ops draw t ds σ
noncomputable def cSeq (a b : Code) (_ _ : CF) : CF := fun E t ds σ => thenF (E.k (.code a) t ds σ) (E.k (.code b))
noncomputable def cCond (c : Operand) (a b : Code) (_ _ : CF) : CF := fun E t ds σ => condF (E.k (.code a)) (E.k (.code b)) t ds σ (evF t c)
noncomputable def cBlock (id : Nat) (b : Code) (_ : CF) : CF := fun E t ds σ => blockF id (E.k (.code b) t ds σ)
noncomputable def cLoop (b : Code) (_ : CF) : CF := fun E t ds σ => E.k (.loop b) t ds σ
noncomputable def cRange (g : Operand) (ps : Array Tmp) (a b : Code) (_ _ : CF) : CF := fun E t ds σ => rangeF E.C E.orc E.bt E.rnd E.n g ps a b t ds σ
def cExit (i : Nat) : CF := fun _ t ds σ => some ⟨.exit i, t, ds, σ, []⟩
noncomputable def cScope (b : Code) (_ : CF) : CF := fun E t ds σ => E.k (.scope b b) t ds σ
def cLabel (_ : Nat) : CF := fun _ t ds σ => some ⟨.norm, t, ds, σ, []⟩
def cGoto (i : Nat) : CF := fun _ t ds σ => some ⟨.goto i, t, ds, σ, []⟩
def cRet : CF := fun _ t ds σ => some ⟨.ret, t, ds, σ, []⟩
def cRefuse (_ : String) : CF := fun _ _ _ _ => none
noncomputable def codeF (c : Code) : CF := @Code.rec (fun _ => CF) cSkip cRegion cSeq cCond cBlock cLoop cRange cExit cScope cLabel cGoto cRet cRefuse c
noncomputable def jCode (c : Code) : CF := codeF c
noncomputable def jLoop (c : Code) : CF := fun E t ds σ => thenF (E.k (.code c) t ds σ) (E.k (.loop c))
noncomputable def jScope (b c : Code) : CF := fun E t ds σ => scopeF E.k b (E.k (.code c) t ds σ)
noncomputable def runF (C : Cx) (orc : Orc) (bt : Nat → List Nat) (rnd : Bool) (n fuel : Nat) : JF :=
 @Nat.rec (fun _ => JF) (fun _ _ _ _ => none) (fun _ ih j => @Job.rec (fun _ => CF) jCode jLoop jScope j ⟨C, orc, bt, rnd, n, ih⟩) fuel
theorem runF_sim {C : Cx} {orc : Orc} {bt : Nat → List Nat} {rnd : Bool} {n : Nat} : ∀ fuel, SimJ n (runF C orc bt rnd n fuel) (run C orc bt rnd fuel)
 | 0 => fun j t ts h hn ds σ r hr => by cases hr
 | fuel + 1 => fun j t ts h hn ds σ => by
  have ih := runF_sim (C := C) (orc := orc) (bt := bt) (rnd := rnd) (n := n) fuel
  have one : ∀ x, Sim n (some ⟨x, t, ds, σ, []⟩) (some ⟨x, ⟨ts, ds⟩, σ, []⟩) := fun x r hr => by cases hr; exact ⟨_, rfl, rfl, h, hn, rfl, rfl, rfl⟩
  have no : ∀ b, Sim n none b := fun b r hr => by cases hr
  cases j with
  | loop c => exact thenF_sim (ih (.code c) t ts h hn ds σ) fun t ts h hn ds σ => ih (.loop c) t ts h hn ds σ
  | scope b c => exact scopeF_sim ih (ih (.code c) t ts h hn ds σ)
  | code c =>
   cases c with
   | skip => exact one _
   | region id ops draw => exact regionF_sim h hn
   | seq a b => exact thenF_sim (ih (.code a) t ts h hn ds σ) fun t ts h hn ds σ => ih (.code b) t ts h hn ds σ
   | cond c a b =>
    have := condF_sim (ih (.code a) t ts h hn ds σ) (ih (.code b) t ts h hn ds σ) (ev ts c)
    rw [← evF_is h] at this
    simp only [run]
    rw [← evF_is h]
    exact this
   | block id b => exact blockF_sim (ih (.code b) t ts h hn ds σ)
   | loop b => exact ih (.loop b) t ts h hn ds σ
   | rangeFunc g ps a b => exact rangeF_sim h hn
   | exit i => exact one _
   | scope b => exact ih (.scope b b) t ts h hn ds σ
   | label l => exact one _
   | goto i => exact one _
   | ret => exact one _
   | refuse w => exact no _
noncomputable def resOneF (T : TT) (σ : St) (t : FT) (r : ResultVar) : Option Value :=
 @ResultVar.rec (fun _ => Option Value) (fun i => some (t.get i)) (fun a e => match opLoad T σ e (t.get a) with | some (.val v _) => some v | _ => none) r
noncomputable def resListF (T : TT) (σ : St) (t : FT) (rs : List ResultVar) : Option (List Value) :=
 @List.rec ResultVar (fun _ => Option (List Value)) (some []) (fun r _ ih => @Option.rec Value (fun _ => Option (List Value)) none (fun v => @Option.rec (List Value) (fun _ => Option (List Value)) none (fun vs => some (v :: vs)) ih) (resOneF T σ t r)) rs
def oneOr : List Value → Value
 | [v] => v
 | vs => .tuple ⟨vs⟩
theorem resOneF_is (h : t.is ts) (T : TT) (σ : St) (r : ResultVar) : resOneF T σ t r = resOne T σ ts r := by
 cases r with
 | tmp i => show some (t.get i) = some (lget ts i); rw [h i]
 | cell a e => show (match opLoad T σ e (t.get a) with | some (.val v _) => some v | _ => none) = _; rw [h a]; rfl
theorem resListF_is (h : t.is ts) (T : TT) (σ : St) : ∀ rs, resListF T σ t rs = resList T σ ts rs
 | [] => rfl
 | r :: rs => by
  have e : resListF T σ t (r :: rs) = @Option.rec Value (fun _ => Option (List Value)) none (fun v => @Option.rec (List Value) (fun _ => Option (List Value)) none (fun vs => some (v :: vs)) (resListF T σ t rs)) (resOneF T σ t r) := rfl
  rw [e, resListF_is h T σ rs, resOneF_is h, resList]
  cases resOne T σ ts r with
  | none => rfl
  | some v => cases resList T σ ts rs <;> rfl
noncomputable def leaveF (C : Cx) (orc : Orc) (bt : FuncId → Nat → List Nat) (funcs : FuncId → Option (FnRow P bt)) (fuel n : Nat) (fn : Func) (r : RF) : Option (AE × St × Log) :=
 @List.rec Deferred (fun _ => Option (AE × St × Log))
  (@Option.rec AM (fun _ => Option (AE × St × Log)) none (fun u => @AM.rec (fun _ => Option (AE × St × Log))
   (@Option.rec (List Value) (fun _ => Option (AE × St × Log)) none (fun vs => some (.ret (oneOr vs), r.σ, r.lg)) (resListF C.T r.σ r.t fn.results.toList))
   (fun c => some (.panic c, r.σ, r.lg)) u) (modeOf r.x))
  (fun _ _ _ => leaveR C orc bt funcs fuel fn (some ⟨r.x, ⟨absF r.t n 0, r.ds⟩, r.σ, r.lg⟩)) r.ds
theorem leaveF_is {C : Cx} {orc : Orc} {bt : FuncId → Nat → List Nat} {funcs : FuncId → Option (FnRow P bt)} {fuel n : Nat} {fn : Func} {r : RF} {r' : RR} (h : r.is n r') {p : AE × St × Log} (hp : leaveF C orc bt funcs fuel n fn r = some p) :
  leaveR C orc bt funcs fuel fn (some r') = some p := by
 obtain ⟨x', ⟨ts', ds'⟩, σ', lg'⟩ := r'
 obtain ⟨x, t, ds, σ, lg⟩ := r
 obtain ⟨h1, h2, h3, h4, h5, h6⟩ := h
 dsimp only at h1 h2 h3 h4 h5 h6
 subst h1 h4 h5 h6
 cases ds with
 | cons d ds =>
  have e : leaveF C orc bt funcs fuel n fn ⟨x, t, d :: ds, σ, lg⟩ = leaveR C orc bt funcs fuel fn (some ⟨x, ⟨absF t n 0, d :: ds⟩, σ, lg⟩) := rfl
  rw [e, absF_is h2 h3] at hp
  exact hp
 | nil =>
  have e : leaveF C orc bt funcs fuel n fn ⟨x, t, [], σ, lg⟩ = @Option.rec AM (fun _ => Option (AE × St × Log)) none (fun u => @AM.rec (fun _ => Option (AE × St × Log))
   (@Option.rec (List Value) (fun _ => Option (AE × St × Log)) none (fun vs => some (.ret (oneOr vs), σ, lg)) (resListF C.T σ t fn.results.toList))
   (fun c => some (.panic c, σ, lg)) u) (modeOf x) := rfl
  rw [e, resListF_is h2] at hp
  unfold leaveR
  dsimp only
  cases hm : modeOf x with
  | none => rw [hm] at hp; cases hp
  | some u =>
   rw [hm] at hp
   cases u with
   | returning =>
    simp only [leaveA, leaveEnd, resA]
    cases hl : resList C.T σ ts' fn.results.toList with
    | none => simp only [hl] at hp; cases hp
    | some vs =>
     simp only [hl] at hp
     cases hp
     cases vs with
     | nil => simp [oneOr]
     | cons v vs => cases vs <;> simp [oneOr]
   | panicking c =>
    simp only [leaveA, leaveEnd]
    cases hp
    simp
noncomputable def goF (C : Cx) (orc : Orc) (bt : FuncId → Nat → List Nat) (funcs : FuncId → Option (FnRow P bt)) (fuel n : Nat) (g : FnRow P bt) (args : List Value) (σ : St) : Option (AE × St × Log) :=
 @Option.rec RF (fun _ => Option (AE × St × Log)) none (leaveF C orc bt funcs fuel n g.fn) (runF C orc (bt g.num) false n fuel (.code g.code) (FT.ofL args 0 .leaf) [] σ)
noncomputable def callF (C : Cx) (orc : Orc) (bt : FuncId → Nat → List Nat) (funcs : FuncId → Option (FnRow P bt)) (fuel : Nat) (f : FuncId) (args : List Value) (σ : St) : Option (AE × St × Log) :=
 @Option.rec (FnRow P bt) (fun _ => Option (AE × St × Log)) none (fun g => @Bool.rec (fun _ => Option (AE × St × Log)) none (goF C orc bt funcs fuel (Nat.add args.length (Nat.sub g.fn.ntmps args.length)) g args σ) (Nat.beq g.num f)) (funcs f)
theorem callF_is {C : Cx} {orc : Orc} {bt : FuncId → Nat → List Nat} {funcs : FuncId → Option (FnRow P bt)} {fuel : Nat} {f : FuncId} {args : List Value} {σ : St} {p : AE × St × Log} (hp : callF C orc bt funcs fuel f args σ = some p) :
  callR C orc bt funcs fuel f args σ = some p := by
 unfold callR
 have e : callF C orc bt funcs fuel f args σ = @Option.rec (FnRow P bt) (fun _ => Option (AE × St × Log)) none (fun g => @Bool.rec (fun _ => Option (AE × St × Log)) none (goF C orc bt funcs fuel (Nat.add args.length (Nat.sub g.fn.ntmps args.length)) g args σ) (Nat.beq g.num f)) (funcs f) := rfl
 rw [e] at hp
 cases hf : funcs f with
 | none => rw [hf] at hp; cases hp
 | some g =>
  rw [hf] at hp
  dsimp only at hp ⊢
  cases hb : Nat.beq g.num f with
  | false => simp only [hb] at hp; cases hp
  | true =>
   simp only [hb] at hp
   dsimp only
   unfold goF at hp
   generalize hN : Nat.add args.length (Nat.sub g.fn.ntmps args.length) = N at hp
   have hst : (FT.ofL args 0 .leaf).is (start args g.fn.ntmps).ts := FT.of_is _ _ fun i => lget_start _ _ i
   have hln : (start args g.fn.ntmps).ts.length = N := by rw [← hN]; simp [start]
   have hs := runF_sim (C := C) (orc := orc) (bt := bt g.num) (rnd := false) fuel (.code g.code) _ _ hst hln [] σ
   cases hr : runF C orc (bt g.num) false N fuel (.code g.code) (FT.ofL args 0 .leaf) [] σ with
   | none => rw [hr] at hp; cases hp
   | some r =>
    rw [hr] at hp
    obtain ⟨r', h1, h2⟩ := hs r hr
    have : run C orc (bt g.num) false fuel (.code g.code) (start args g.fn.ntmps) σ = some r' := h1
    rw [this]
    exact leaveF_is h2 hp
noncomputable def bodyF (C : Cx) (orc : Orc) (bt : Nat → List Nat) (fuel n l : Nat) (body : Code) (t : FT) (ds : List Deferred) (lg : Log) (σ : St) : Option AObj → Option (AE × St × Log)
 | some (.loop L) => match L.state with
  | .ready => match runF C orc bt true n fuel (.code body) t ds (σ.set l (.loop { L with state := .busy, pending := L.pending })) with
   | some ⟨x, _, _, σ₃, lg₃⟩ => match σ₃.get l, jumpOf x with
    | some (.loop L₃), some j => some (.ret (.bool j.isNone), σ₃.set l (.loop { L₃ with state := readyIf j, pending := j }), lg ++ ([l] ++ (lg₃ ++ [l])))
    | _, _ => none
   | none => none
  | _ => none
 | _ => none
noncomputable def roundF1 (C : Cx) (orc : Orc) (bt : Nat → List Nat) (fuel n l : Nat) (ts : List Value) (σ : St) (L : Loop) : Option (AE × St × Log) :=
 match runF C orc bt true n fuel (.code L.assign) (FT.ofL ts 0 .leaf) [] σ with
 | some ⟨.norm, t₁, ds₁, σ₁, lg₁⟩ => bodyF C orc bt fuel n l L.body t₁ ds₁ lg₁ σ₁ (σ₁.get l)
 | _ => none
noncomputable def roundFL (C : Cx) (orc : Orc) (bt : Nat → List Nat) (fuel l : Nat) (args : List Value) (σ : St) (L : Loop) : Option (AE × St × Log) :=
 match Nat.beq args.length L.params.size && statAll bt L.assign && statAll bt L.body with
 | true => roundF1 C orc bt fuel (roundTs L.tmps.toList L.params.toList args).length l (roundTs L.tmps.toList L.params.toList args) σ L
 | false => none
noncomputable def roundF (C : Cx) (orc : Orc) (bt : FuncId → Nat → List Nat) (fuel l : Nat) (args : List Value) (σ : St) : Option (AE × St × Log) :=
 match σ.get l with
 | some (.loop L) => roundFL C orc (bt L.fn) fuel l args σ L
 | _ => none
theorem roundF_is {C : Cx} {orc : Orc} {bt : FuncId → Nat → List Nat} {fuel l : Nat} {args : List Value} {σ : St} {p : AE × St × Log} (hp : roundF C orc bt fuel l args σ = some p) : roundR C orc bt fuel l args σ = some p := by
 unfold roundF at hp
 unfold roundR
 split at hp
 ·rename_i L hg
  rw [hg]
  dsimp only
  unfold roundFL at hp
  unfold roundL
  split at hp
  ·rename_i hc
   rw [hc]
   dsimp only
   generalize hts : roundTs L.tmps.toList L.params.toList args = ts at hp
   unfold roundF1 at hp
   have hs := runF_sim (C := C) (orc := orc) (bt := bt L.fn) (rnd := true) (n := ts.length) fuel (.code L.assign) (FT.ofL ts 0 .leaf) ts (FT.of_is _ _ fun _ => rfl) rfl [] σ
   split at hp
   ·rename_i t₁ ds₁ σ₁ lg₁ hr
    obtain ⟨⟨x', ⟨ts', ds'⟩, σ', lg'⟩, h1, h2, h3, h4, h5, h6, h7⟩ := hs _ hr
    dsimp only at h2 h3 h4 h5 h6 h7
    subst h2 h5 h6 h7
    rw [h1]
    dsimp only
    unfold bodyF at hp
    unfold roundBody
    split at hp
    ·rename_i _ L₁ hg₁
     rw [hg₁]
     dsimp only
     split at hp
     ·rename_i hst
      rw [hst]
      dsimp only
      have hs2 := runF_sim (C := C) (orc := orc) (bt := bt L.fn) (rnd := true) fuel (.code L.body) t₁ ts' h3 h4 ds₁ (σ₁.set l (.loop { L₁ with state := .busy, pending := L₁.pending }))
      split at hp
      ·rename_i x t₃ ds₃ σ₃ lg₃ hr₃
       obtain ⟨⟨x'', ⟨ts'', ds''⟩, σ'', lg''⟩, g1, g2, g3, g4, g5, g6, g7⟩ := hs2 _ hr₃
       dsimp only at g2 g3 g4 g5 g6 g7
       subst g2 g5 g6 g7
       rw [g1]
       exact hp
      ·cases hp
     ·cases hp
    ·cases hp
   ·cases hp
  ·cases hp
 ·cases hp
noncomputable def orcF (C : Cx) (bt : FuncId → Nat → List Nat) (funcs : FuncId → Option (FnRow P bt)) (fuel d : Nat) : Orc :=
 @Nat.rec (fun _ => Orc) ⟨fun _ _ _ => none, fun _ _ _ => none⟩ (fun _ ih => ⟨fun f args σ => callF C ih bt funcs fuel f args σ, fun l args σ => roundF C ih bt fuel l args σ⟩) d
theorem orcF_ok {C : Cx} (hC : C.Ok P) (hm : P.follows .mixedOrders = true) {bt : FuncId → Nat → List Nat} {funcs : FuncId → Option (FnRow P bt)} {fuel : Nat} : ∀ d : Nat, (orcF C bt funcs fuel d).Ok P
 | 0 => ⟨fun _ _ _ _ _ _ h => (by cases h), fun _ _ _ _ _ _ h => (by cases h)⟩
 | d + 1 => ⟨fun _ _ _ _ _ _ h => callR_sound hC (orcF_ok hC hm d) hm (callF_is h), fun _ _ _ _ _ _ h => roundR_sound hC (orcF_ok hC hm d) hm (roundF_is h)⟩
end Go.Ab
namespace Go.Ab
inductive FK where
 | bool
 | int (k : IntKind)
 | str
def FK.ok : FK → Value → Prop
 | .bool, v => ∃ b, v = .bool b
 | .int k, v => ∃ n, v = .int k n ∧ (Lit.int k n).wf = true
 | .str, v => ∃ s : ByteArray, v = .string s ∧ s.size ≤ maxLen
def oks : List FK → List Value → Prop
 | [], [] => True
 | k :: ks, v :: vs => k.ok v ∧ oks ks vs
 | _, _ => False
theorem oks_length : ∀ {ks : List FK} {vs : List Value}, oks ks vs → vs.length = ks.length
 | [], [], _ => rfl
 | _ :: _, _ :: _, h => by simp [oks_length h.2]
 | [], _ :: _, h => h.elim
 | _ :: _, [], h => h.elim
theorem oks_append : ∀ {ks : List FK} {vs : List Value} {ks' : List FK} {vs' : List Value}, oks ks vs → oks ks' vs' → oks (ks ++ ks') (vs ++ vs')
 | [], [], _, _, _, h => h
 | _ :: _, _ :: _, _, _, h, h' => ⟨h.1, oks_append h.2 h'⟩
 | [], _ :: _, _, _, h, _ => h.elim
 | _ :: _, [], _, _, h, _ => h.elim
theorem FK.plain {k : FK} {v : Value} (h : k.ok v) (ρ : Ren) : VR ρ v v := by
 cases k with
 | bool => obtain ⟨b, rfl⟩ := h; exact .bool b
 | int k => obtain ⟨n, rfl, _⟩ := h; exact .int k n
 | str => obtain ⟨s, rfl, _⟩ := h; exact .string s
theorem oks_VRL (ρ : Ren) : ∀ {ks : List FK} {vs : List Value}, oks ks vs → VRL ρ vs vs
 | [], [], _ => .nil
 | _ :: _, _ :: _, h => .cons (FK.plain h.1 ρ) (oks_VRL ρ h.2)
 | [], _ :: _, h => h.elim
 | _ :: _, [], h => h.elim
def flatFs (rc : TypeId → Option (List FK)) (P : Program) : List Field → Nat → Option (List FK)
 | [], _ => some []
 | f :: fs, off =>
  if f.offset = off then
   match rc f.type with
   | some ks => if P.cellsOf f.type = ks.length then (flatFs rc P fs (off + ks.length)).map (ks ++ ·) else none
   | none => none
  else none
def flatK (P : Program) : Nat → TypeId → Option (List FK)
 | 0, _ => none
 | f + 1, t => match P.underlying t with
  | some .bool => some [.bool]
  | some (.int k) => some [.int k]
  | some .string => some [.str]
  | some (.struct fs) => match flatFs (flatK P f) P fs.toList 0 with
   | some ks => if P.cellsOf t = ks.length then some ks else none
   | none => none
  | _ => none
section
variable {H : Type} {enc : TypeId × Value → H} {P : Program} {w : World} {base : Nat} {spare : Nat → Bool} {held : Bool}
theorem flatFs_ok {rc : TypeId → Option (List FK)} {cs : List Value} {n : Nat} (hrc : ∀ t ks cs x, rc t = some ks → DataW.trod enc P w base spare held n t cs = some x → oks ks cs) :
  ∀ (fs : List Field) (off : Nat) (ks : List FK), flatFs rc P fs off = some ks → (∀ f ∈ fs, ∃ x, DataW.trod enc P w base spare held n f.type ((cs.drop f.offset).take (P.cellsOf f.type)) = some x) →
   oks ks ((cs.drop off).take ks.length)
 | [], off, ks, h, _ => by
  simp only [flatFs, Option.some.injEq] at h
  subst h
  simp [oks]
 | f :: fs, off, ks, h, hx => by
  simp only [flatFs] at h
  split at h
  ·rename_i ho
   split at h
   ·rename_i k1 hk
    split at h
    ·rename_i hc
     rw [Option.map_eq_some_iff] at h
     obtain ⟨k2, h2, rfl⟩ := h
     obtain ⟨x, hx1⟩ := hx f (by simp)
     rw [ho, hc] at hx1
     have a := hrc _ _ _ _ hk hx1
     have b := flatFs_ok hrc fs _ _ h2 fun g hg => hx g (by simp [hg])
     have e : (cs.drop off).take (k1 ++ k2).length = (cs.drop off).take k1.length ++ (cs.drop (off + k1.length)).take k2.length := by
      rw [List.length_append, List.take_add, List.drop_drop]
     rw [e]
     exact oks_append a b
    ·cases h
   ·cases h
  ·cases h
theorem flatK_ok : ∀ (m n : Nat) (t : TypeId) (ks : List FK) (cs : List Value) (x : DataW H × List MemPlace), flatK P m t = some ks → DataW.trod enc P w base spare held n t cs = some x → oks ks cs
 | 0, _, _, _, _, _, h, _ => by cases h
 | m + 1, n, t, ks, cs, x, h, hx => by
  simp only [flatK] at h
  split at h
  ·rename_i ht
   cases h
   obtain ⟨b, rfl, _⟩ := DataW.trod_bool ht hx
   exact ⟨⟨b, rfl⟩, trivial⟩
  ·rename_i k ht
   cases h
   obtain ⟨i, rfl, _, hw⟩ := DataW.trod_int ht hx
   exact ⟨⟨i, rfl, hw⟩, trivial⟩
  ·rename_i ht
   cases h
   obtain ⟨s, rfl, _, hw⟩ := DataW.trod_string ht hx
   exact ⟨⟨s, rfl, hw⟩, trivial⟩
  ·rename_i fs ht
   obtain ⟨xs, n', rfl, _, hl, hxl, hf⟩ := DataW.trod_struct ht hx
   split at h
   ·rename_i ks' hk
    split at h
    ·rename_i hc
     cases h
     have := flatFs_ok (cs := cs) (n := n') (fun t ks cs x h1 h2 => flatK_ok m n' t ks cs x h1 h2) fs.toList 0 ks hk fun f hfm => by
      obtain ⟨i, hi⟩ := List.getElem?_of_mem hfm
      rw [Array.getElem?_toList] at hi
      have hil : i < xs.length := by
       rw [hxl]
       exact (Array.getElem?_eq_some_iff.1 hi).1
      exact ⟨_, (hf i f hi).trans (List.getElem?_eq_getElem hil)⟩
     rw [List.drop_zero, ← hc, ← hl, List.take_length] at this
     exact this
    ·cases h
   ·cases h
  ·cases h
theorem open_flats {t e : TypeId} {m : Nat} {ks : List FK} {fuel : Nat} {cs : List Value} {x : DataW H × List MemPlace} (ht : P.underlying t = some (.slice e)) (hk : flatK P m e = some ks) (hc : P.cellsOf e = ks.length)
  (h : DataW.trod enc P w base (fun _ => true) held fuel t cs = some x) :
  cs = [.slice none 0 0] ∨
  ∃ (a : Addr) (len cap : Nat) (es : List (List Value)), cs = [.slice (some a) len cap] ∧ base ≤ a.block ∧ len ≤ cap ∧ cap ≤ maxLen ∧ es.length = cap ∧ (∀ c ∈ es, oks ks c) ∧
   ∀ i c, es[i]? = some c → ∀ j v, c[j]? = some v → w.cell? (a.add (i * ks.length + j)) = some v := by
 rcases DataW.trod_slice ht h with h0 | ⟨a, len, cap, elems, rest, n, _, rfl, rfl, hb, hl, hm, hlen, hel, hsp, hns⟩
 ·exact .inl h0.1
 right
 have each : ∀ i, i < cap → ∃ c, w.cells? base (a.add (i * ks.length)) ks.length = some c ∧ oks ks c := by
  intro i hi
  have hb' : ∃ y, (w.cells? base (a.add (i * P.cellsOf e)) (P.cellsOf e)).bind (DataW.trod enc P w base (fun _ => true) held n e) = some y := by
   by_cases h1 : i < len
   ·exact ⟨_, (hel i h1).trans (List.getElem?_eq_getElem (by omega))⟩
   ·obtain ⟨hrl, hr⟩ := hsp rfl
    have := hr (i - len) (by omega)
    rw [show len + (i - len) = i by omega] at this
    exact ⟨_, this.trans (List.getElem?_eq_getElem (by omega))⟩
  obtain ⟨y, hy⟩ := hb'
  rw [hc, Option.bind_eq_some_iff] at hy
  obtain ⟨c, h1, h2⟩ := hy
  exact ⟨c, h1, flatK_ok _ _ _ _ _ _ hk h2⟩
 let g : Nat → List Value := fun i => (w.cells? base (a.add (i * ks.length)) ks.length).getD []
 have hg : ∀ i, i < cap → w.cells? base (a.add (i * ks.length)) ks.length = some (g i) ∧ oks ks (g i) := fun i hi => by
  obtain ⟨c, h1, h2⟩ := each i hi
  have : g i = c := by simp [g, h1]
  rw [this]; exact ⟨h1, h2⟩
 refine ⟨a, len, cap, (List.range cap).map g, rfl, hb, hl, hm, by simp, fun c hcm => ?_, fun i c hi j v hj => ?_⟩
 ·simp only [List.mem_map, List.mem_range] at hcm
  obtain ⟨i, hi, rfl⟩ := hcm
  exact (hg i hi).2
 ·simp only [List.getElem?_map, Option.map_eq_some_iff] at hi
  obtain ⟨q, hq, rfl⟩ := hi
  have hql := (List.getElem?_eq_some_iff.1 hq).1
  simp only [List.length_range] at hql
  rw [List.getElem?_range hql] at hq
  cases hq
  obtain ⟨_, h2, h3⟩ := World.cells?_some (hg i hql).1
  have hjl := (List.getElem?_eq_some_iff.1 hj).1
  have := h3 j (by omega)
  rw [hj] at this
  rwa [Addr.add_add] at this
end
end Go.Ab
namespace Go.Ab
open Go.RowKit
variable {P : Program}
def ReadOnly (ρ : Ren) (σ : St) (w : World) : Prop := ∀ b l, ρ b = some l → ∃ vs o, σ.get b = some (.cells vs true) ∧ l.fix = some o ∧ w.heap[l.block]? = some o
theorem below_of_aft {ρ ρ' : Ren} {σ σ' : St} {w w' : World} (hw : WR ρ σ w.heap) (hA : Aft ρ σ w ρ' σ' w') (hro : ReadOnly ρ σ w) (hs : ∀ b, b < σ.next → σ'.get b = σ.get b) : Below w.heap.size w w' :=
 ⟨hA.os, hA.tape, hA.out, hA.size, fun k hk => by
  by_cases h : ∃ b l, ρ b = some l ∧ l.block = k
  ·obtain ⟨b, l, hb, rfl⟩ := h
   obtain ⟨vs, o, h1, h2, h3⟩ := hro b l hb
   have hlt := (hw.dom b l hb).1
   obtain ⟨c, e, fz, a1, _, _, a4, _⟩ := hA.wr.obj b l (.cells vs true) (by rw [hA.ext b hlt]; exact hb) (by rw [hs b hlt]; exact h1)
   rw [a1, h3, a4.2 rfl o h2]
  ·exact hA.fr k hk fun b l hb _ he => h ⟨b, l, hb, he⟩⟩
theorem plain_back {ρ : Ren} {v v' : Value} (hp : plain v = true) (h : VR ρ v v') : ∀ ρ₀, VR ρ₀ v v' := fun ρ₀ => by
 have h0 : VR (fun _ => none) v v' := VR.forget (plain_VR (fun _ => none) v hp) h fun b l hb => by cases hb
 exact h0.mono fun b l hb => by cases hb
theorem calls_true {f : FuncId} {args : List Value} {σ σ' : St} {b : Bool} {lg : Log} (h : DCall P f args σ (.ret (.bool b)) σ' lg) {ρ : Ren} {w : World} {args' : Array Value} (hw : WR ρ σ w.heap) (ha : VRL ρ args args'.toList) (hro : ReadOnly ρ σ w) (hlg : ∀ b, b < σ.next → b ∉ lg) :
  Calls P f args' w fun e w' => e = .returned (.bool b) ∧ Below w.heap.size w w' := by
 refine ((h.2 ρ w args' hw ha).mono fun e w' ⟨ρ', he, hA⟩ => ?_).calls fun k d hd => (by simp [fence] at hd)
 refine ⟨?_, below_of_aft hw hA hro fun c hc => h.1.2 c hc (hlg c hc)⟩
 cases e with
 | returned v' =>
  have he' : VR ρ' (.bool b) v' := he
  cases he'
  rfl
 | panicked c => exact False.elim he
 | outgrown => exact False.elim he
theorem row_state {w : World} {x : Addr} {vs : List Value} (hv : ∀ i v, vs[i]? = some v → w.cell? (x.add i) = some v) (hp : ∀ ρ, VRL ρ vs vs) (hne : 0 < vs.length) :
  ∃ ρ : Ren, (∃ l, ρ 0 = some l ∧ l.block = x.block ∧ l.off = x.off) ∧ x.spot = none ∧ WR ρ (St.nil.new (.cells vs true)) w.heap ∧ ReadOnly ρ (St.nil.new (.cells vs true)) w := by
 have h0 := hv 0 vs[0] (by simp [hne])
 have hspot : x.spot = none := World.cell?_spot h0
 have hcell : ∃ c e fz, w.heap[x.block]? = some (.cells c e fz) ∧ ∀ i v, vs[i]? = some v → c[x.off + i]? = some v := by
  have hadd : ∀ i, (x.add i).block = x.block ∧ (x.add i).off = x.off + i ∧ (x.add i).spot = none := fun i => by
   unfold Addr.add
   split
   ·rename_i h; subst h; exact ⟨rfl, rfl, hspot⟩
   ·exact ⟨rfl, rfl, rfl⟩
  unfold World.cell? at hv h0
  simp only [(hadd _).1, (hadd _).2.1, (hadd _).2.2] at hv h0
  cases hb : w.heap[x.block]? with
  | none => rw [hb] at h0; cases h0
  | some o =>
   rw [hb] at h0
   cases o with
   | cells c e fz =>
    refine ⟨c, e, fz, rfl, fun i v hi => ?_⟩
    have := hv i v hi
    rw [hb] at this
    simpa using this
   | _ => cases h0
 obtain ⟨c, e, fz, hb, hc⟩ := hcell
 have hsz : x.off + vs.length ≤ c.size := by
  have := hc (vs.length - 1) vs[vs.length - 1] (by simp [hne])
  have := (Array.getElem?_eq_some_iff.1 this).1
  omega
 let l : Loc := ⟨x.block, x.off, c.size - x.off, some (.cells c e fz)⟩
 let ρ : Ren := fun b => if b = 0 then some l else none
 have hρ : ∀ b k, ρ b = some k → b = 0 ∧ k = l := fun b k h => by
  simp only [ρ] at h
  split at h
  ·cases h; exact ⟨by assumption, rfl⟩
  ·cases h
 have hg : (St.nil.new (.cells vs true)).get 0 = some (.cells vs true) := by rw [St.get_new]; rfl
 refine ⟨ρ, ⟨l, by simp [ρ], rfl, rfl⟩, hspot, ⟨fun b k hk => ?_, fun b k o hk ho => ?_, fun b b' k k' hk hk' _ _ _ _ => ?_, fun b k hk _ _ => ?_⟩, fun b k hk => ?_⟩
 ·obtain ⟨rfl, rfl⟩ := hρ b k hk
  exact ⟨Nat.zero_lt_one, (Array.getElem?_eq_some_iff.1 hb).1⟩
 ·obtain ⟨rfl, rfl⟩ := hρ b k hk
  rw [hg] at ho
  cases ho
  refine ⟨c, e, fz, hb, by simp only [l]; omega, by simp only [l]; omega, ⟨fun h => (by cases h), fun _ o ho => by cases ho; rfl⟩, ?_⟩
  have : (c.toList.drop l.off).take vs.length = vs := by
   apply List.ext_getElem?
   intro i
   rw [List.getElem?_take]
   split
   ·rename_i hi
    rw [List.getElem?_drop, Array.getElem?_toList, hc i vs[i] (by simp [hi])]
    simp [hi]
   ·rename_i hi
    rw [List.getElem?_eq_none (by omega)]
  rw [this]
  exact hp ρ
 ·rw [(hρ b k hk).1, (hρ b' k' hk').1]
 ·obtain ⟨rfl, rfl⟩ := hρ b k hk
  exact ⟨vs, hg⟩
 ·obtain ⟨rfl, rfl⟩ := hρ b k hk
  exact ⟨vs, _, hg, rfl, hb⟩
theorem nil_state (w : World) : WR (fun _ => none) St.nil w.heap ∧ ReadOnly (fun _ => none) St.nil w :=
 ⟨⟨fun b l hl => (by cases hl), fun b l o hl => (by cases hl), fun b b' l l' hl => (by cases hl), fun b l hl => (by cases hl)⟩, fun b l hl => (by cases hl)⟩
def IsRow (ks : List FK) (w : World) (a : Option Addr) (len cap : Nat) (es : List (List Value)) : Prop :=
 (a = none ∧ len = 0 ∧ cap = 0 ∧ es = []) ∨
 ∃ x, a = some x ∧ len ≤ cap ∧ cap ≤ maxLen ∧ es.length = cap ∧ (∀ c ∈ es, oks ks c) ∧ ∀ i c, es[i]? = some c → ∀ j v, c[j]? = some v → w.cell? (x.add (i * ks.length + j)) = some v
theorem flatten_at {α : Type} {k : Nat} : ∀ {es : List (List α)}, (∀ c ∈ es, c.length = k) → ∀ {q : Nat} {v : α}, es.flatten[q]? = some v → ∃ i c j, es[i]? = some c ∧ c[j]? = some v ∧ q = i * k + j
 | [], _, q, v, h => by simp at h
 | c :: es, hk, q, v, h => by
  rw [List.flatten_cons] at h
  have hc := hk c (by simp)
  by_cases hq : q < c.length
  ·rw [List.getElem?_append_left hq] at h
   exact ⟨0, c, q, rfl, h, by omega⟩
  ·rw [List.getElem?_append_right (by omega)] at h
   obtain ⟨i, c', j, h1, h2, h3⟩ := flatten_at (fun c hc => hk c (by simp [hc])) h
   refine ⟨i + 1, c', j, by simpa using h1, h2, ?_⟩
   rw [Nat.add_mul]; omega
theorem flatten_len {α : Type} {k : Nat} : ∀ {es : List (List α)}, (∀ c ∈ es, c.length = k) → es.flatten.length = es.length * k
 | [], _ => by simp
 | c :: es, h => by
  rw [List.flatten_cons, List.length_append, h c (by simp), flatten_len fun c hc => h c (by simp [hc]), List.length_cons, Nat.add_mul]; omega
theorem flatten_take {α : Type} {k : Nat} : ∀ {es : List (List α)}, (∀ c ∈ es, c.length = k) → ∀ {i : Nat} {c : List α}, es[i]? = some c → (es.flatten.drop (i * k)).take k = c ∧ i * k + k ≤ es.flatten.length
 | [], _, i, c, h => by simp at h
 | d :: es, hk, 0, c, h => by
  simp only [List.getElem?_cons_zero, Option.some.injEq] at h
  subst h
  have := hk d (by simp)
  rw [List.flatten_cons, Nat.zero_mul, List.drop_zero, ← this]
  simp
 | d :: es, hk, i + 1, c, h => by
  have hd := hk d (by simp)
  obtain ⟨h1, h2⟩ := flatten_take (es := es) (fun c hc => hk c (List.mem_cons_of_mem _ hc)) (by simpa using h)
  rw [List.flatten_cons, Nat.add_mul, Nat.one_mul, Nat.add_comm, List.length_append, ← hd, List.drop_length_add_append, hd]
  exact ⟨h1, by omega⟩
theorem maxLen_is : maxLen ≤ 9223372036854775807 := by decide
theorem flatten_VRL (ρ : Ren) {ks : List FK} : ∀ {es : List (List Value)}, (∀ c ∈ es, oks ks c) → VRL ρ es.flatten es.flatten
 | [], _ => .nil
 | c :: es, h => by
  rw [List.flatten_cons]
  exact (oks_VRL ρ (h c (by simp))).append (flatten_VRL ρ fun c hc => h c (by simp [hc]))
theorem row_in {ks : List FK} {w : World} {a : Option Addr} {len cap : Nat} {es : List (List Value)} (h : IsRow ks w a len cap es) (hk : 0 < ks.length) :
  ∃ (ρ : Ren) (σ : St) (v : Value), WR ρ σ w.heap ∧ ReadOnly ρ σ w ∧ VR ρ v (.slice a len cap) ∧
   (len = 0 ∧ σ = St.nil ∧ (v = .slice none 0 0 ∨ v = .slice (some ⟨0, 0, some 1⟩) 0 0) ∨ len ≤ es.length ∧ σ = St.nil.new (.cells es.flatten true) ∧ v = .slice (some ⟨0, 0, some 0⟩) len cap) := by
 rcases h with ⟨rfl, rfl, rfl, rfl⟩ | ⟨x, rfl, hl, hm, he, hok, hc⟩
 ·exact ⟨_, _, .slice none 0 0, (nil_state w).1, (nil_state w).2, .sliceNil, .inl ⟨rfl, rfl, .inl rfl⟩⟩
 ·by_cases h0 : cap = 0
  ·subst h0
   obtain rfl : len = 0 := by omega
   exact ⟨_, _, .slice (some ⟨0, 0, some 1⟩) 0 0, (nil_state w).1, (nil_state w).2, .sliceE, .inl ⟨rfl, rfl, .inr rfl⟩⟩
  ·have hlen : ∀ c ∈ es, c.length = ks.length := fun c hcm => oks_length (hok c hcm)
   have hpos : 0 < es.flatten.length := by
    rw [flatten_len hlen, he]
    exact Nat.mul_pos (by omega) hk
   obtain ⟨ρ, ⟨l, h1, h2, h3⟩, h4, h5, h6⟩ := row_state (w := w) (x := x) (vs := es.flatten) (fun i v hi => by
    obtain ⟨q, c, j, a1, a2, rfl⟩ := flatten_at hlen hi
    exact hc q c a1 j v a2) (fun ρ => flatten_VRL ρ hok) hpos
   refine ⟨ρ, _, _, h5, h6, ?_, .inr ⟨by omega, rfl, rfl⟩⟩
   have := VR.sliceX (ρ := ρ) (off := 0) (len := len) (cap := cap) h1
   obtain ⟨xb, xo, xs⟩ := x
   simp only at h2 h3 h4
   subst h2 h3 h4
   exact this
end Go.Ab
noncomputable section
namespace Go.Ab
section eqs
variable {fr : Fr} {dst : Option Tmp} {lg l : Log} {k : OpsK} {v : Value} {σ σ' : St} {c : List PanicEntry} {orc : Orc} {rnd : Bool} {ob : AObj} {rd : List Nat} {f : FuncId} {args ts : List Value} {n : Nat} {d : Deferred}
theorem callK_ret : callK fr dst lg k (some (.ret v, σ', l)) = k (fr.put dst v) σ' (lg ++ l) := rfl
theorem callK_panic : callK fr dst lg k (some (.panic c, σ', l)) = some (.panic c, fr, σ', lg ++ l) := rfl
theorem opsK_val : opsK orc rnd dst fr σ lg k (some (.val v rd)) = k (fr.put dst v) σ lg := rfl
theorem opsK_new : opsK orc rnd dst fr σ lg k (some (.new ob v rd)) = k (fr.put dst v) (σ.new ob) lg := rfl
theorem opsK_eff : opsK orc rnd dst fr σ lg k (some (.eff v σ' l)) = k (fr.put dst v) σ' (lg ++ l) := rfl
theorem opsK_panic : opsK orc rnd dst fr σ lg k (some (.panic v)) = some (.panic [{ v, recovered := false }], fr, σ, lg) := rfl
theorem opsK_enter : opsK orc rnd dst fr σ lg k (some (.enter f args)) = callK fr dst lg k (orc.call f args σ) := rfl
theorem opsK_round : opsK orc rnd dst fr σ lg k (some (.round n args)) = callK fr dst lg k (orc.round n args σ) := rfl
theorem opsK_defer : opsK orc false dst fr σ lg k (some (.defer d)) = k ({ fr with ds := d :: fr.ds }.put dst undef) σ lg := rfl
theorem wantK_true {T : TT} {b : FuncId → Bool} {o : Oper} : wantK T b o ts σ true = stepOp T b o ts σ := rfl
theorem wantK_false {T : TT} {b : FuncId → Bool} {o : Oper} : wantK T b o ts σ false = some (.val undef []) := rfl
theorem consD_some {s : Stp} {r : Dr} : consD s l (some r) = some ⟨s :: r.st, r.ts, r.σ, l ++ r.lg⟩ := rfl
variable {kd : List Value → St → Option Dr}
theorem callD_ret : callD ts σ dst kd (some (.ret v, σ', l)) = consD ⟨ts, σ, v, .full l⟩ l (kd (putL ts dst v) σ') := rfl
theorem drawnK_val : drawnK orc dst ts σ kd (some (.val v rd)) = consD ⟨ts, σ, v, .pure rd⟩ [] (kd (putL ts dst v) σ) := rfl
theorem drawnK_new : drawnK orc dst ts σ kd (some (.new ob v rd)) = consD ⟨ts, σ, v, .alloc ob rd⟩ [] (kd (putL ts dst v) (σ.new ob)) := rfl
theorem drawnK_eff : drawnK orc dst ts σ kd (some (.eff v σ' l)) = consD ⟨ts, σ, v, .full l⟩ l (kd (putL ts dst v) σ') := rfl
theorem drawnK_enter : drawnK orc dst ts σ kd (some (.enter f args)) = callD ts σ dst kd (orc.call f args σ) := rfl
variable {k₁ k₂ : Fr → St → Option RR}
theorem condK_true : condK k₁ k₂ fr σ (some (.bool true)) = k₁ fr σ := rfl
theorem condK_false : condK k₁ k₂ fr σ (some (.bool false)) = k₂ fr σ := rfl
theorem blockK_some {id : Nat} {x : AX} : blockK id (some ⟨x, fr, σ, lg⟩) = some ⟨x.inBlock id, fr, σ, lg⟩ := rfl
theorem preO_some {r : RR} : preO l (some r) = some (r.pre l) := rfl
theorem thenR_norm : thenR (some ⟨.norm, fr, σ, lg⟩) k₁ = preO lg (k₁ fr σ) := rfl
theorem thenR_exit {i : Nat} : thenR (some ⟨.exit i, fr, σ, lg⟩) k₁ = some ⟨.exit i, fr, σ, lg⟩ := rfl
theorem thenR_goto {i : Nat} : thenR (some ⟨.goto i, fr, σ, lg⟩) k₁ = some ⟨.goto i, fr, σ, lg⟩ := rfl
theorem thenR_ret : thenR (some ⟨.ret, fr, σ, lg⟩) k₁ = some ⟨.ret, fr, σ, lg⟩ := rfl
theorem thenR_panic : thenR (some ⟨.panic c, fr, σ, lg⟩) k₁ = some ⟨.panic c, fr, σ, lg⟩ := rfl
variable {kj : Job → Fr → St → Option RR} {b rest : Code}
theorem jumpK_some {i : Nat} : jumpK kj b i fr σ lg (some rest) = preO lg (kj (.scope b rest) fr σ) := rfl
theorem jumpK_none {i : Nat} : jumpK kj b i fr σ lg none = some ⟨.goto i, fr, σ, lg⟩ := rfl
theorem scopeK_goto {i : Nat} : scopeK kj b (some ⟨.goto i, fr, σ, lg⟩) = jumpK kj b i fr σ lg (findLabel b i) := rfl
theorem scopeK_norm : scopeK kj b (some ⟨.norm, fr, σ, lg⟩) = some ⟨.norm, fr, σ, lg⟩ := rfl
theorem scopeK_exit {i : Nat} : scopeK kj b (some ⟨.exit i, fr, σ, lg⟩) = some ⟨.exit i, fr, σ, lg⟩ := rfl
theorem scopeK_ret : scopeK kj b (some ⟨.ret, fr, σ, lg⟩) = some ⟨.ret, fr, σ, lg⟩ := rfl
theorem scopeK_panic : scopeK kj b (some ⟨.panic c, fr, σ, lg⟩) = some ⟨.panic c, fr, σ, lg⟩ := rfl
def regO : Option (AX × Fr × St × Log) → Option RR
 | some (x, fr', σ', lg) => some ⟨x, fr', σ', lg⟩
 | none => none
theorem regO_some {x : AX} : regO (some (x, fr, σ, lg)) = some ⟨x, fr, σ, lg⟩ := rfl
def regD (B : List Nat) (fr : Fr) (k : Option RR) : Option Dr → Option RR
 | some r => if dynOk B r then some ⟨.norm, { fr with ts := r.ts }, r.σ, r.lg⟩ else none
 | none => k
theorem regD_some {B : List Nat} {r : Dr} {k : Option RR} : regD B fr k (some r) = if dynOk B r then some ⟨.norm, { fr with ts := r.ts }, r.σ, r.lg⟩ else none := rfl
theorem regionR_false {C : Cx} {B : List Nat} {ops : Array Oper} : regionR C orc B rnd false ops fr σ = regO (runOps C orc rnd ops.toList ops.toList fr σ []) := by
 unfold regionR regO; rfl
theorem regionR_true {C : Cx} {B : List Nat} {ops : Array Oper} : regionR C orc B rnd true ops fr σ = regD B fr (stopR C orc B ops.toList fr σ ops.toList.reverse) (runDrawn C orc ops.toList ops.toList fr.ts σ) := by
 unfold regionR regD; rfl
variable {C : Cx} {ops rest : List Oper} {o : Oper} {bt : Nat → List Nat} {j : Nat} {a : Code}
theorem runOps_nil : runOps C orc rnd ops [] fr σ lg = some (.norm, fr, σ, lg) := rfl
theorem runOps_cons : runOps C orc rnd ops (o :: rest) fr σ lg = opsK orc rnd o.dst fr σ lg (runOps C orc rnd ops rest) (wantK C.T C.bodies o fr.ts σ (wantedA ops o fr.ts)) := rfl
theorem runDrawn_nil : runDrawn C orc ops [] ts σ = some ⟨[], ts, σ, []⟩ := rfl
theorem runDrawn_cons : runDrawn C orc ops (o :: rest) ts σ = drawnK orc o.dst ts σ (runDrawn C orc ops rest) (wantK C.T C.bodies o ts σ (wantedA ops o ts)) := rfl
theorem run_loop_job : run C orc bt rnd (n + 1) (.loop a) fr σ = thenR (run C orc bt rnd n (.code a) fr σ) (run C orc bt rnd n (.loop a)) := rfl
theorem run_scope_job : run C orc bt rnd (n + 1) (.scope b a) fr σ = scopeK (run C orc bt rnd n) b (run C orc bt rnd n (.code a) fr σ) := rfl
theorem run_skip : run C orc bt rnd (n + 1) (.code .skip) fr σ = some ⟨.norm, fr, σ, []⟩ := rfl
theorem run_label : run C orc bt rnd (n + 1) (.code (.label j)) fr σ = some ⟨.norm, fr, σ, []⟩ := rfl
theorem run_exit : run C orc bt rnd (n + 1) (.code (.exit j)) fr σ = some ⟨.exit j, fr, σ, []⟩ := rfl
theorem run_goto : run C orc bt rnd (n + 1) (.code (.goto j)) fr σ = some ⟨.goto j, fr, σ, []⟩ := rfl
theorem run_ret : run C orc bt rnd (n + 1) (.code .ret) fr σ = some ⟨.ret, fr, σ, []⟩ := rfl
theorem run_seq : run C orc bt rnd (n + 1) (.code (.seq a b)) fr σ = thenR (run C orc bt rnd n (.code a) fr σ) (run C orc bt rnd n (.code b)) := rfl
theorem run_cond {c : Operand} : run C orc bt rnd (n + 1) (.code (.cond c a b)) fr σ = condK (run C orc bt rnd n (.code a)) (run C orc bt rnd n (.code b)) fr σ (ev fr.ts c) := rfl
theorem run_block : run C orc bt rnd (n + 1) (.code (.block j a)) fr σ = blockK j (run C orc bt rnd n (.code a) fr σ) := rfl
theorem run_loop : run C orc bt rnd (n + 1) (.code (.loop a)) fr σ = run C orc bt rnd n (.loop a) fr σ := rfl
theorem run_scope : run C orc bt rnd (n + 1) (.code (.scope a)) fr σ = run C orc bt rnd n (.scope a a) fr σ := rfl
theorem run_region {ops : Array Oper} {draw : Bool} : run C orc bt rnd (n + 1) (.code (.region j ops draw)) fr σ = regionR C orc (bt j) rnd draw ops fr σ := rfl
end eqs
theorem nadd_le (n k : Nat) : (n + (k + 1) ≤ n) = False := eq_false (by omega)
theorem nadd_lt (n k : Nat) : (n + k < n) = False := eq_false (by omega)
theorem nle_add (n k : Nat) : (n ≤ n + k) = True := eq_true (by omega)
theorem nlt_add (n k : Nat) : (n < n + (k + 1)) = True := eq_true (by omega)
theorem nadd_eq (n k : Nat) : (n + (k + 1) = n) = False := eq_false (by omega)
theorem neq_add (n k : Nat) : (n = n + (k + 1)) = False := eq_false (by omega)
def pureK (σ : St) : Option Value → Option (AE × St × Log)
 | some v => some (.ret v, σ, [])
 | none => none
theorem pureK_some {σ : St} {v : Value} : pureK σ (some v) = some (.ret v, σ, []) := rfl
def pureO (p : FuncId → List Value → Option Value) : Orc := ⟨fun f args σ => pureK σ (p f args), fun _ _ _ => none⟩
theorem pureO_call {p : FuncId → List Value → Option Value} {f : FuncId} {args : List Value} {σ : St} : (pureO p).call f args σ = pureK σ (p f args) := rfl
theorem pureO_ok {P : Program} {p : FuncId → List Value → Option Value} (h : ∀ f args v, p f args = some v → ∀ σ, DCall P f args σ (.ret v) σ []) : (pureO p).Ok P where
 call := fun f args σ e σ' lg hc => by
  simp only [pureO] at hc
  unfold pureK at hc
  split at hc
  ·rename_i v hv; cases hc; exact h f args v hv σ
  ·cases hc
 round := fun l args σ e σ' lg hc => by simp [pureO] at hc
def hasBody (P : Program) (g : FuncId) : Bool :=
 match P.funcs[g]? with
 | some fn => fn.body.isSome && !(fn.name == "runtime.NumGoroutine")
 | none => false
theorem hasBody_spec {P : Program} {g : FuncId} (h : hasBody P g = true) : HasBody P g := by
 unfold hasBody at h
 split at h
 ·rename_i fn hf
  rw [Bool.and_eq_true] at h
  exact ⟨fn, hf, h.1, by simpa using h.2⟩
 ·cases h
def cx (P : Program) (fl : TypeId → Option (List CK)) : Cx := { T := { info := fun t => P.info? t, flat := fl }, bodies := hasBody P }
variable {P : Program} {fl : TypeId → Option (List CK)}
theorem cx_ok (h : ∀ t sh, fl t = some sh → FlatEq P t sh) : (cx P fl).Ok P := ⟨⟨fun _ _ h => h, h, fun _ _ h => by cases h⟩, fun _ h => hasBody_spec h⟩
theorem cx_info (t : TypeId) : (cx P fl).T.info t = P.info? t := rfl
theorem cx_flat (t : TypeId) : (cx P fl).T.flat t = fl t := rfl
theorem cx_und (t : TypeId) : (cx P fl).T.und t = P.underlying t := by
 unfold TT.und Program.underlying
 rw [cx_info]
 cases P.info? t with
 | none => rfl
 | some i =>
  obtain ⟨desc, str, size, bytes, hp, al, fal, zero, comp, meth⟩ := i
  cases desc <;> rfl
theorem cx_bodies {g : FuncId} {fn : Func} (h : P.funcs[g]? = some fn) (hb : (fn.body.isSome && !(fn.name == "runtime.NumGoroutine")) = true) : (cx P fl).bodies g = true := by
 show hasBody P g = true
 unfold hasBody
 rw [h]
 exact hb
theorem call_of_run (hC : (cx P fl).Ok P) (hm : P.follows .mixedOrders = true) {f : FuncId} {fn : Func} {c : Code} {args : List Value} {σ : St} {orc : Orc} (hO : orc.Ok P) (hf : P.funcs[f]? = some fn) (hb : fn.body = some c) (n : Nat) (bt : Nat → List Nat) (hs : statAll bt c = true) {r : RR} {e : AE}
  (h : run (cx P fl) orc bt false n (.code c) (start args fn.ntmps) σ = some r) (he : endsA (cx P fl).T fn.results.toList r = some e) : DCall P f args σ e r.σ r.lg :=
 DCall.of_code hC.T ⟨hf, hb⟩ (run_sound hC hO hm n (.code c) _ _ _ hs h) he
end Go.Ab
noncomputable section
namespace Go.Ab
variable {P : Program}
def shapeFields (P : Program) (S : TypeId → Option (List CK)) : List Field → Nat → Option (List CK)
 | [], _ => some []
 | f :: fs, off =>
  if f.name == "_" || f.offset != off then none else
  match S f.type, P.info? f.type with
  | some sh, some i => if i.size = sh.length then (match shapeFields P S fs (off + sh.length) with | some r => some (sh ++ r) | none => none) else none
  | _, _ => none
def repShape (sh : List CK) : Nat → List CK
 | 0 => []
 | n + 1 => sh ++ repShape sh n
def shapeOf (P : Program) : Nat → TypeId → Option (List CK)
 | 0, _ => none
 | n + 1, t => match P.underlying t with
  | some (.int _) => some [.int]
  | some .bool => some [.bool]
  | some .string => some [.string]
  | some (.struct fs) => if P.stoodInHeld t then none else shapeFields P (shapeOf P n) fs.toList 0
  | some (.array len e) => match shapeOf P n e, P.info? e with
   | some sh, some i => if i.size = sh.length then some (repShape sh len) else none
   | _, _ => none
  | _ => none
theorem eqCells_append : ∀ {s₁ s₂ : List CK} {X Y : List Value} {r : Bool}, eqCells (s₁ ++ s₂) X Y = some r →
  (eqCells s₁ (X.take s₁.length) (Y.take s₁.length) = some false ∧ r = false) ∨
  (eqCells s₁ (X.take s₁.length) (Y.take s₁.length) = some true ∧ eqCells s₂ (X.drop s₁.length) (Y.drop s₁.length) = some r)
 | [], s₂, X, Y, r, h => .inr ⟨by simp [eqCells], by simpa using h⟩
 | k :: s₁, s₂, X, Y, r, h => by
  cases X with
  | nil => cases k <;> simp [eqCells] at h
  | cons x X =>
   cases Y with
   | nil => cases k <;> cases x <;> simp [eqCells] at h
   | cons y Y =>
    simp only [List.length_cons, List.take_succ_cons, List.drop_succ_cons, List.cons_append] at h ⊢
    cases k <;> cases x <;> cases y <;> simp only [eqCells] at h ⊢ <;> try (cases h; done)
    ·split at h
     ·rename_i hk
      rw [if_pos hk]
      split at h
      ·rename_i he; rw [if_pos he]; exact eqCells_append h
      ·rename_i he; rw [if_neg he]; cases h; exact .inl ⟨rfl, rfl⟩
     ·cases h
    ·split at h
     ·rename_i he; rw [if_pos he]; exact eqCells_append h
     ·rename_i he; rw [if_neg he]; cases h; exact .inl ⟨rfl, rfl⟩
    ·split at h
     ·rename_i he; rw [if_pos he]; exact eqCells_append h
     ·rename_i he; rw [if_neg he]; cases h; exact .inl ⟨rfl, rfl⟩
theorem inShape_append : ∀ {s₁ s₂ : List CK} {X : List Value}, inShape (s₁ ++ s₂) X = true → inShape s₁ (X.take s₁.length) = true ∧ inShape s₂ (X.drop s₁.length) = true
 | [], s₂, X, h => ⟨by simp [inShape], by simpa using h⟩
 | k :: s₁, s₂, X, h => by
  cases X with
  | nil => cases k <;> simp [inShape] at h
  | cons x X =>
   simp only [List.length_cons, List.take_succ_cons, List.drop_succ_cons, List.cons_append] at h ⊢
   cases k <;> cases x <;> simp only [inShape] at h ⊢ <;> first | (cases h; done) | exact inShape_append h
def CellsOf (P : Program) (t : TypeId) (v : Value) (xs : List Value) : Prop :=
 ∃ d, P.underlying t = some d ∧ ((isAggD d = true ∧ v = .agg ⟨xs⟩) ∨ (isAggD d = false ∧ xs = [v]))
theorem run_part {t : TypeId} {i : TypeInfo} {sh : List CK} {n : Nat} (hs : shapeOf P n t = some sh) (hi : P.info? t = some i) (hsz : i.size = sh.length) (cs : List Value) (off : Nat) (w : World)
  (hne : isAggD ((P.underlying t).getD default) = false → (cs.drop off).take sh.length ≠ []) :
  ∃ v, (part t ⟨cs⟩ off).run P w = .ok v w ∧ CellsOf P t v ((cs.drop off).take sh.length) := by
 cases n with
 | zero => cases hs
 | succ n =>
  simp only [shapeOf] at hs
  cases hu : P.underlying t with
  | none => rw [hu] at hs; cases hs
  | some d =>
   rw [hu] at hs hne
   unfold part
   cases ha : isAggD d with
   | true =>
    refine ⟨.agg ⟨(cs.drop off).take sh.length⟩, ?_, d, hu, .inl ⟨ha, rfl⟩⟩
    simp only [Sem.run_bind, run_isAgg hu, ha, Result.andThen_ok, if_true, run_sizeOf hi, hsz]
    simp [List.extract_eq_take_drop, List.take_drop]
   | false =>
    have h1 : sh.length = 1 := by
     cases d <;> simp [isAggD] at ha <;> simp at hs <;> (try (cases hs; rfl))
    have h2 := hne (by simpa using ha)
    rw [h1] at h2 ⊢
    cases hx : cs[off]? with
    | none =>
     rw [List.drop_eq_nil_of_le (by simpa using hx)] at h2
     simp at h2
    | some v =>
     have e : (cs.drop off).take 1 = [v] := by
      obtain ⟨hlt, hv⟩ := List.getElem?_eq_some_iff.1 hx
      rw [List.drop_eq_getElem_cons hlt, hv]; rfl
     refine ⟨v, ?_, d, hu, .inr ⟨ha, e⟩⟩
     simp [run_isAgg hu, ha, hx]
def EqT (P : Program) (d : Nat) (t : TypeId) (sh : List CK) : Prop :=
 ∀ (u v : Value) (xs ys : List Value) (r : Bool) (w : World), CellsOf P t u xs → CellsOf P t v ys → eqCells sh xs ys = some r → (Op.equalIn d t u v).run P w = .ok r w
theorem ne_nil_of_eqCells {sh : List CK} {xs ys : List Value} {r : Bool} (h : eqCells sh xs ys = some r) (hs : sh ≠ []) : xs ≠ [] ∧ ys ≠ [] := by
 cases sh with
 | nil => exact absurd rfl hs
 | cons k sh =>
  cases xs with
  | nil => cases k <;> simp [eqCells] at h
  | cons x xs => cases ys with
   | nil => cases k <;> cases x <;> simp [eqCells] at h
   | cons y ys => exact ⟨by simp, by simp⟩
theorem shape_ne {n : Nat} {t : TypeId} {sh : List CK} (hs : shapeOf P n t = some sh) (ha : isAggD ((P.underlying t).getD default) = false) : sh ≠ [] := by
 cases n with
 | zero => cases hs
 | succ n =>
  simp only [shapeOf] at hs
  cases hu : P.underlying t with
  | none => rw [hu] at hs; cases hs
  | some d =>
   rw [hu] at hs ha
   cases d <;> simp [isAggD] at ha <;> simp at hs <;> (try (cases hs; simp))
theorem fields_eq {n d : Nat} (ih : ∀ t sh, shapeOf P n t = some sh → EqT P d t sh) {xs ys : List Value} : ∀ (fs : List Field) (off : Nat) (sh : List CK) (r : Bool) (w : World), shapeFields P (shapeOf P n) fs off = some sh → eqCells sh (xs.drop off) (ys.drop off) = some r →
  (Op.eqFields d ⟨xs⟩ ⟨ys⟩ fs).run P w = .ok r w
 | [], off, sh, r, w, hs, h => by
  simp only [shapeFields, Option.some.injEq] at hs
  subst hs
  have : r = true := by
   cases hx : xs.drop off <;> cases hy : ys.drop off <;> rw [hx, hy] at h <;> simp [eqCells] at h
   first | exact h | exact h.symm
  subst this
  simp [Op.eqFields]
 | f :: fs, off, sh, r, w, hs, h => by
  simp only [shapeFields] at hs
  split at hs
  ·cases hs
  ·rename_i hf
   simp only [Bool.or_eq_true, not_or, bne_iff_ne, ne_eq, Decidable.not_not, beq_iff_eq] at hf
   obtain ⟨hn, ho⟩ := hf
   split at hs
   ·rename_i sh₁ i h1 hi
    split at hs
    ·rename_i hsz
     split at hs
     ·rename_i sh₂ h2
      cases hs
      have ap := eqCells_append h
      have ne : isAggD ((P.underlying f.type).getD default) = false → (xs.drop off).take sh₁.length ≠ [] ∧ (ys.drop off).take sh₁.length ≠ [] := fun ha => by
       have hne := shape_ne h1 ha
       rcases ap with ⟨a, _⟩ | ⟨a, _⟩ <;> exact ne_nil_of_eqCells a hne
      obtain ⟨u, hu1, hu2⟩ := run_part h1 hi hsz xs off w fun ha => (ne ha).1
      obtain ⟨v, hv1, hv2⟩ := run_part h1 hi hsz ys off w fun ha => (ne ha).2
      simp only [Op.eqFields, ne_eq, hn, not_false_eq_true, if_true, Sem.run_bind, ho, hu1, hv1, Result.andThen_ok]
      rcases ap with ⟨a, rfl⟩ | ⟨a, b⟩
      ·rw [ih _ _ h1 u v _ _ _ w hu2 hv2 a]
       simp
      ·rw [ih _ _ h1 u v _ _ _ w hu2 hv2 a]
       simp only [Result.andThen_ok, Bool.not_true, Bool.false_eq_true, if_false]
       refine fields_eq ih fs _ _ r w h2 ?_
       rw [← List.drop_drop, ← List.drop_drop]; exact b
     ·cases hs
    ·cases hs
   ·cases hs
theorem loop_eq {n d : Nat} {e : TypeId} {i : TypeInfo} {sh : List CK} (h1 : shapeOf P n e = some sh) (hi : P.info? e = some i) (hsz : i.size = sh.length) (ih : EqT P d e sh) {xs ys : List Value} : ∀ (m k : Nat) (r : Bool) (w : World), eqCells (repShape sh m) (xs.drop (k * sh.length)) (ys.drop (k * sh.length)) = some r →
  (forIn (List.range' k m) ((none, ()) : Option Bool × Unit) fun i _ => do
   let a ← part e ⟨xs⟩ (i * sh.length)
   let b ← part e ⟨ys⟩ (i * sh.length)
   let c ← Op.equalIn d e a b
   if (!c) = true then pure (ForInStep.done (some false, ())) else pure (ForInStep.yield (none, ()))).run P w = .ok ((if r then none else some false), ()) w
 | 0, k, r, w, h => by
  have : r = true := by
   simp only [repShape] at h
   cases hx : xs.drop (k * sh.length) <;> cases hy : ys.drop (k * sh.length) <;> rw [hx, hy] at h <;> simp [eqCells] at h
   first | exact h | exact h.symm
  subst this
  simp
 | m + 1, k, r, w, h => by
  simp only [repShape] at h
  have ap := eqCells_append h
  have ne : isAggD ((P.underlying e).getD default) = false → (xs.drop (k * sh.length)).take sh.length ≠ [] ∧ (ys.drop (k * sh.length)).take sh.length ≠ [] := fun ha => by
   have hne := shape_ne h1 ha
   rcases ap with ⟨a, _⟩ | ⟨a, _⟩ <;> exact ne_nil_of_eqCells a hne
  obtain ⟨u, hu1, hu2⟩ := run_part h1 hi hsz xs (k * sh.length) w fun ha => (ne ha).1
  obtain ⟨v, hv1, hv2⟩ := run_part h1 hi hsz ys (k * sh.length) w fun ha => (ne ha).2
  rw [List.range'_succ, List.forIn_cons]
  simp only [Sem.run_bind, hu1, hv1, Result.andThen_ok]
  rcases ap with ⟨a, rfl⟩ | ⟨a, b⟩
  ·rw [ih u v _ _ _ w hu2 hv2 a]
   simp
  ·rw [ih u v _ _ _ w hu2 hv2 a]
   simp only [Result.andThen_ok, Bool.not_true, Bool.false_eq_true, if_false, Sem.run_pure]
   refine loop_eq h1 hi hsz ih m (k + 1) r w ?_
   rw [Nat.add_mul, Nat.one_mul, ← List.drop_drop, ← List.drop_drop]; exact b
theorem eq_shape : ∀ (n d : Nat) (t : TypeId) (sh : List CK), n ≤ d → shapeOf P n t = some sh → EqT P d t sh := by
 intro n
 induction n with
 | zero => intro d t sh _ h; cases h
 | succ n ih =>
  intro d t sh hd hs u v xs ys r w hu hv he
  obtain ⟨d, rfl⟩ : ∃ k, d = k + 1 := ⟨d - 1, by omega⟩
  have hs0 := hs
  simp only [shapeOf] at hs
  obtain ⟨td, hut, hu⟩ := hu
  obtain ⟨td', hvt, hv⟩ := hv
  rw [hut] at hvt; cases hvt
  rw [hut] at hs
  have scalar : ∀ k, sh = [k] → isAggD td = false → xs = [u] ∧ ys = [v] := fun k _ ha => by
   rcases hu with ⟨h, _⟩ | ⟨_, h⟩
   ·rw [ha] at h; cases h
   ·rcases hv with ⟨h', _⟩ | ⟨_, h'⟩
    ·rw [ha] at h'; cases h'
    ·exact ⟨h, h'⟩
  have aggr : isAggD td = true → u = .agg ⟨xs⟩ ∧ v = .agg ⟨ys⟩ := fun ha => by
   rcases hu with ⟨_, h⟩ | ⟨h, _⟩
   ·rcases hv with ⟨_, h'⟩ | ⟨h', _⟩
    ·exact ⟨h, h'⟩
    ·rw [ha] at h'; cases h'
   ·rw [ha] at h; cases h
  cases td with
  | int k =>
   simp only [Option.some.injEq] at hs; subst hs
   obtain ⟨rfl, rfl⟩ := scalar _ rfl rfl
   cases u <;> cases v <;> simp only [eqCells] at he <;> try (cases he; done)
   split at he
   ·rename_i hk; subst hk
    rw [run_equalIn_int w d t _ _ _ _ hut]
    split at he
    ·rename_i h; rw [h]; cases he; rfl
    ·rename_i h; simp only [Bool.not_eq_true] at h; rw [h]; cases he; rfl
   ·cases he
  | bool =>
   simp only [Option.some.injEq] at hs; subst hs
   obtain ⟨rfl, rfl⟩ := scalar _ rfl rfl
   cases u <;> cases v <;> simp only [eqCells] at he <;> try (cases he; done)
   rw [run_equalIn_bool' w d t _ _ hut]
   split at he
   ·rename_i h; rw [h]; cases he; rfl
   ·rename_i h; simp only [Bool.not_eq_true] at h; rw [h]; cases he; rfl
  | string =>
   simp only [Option.some.injEq] at hs; subst hs
   obtain ⟨rfl, rfl⟩ := scalar _ rfl rfl
   cases u <;> cases v <;> simp only [eqCells] at he <;> try (cases he; done)
   rw [run_equalIn_string w d t _ _ hut]
   split at he
   ·rename_i h; rw [h]; cases he; rfl
   ·rename_i h; simp only [Bool.not_eq_true] at h; rw [h]; cases he; rfl
  | struct fs =>
   simp only at hs
   split at hs
   ·cases hs
   ·rename_i hp
    obtain ⟨rfl, rfl⟩ := aggr rfl
    have hf : P.fieldsOf t = fs := by unfold Program.fieldsOf; rw [hut]
    rw [run_equalIn_struct w d t _ _ (by rw [hf]; exact hut) (by simpa using hp), hf]
    exact fields_eq (fun t sh h => ih d t sh (by omega) h) fs.toList 0 sh r w hs (by simpa using he)
  | array len e =>
   simp only at hs
   split at hs
   ·rename_i sh₁ i h1 hi
    split at hs
    ·rename_i hsz
     cases hs
     obtain ⟨rfl, rfl⟩ := aggr rfl
     simp only [Op.equalIn, Sem.run_bind, run_underlying hut, Result.andThen_ok, run_sizeOf hi, hsz]
     rw [Std.Legacy.Range.forIn_eq_forIn_range']
     have := loop_eq h1 hi hsz (ih d e sh₁ (by omega) h1) (xs := xs) (ys := ys) len 0 r w (by simpa using he)
     have hr : (Std.Legacy.Range.size [:len]) = len := by simp [Std.Legacy.Range.size]
     rw [hr]
     simp only at this ⊢
     rw [this]
     cases r <;> simp
    ·cases hs
   ·cases hs
  | _ => simp at hs
def KeyT (P : Program) (emp : Bool) (d : Nat) (t : TypeId) (sh : List CK) : Prop :=
 ∀ (u : Value) (xs : List Value) (w : World), CellsOf P t u xs → inShape sh xs = true → (Instr.checkKey emp d t u).run P w = .ok () w
theorem ne_nil_of_inShape {sh : List CK} {xs : List Value} (h : inShape sh xs = true) (hs : sh ≠ []) : xs ≠ [] := by
 cases sh with
 | nil => exact absurd rfl hs
 | cons k sh => cases xs with
  | nil => cases k <;> simp [inShape] at h
  | cons x xs => simp
theorem fields_key {emp : Bool} {n d : Nat} (ih : ∀ t sh, shapeOf P n t = some sh → KeyT P emp d t sh) {xs : List Value} : ∀ (fs : List Field) (off : Nat) (sh : List CK) (w : World), shapeFields P (shapeOf P n) fs off = some sh → inShape sh (xs.drop off) = true →
  (forIn fs () fun (f : Field) _ => if f.name ≠ "_" then do
    let a ← part f.type ⟨xs⟩ f.offset
    Instr.checkKey emp d f.type a
    pure (ForInStep.yield ())
   else pure (ForInStep.yield ())).run P w = .ok () w
 | [], off, sh, w, hs, h => by simp
 | f :: fs, off, sh, w, hs, h => by
  simp only [shapeFields] at hs
  split at hs
  ·cases hs
  ·rename_i hf
   simp only [Bool.or_eq_true, not_or, bne_iff_ne, ne_eq, Decidable.not_not, beq_iff_eq] at hf
   obtain ⟨hn, ho⟩ := hf
   split at hs
   ·rename_i sh₁ i h1 hi
    split at hs
    ·rename_i hsz
     split at hs
     ·rename_i sh₂ h2
      cases hs
      have ap := inShape_append h
      obtain ⟨u, hu1, hu2⟩ := run_part h1 hi hsz xs off w fun ha => ne_nil_of_inShape ap.1 (shape_ne h1 ha)
      rw [List.forIn_cons]
      simp only [ne_eq, hn, not_false_eq_true, if_true, Sem.run_bind, ho, hu1, Result.andThen_ok, ih _ _ h1 u _ w hu2 ap.1, Sem.run_pure]
      refine fields_key ih fs _ _ w h2 ?_
      rw [← List.drop_drop]; exact ap.2
     ·cases hs
    ·cases hs
   ·cases hs
theorem loop_key {emp : Bool} {n d : Nat} {e : TypeId} {i : TypeInfo} {sh : List CK} (h1 : shapeOf P n e = some sh) (hi : P.info? e = some i) (hsz : i.size = sh.length) (ih : KeyT P emp d e sh) {xs : List Value} : ∀ (m k : Nat) (w : World), inShape (repShape sh m) (xs.drop (k * sh.length)) = true →
  (forIn (List.range' k m) () fun i _ => do
   let n ← sizeOf e
   let a ← part e ⟨xs⟩ (i * n)
   Instr.checkKey emp d e a
   pure (ForInStep.yield ())).run P w = .ok () w
 | 0, k, w, h => by simp
 | m + 1, k, w, h => by
  simp only [repShape] at h
  have ap := inShape_append h
  obtain ⟨u, hu1, hu2⟩ := run_part h1 hi hsz xs (k * sh.length) w fun ha => ne_nil_of_inShape ap.1 (shape_ne h1 ha)
  rw [List.range'_succ, List.forIn_cons]
  simp only [Sem.run_bind, run_sizeOf hi, hsz, hu1, Result.andThen_ok, ih u _ w hu2 ap.1, Sem.run_pure]
  refine loop_key h1 hi hsz ih m (k + 1) w ?_
  rw [Nat.add_mul, Nat.one_mul, ← List.drop_drop]; exact ap.2
theorem key_shape {emp : Bool} : ∀ (n d : Nat) (t : TypeId) (sh : List CK), n ≤ d → shapeOf P n t = some sh → KeyT P emp d t sh := by
 intro n
 induction n with
 | zero => intro d t sh _ h; cases h
 | succ n ih =>
  intro d t sh hd hs u xs w hu he
  obtain ⟨d, rfl⟩ : ∃ k, d = k + 1 := ⟨d - 1, by omega⟩
  simp only [shapeOf] at hs
  obtain ⟨td, hut, hu⟩ := hu
  rw [hut] at hs
  have aggr : isAggD td = true → u = .agg ⟨xs⟩ := fun ha => by
   rcases hu with ⟨_, h⟩ | ⟨h, _⟩
   ·exact h
   ·rw [ha] at h; cases h
  cases td with
  | int k => simp [Instr.checkKey, run_underlying hut]
  | bool => simp [Instr.checkKey, run_underlying hut]
  | string => simp [Instr.checkKey, run_underlying hut]
  | struct fs =>
   simp only at hs
   split at hs
   ·cases hs
   ·obtain rfl := aggr rfl
    simp only [Instr.checkKey, Sem.run_bind, run_underlying hut, Result.andThen_ok]
    rw [← Array.forIn_toList]
    have := fields_key (fun t sh h => ih d t sh (by omega) h) fs.toList 0 sh w hs (emp := emp) (xs := xs) (by simpa using he)
    exact (congrArg (fun r : Result Unit => r.andThen fun _ w' => Sem.run P (pure ()) w') this).trans rfl
  | array len e =>
   simp only at hs
   split at hs
   ·rename_i sh₁ i h1 hi
    split at hs
    ·rename_i hsz
     cases hs
     obtain rfl := aggr rfl
     simp only [Instr.checkKey, Sem.run_bind, run_underlying hut, Result.andThen_ok]
     rw [Std.Legacy.Range.forIn_eq_forIn_range']
     have := loop_key h1 hi hsz (ih d e sh₁ (by omega) h1) (emp := emp) (xs := xs) len 0 w (by simpa using he)
     have hr : (Std.Legacy.Range.size [:len]) = len := by simp [Std.Legacy.Range.size]
     rw [hr]
     exact (congrArg (fun r : Result Unit => r.andThen fun _ w' => Sem.run P (pure ()) w') this).trans rfl
    ·cases hs
   ·cases hs
  | _ => simp at hs
def flats (P : Program) (t : TypeId) : Option (List CK) :=
 match P.underlying t with
 | some d => if isAggB d && !P.eqGuardType P.depth t then shapeOf P 50 t else none
 | none => none
theorem flats_ok (t : TypeId) (sh : List CK) (h : flats P t = some sh) : FlatEq P t sh := by
  unfold flats at h
  split at h
  · rename_i d hd
    split at h
    · rename_i hc
      simp only [Bool.and_eq_true, Bool.not_eq_true'] at hc
      have hag : isAggD d = true := by cases d <;> simp [isAggB] at hc <;> rfl
      exact { guard := hc.2
              eq := fun xs ys r w he => eq_shape 50 Op.maxDepth t sh (by decide) h _ _ xs ys r w ⟨d, hd, .inl ⟨hag, rfl⟩⟩ ⟨d, hd, .inl ⟨hag, rfl⟩⟩ he
              key := fun e xs w hs => key_shape 50 10000 t sh (by decide) h _ xs w ⟨d, hd, .inl ⟨hag, rfl⟩⟩ hs
              desc := ⟨d, hd, hc.1⟩ }
    · cases h
  · cases h
abbrev cP (P : Program) : Cx := cx P (flats P)
theorem cP_ok : (cP P).Ok P := cx_ok flats_ok
end Go.Ab
