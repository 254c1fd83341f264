/- One operation, whatever it is. -/
import Derived.Test.YtlipmhhndhhgdaaGreatFh
set_option linter.unusedSimpArgs false
set_option linter.unusedVariables false
namespace Go.Ab

variable {P : Program} {T : TT}

def isMapD : TypeDesc → Bool
  | .map _ _ => true
  | _ => false

def stepBuiltin (T : TT) (o : Oper) (b : Builtin) (xs : List Operand) (tys : List TypeId) (ts : List Value) (σ : St) : Option ORes :=
  match b, xs, tys with
  | .len, [x], [t] => match ev ts x with | some v => opLen T σ t v | none => none
  | .cap, [x], [t] => match ev ts x with | some v => opCap T t v | none => none
  | .append, [x, y], [t, t'] => match ev ts x, ev ts y with | some u, some v => opAppend T σ t t' u v | _, _ => none
  | .copy, [x, y], [t, _] => match ev ts x, ev ts y with | some u, some v => opCopy T σ t u v | _, _ => none
  | .delete, [x, y], [t, _] => match ev ts x, ev ts y with | some u, some v => opDelete T σ t u v | _, _ => none
  | .max, [x, y], _ => match ev ts x, ev ts y with | some u, some v => opMax u v | _, _ => none
  | .min, [x, y], _ => match ev ts x, ev ts y with | some u, some v => opMin u v | _, _ => none
  | .recover, [], _ => some .recover
  | _, _, _ => none

def stepOp (T : TT) (bodies : FuncId → Bool) (o : Oper) (ts : List Value) (σ : St) : Option ORes :=
  match o.op with
  | .move x | .assign x => match ev ts x with | some v => some (.val v []) | none => none
  | .pick c x y => match ev ts c, ev ts x, ev ts y with | some cv, some u, some v => opPick cv u v | _, _, _ => none
  | .alloc t => opAlloc T σ t
  | .box _ x => match ev ts x with | some v => opBox σ v | none => none
  | .build t ps => match partsA ts ps.toList with | some ps => opBuild T t ps | none => none
  | .buildSlice t n ps => match partsA ts ps.toList with | some ps => opBuildSlice T σ t n ps | none => none
  | .load t x => match ev ts x with | some v => opLoad T σ t v | none => none
  | .store t x y => match ev ts x, ev ts y with | some u, some v => opStore T σ t u v | _, _ => none
  | .nilCheck x => match ev ts x with | some v => opNilCheck v | none => none
  | .binOp op t x y _ => match ev ts x, ev ts y with | some u, some v => opBin T op t u v | _, _ => none
  | .unOp op _ x => match ev ts x with | some v => opUn op v | none => none
  | .convert s d x => match ev ts x with | some v => opConvert T s d v | none => none
  | .makeInterface t x => match ev ts x with | some v => opMakeIface T t v | none => none
  | .makeFunc fn xs ys => match evs ts xs.toList, evs ts ys.toList with | some us, some vs => opMakeFunc fn us vs | _, _ => none
  | .makeMap t r => match T.und t, evo ts r with | some d, some v => if isMapD d then opMakeMap σ v else none | _, _ => none
  | .makeSlice t x y => match ev ts x, ev ts y with | some u, some v => opMakeSlice T σ t u v | _, _ => none
  | .slice t x lo hi mx => match ev ts x, evo ts lo, evo ts hi, evo ts mx with | some v, some l, some h, some m => opSlice T t v l h m | _, _, _, _ => none
  | .fieldAddr t x k => match ev ts x with | some v => opFieldAddr T t k v | none => none
  | .field t x k => match ev ts x with | some v => opField T t k v | none => none
  | .indexAddr t x y => match ev ts x, ev ts y with | some u, some v => opIndexAddr T t u v | _, _ => none
  | .index t x y => match ev ts x, ev ts y with | some u, some v => opIndex T t u v | _, _ => none
  | .lookup t x y ok => match ev ts x, ev ts y with | some u, some v => opLookup T σ t ok u v | _, _ => none
  | .mapUpdate t x y z | .insert t x y z => match ev ts x, ev ts y, ev ts z with | some m, some k, some v => opMapUpdate T σ t m k v | _, _, _ => none
  | .typeAssert x _ u ok => match ev ts x with | some v => opTypeAssert T u ok v | none => none
  | .extract x k => match ev ts x with | some v => opExtract k v | none => none
  | .call c => match c.callee with
    | .builtin b => stepBuiltin T o b c.args.toList c.argTypes.toList ts σ
    | .value f => match ev ts f, evs ts c.args.toList with | some fv, some vs => opCall T bodies σ fv vs | _, _ => none
    | .invoke _ _ => none
  | .defer c => match c.callee with
    | .value f => match ev ts f, evs ts c.args.toList with | some fv, some vs => opDefer bodies fv vs | _, _ => none
    | _ => none
  | .panic x => match ev ts x with | some v => opPanic v | none => none
  | _ => none

theorem stepBuiltin_sound (hT : T.Ok P) {o : Oper} {b : Builtin} {c : Call} {ts : List Value} {σ : St} {r : ORes} (ho : o.op = .call c) (hb : c.callee = .builtin b) (h : stepBuiltin T o b c.args.toList c.argTypes.toList ts σ = some r) : Sound P o ts σ r := by
  obtain ⟨callee, args, tys⟩ := c
  obtain ⟨args⟩ := args
  obtain ⟨tys⟩ := tys
  simp only at hb
  subst hb
  unfold stepBuiltin at h
  simp only at h
  split at h
  · split at h
    · rename_i hx; exact len_sound hT ho hx h
    · cases h
  · split at h
    · rename_i hx; exact cap_sound hT ho hx h
    · cases h
  · split at h
    · rename_i hx hy; exact append_sound hT ho hx hy h
    · cases h
  · split at h
    · rename_i hx hy; exact copy_sound hT ho hx hy h
    · cases h
  · split at h
    · rename_i hx hy; exact delete_sound hT ho hx hy h
    · cases h
  · split at h
    · rename_i hx hy; exact max_sound ho hx hy h
    · cases h
  · split at h
    · rename_i hx hy; exact min_sound ho hx hy h
    · cases h
  · cases h; exact recover_sound ho
  · cases h

theorem stepOp_sound (hT : T.Ok P) {bodies : FuncId → Bool} (hB : ∀ g, bodies g = true → HasBody P g) {o : Oper} {ts : List Value} {σ : St} {r : ORes} (h : stepOp T bodies o ts σ = some r) : Sound P o ts σ r := by
  unfold stepOp at h
  split at h
  · rename_i x ho
    split at h
    · rename_i hx; cases h; exact move_sound (.inl ho) hx
    · cases h
  · rename_i x ho
    split at h
    · rename_i hx; cases h; exact move_sound (.inr ho) hx
    · cases h
  · rename_i ho
    split at h
    · rename_i hc hx hy; exact pick_sound ho hc hx hy h
    · cases h
  · rename_i ho; exact alloc_sound hT ho h
  · rename_i ho
    split at h
    · rename_i hx; exact box_sound ho hx h
    · cases h
  · rename_i ho
    split at h
    · rename_i hx; exact build_sound hT ho hx h
    · cases h
  · rename_i ho
    split at h
    · rename_i hx; exact buildSlice_sound hT ho hx h
    · cases h
  · rename_i ho
    split at h
    · rename_i hx; exact load_sound hT ho hx h
    · cases h
  · rename_i ho
    split at h
    · rename_i hx hy; exact store_sound hT ho hx hy h
    · cases h
  · rename_i ho
    split at h
    · rename_i hx; exact nilCheck_sound ho hx h
    · cases h
  · rename_i ho
    split at h
    · rename_i hx hy; exact bin_sound hT ho hx hy h
    · cases h
  · rename_i ho
    split at h
    · rename_i hx; exact un_sound ho hx h
    · cases h
  · rename_i ho
    split at h
    · rename_i hx; exact convert_sound hT ho hx h
    · cases h
  · rename_i ho
    split at h
    · rename_i hx; exact makeIface_sound hT ho hx h
    · cases h
  · rename_i ho
    split at h
    · rename_i hx hy; exact makeFunc_sound ho hx hy h
    · cases h
  · rename_i ho
    split at h
    · rename_i d v hu hx
      split at h
      · rename_i hd
        refine makeMap_sound ho ?_ hx h
        cases d <;> first
          | exact ⟨_, _, hT.und hu⟩
          | (simp [isMapD] at hd)
      · cases h
    · cases h
  · rename_i ho
    split at h
    · rename_i hx hy; exact makeSlice_sound hT ho hx hy h
    · cases h
  · rename_i ho
    split at h
    · rename_i hx h1 h2 h3; exact slice_sound hT ho hx h1 h2 h3 h
    · cases h
  · rename_i ho
    split at h
    · rename_i hx; exact fieldAddr_sound hT ho hx h
    · cases h
  · rename_i ho
    split at h
    · rename_i hx; exact field_sound hT ho hx h
    · cases h
  · rename_i ho
    split at h
    · rename_i hx hy; exact indexAddr_sound hT ho hx hy h
    · cases h
  · rename_i ho
    split at h
    · rename_i hx hy; exact index_sound hT ho hx hy h
    · cases h
  · rename_i ho
    split at h
    · rename_i hx hy; exact lookup_sound hT ho hx hy h
    · cases h
  · rename_i ho
    split at h
    · rename_i hx hy hz; exact mapUpdate_sound hT (.inl ho) hx hy hz h
    · cases h
  · rename_i ho
    split at h
    · rename_i hx hy hz; exact mapUpdate_sound hT (.inr ho) hx hy hz h
    · cases h
  · rename_i ho
    split at h
    · rename_i hx; exact typeAssert_sound hT ho hx h
    · cases h
  · rename_i ho
    split at h
    · rename_i hx; exact extract_sound ho hx h
    · cases h
  · rename_i c ho
    split at h
    · rename_i hb; exact stepBuiltin_sound hT ho hb h
    · rename_i f hf
      split at h
      · rename_i hx hy
        obtain ⟨callee, args, tys⟩ := c
        simp only at hf
        subst hf
        exact call_sound hT hB ho hx hy h
      · cases h
    · cases h
  · rename_i c ho
    split at h
    · rename_i f hf
      split at h
      · rename_i hx hy
        obtain ⟨callee, args, tys⟩ := c
        simp only at hf
        subst hf
        exact defer_sound ho hx hy h
      · cases h
    · cases h
  · rename_i ho
    split at h
    · rename_i hx; exact panic_sound ho hx h
    · cases h
  · cases h

end Go.Ab
