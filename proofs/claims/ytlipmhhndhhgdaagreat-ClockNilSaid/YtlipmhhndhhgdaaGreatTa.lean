/- A program's types and functions for the abstract machine. -/
import Derived.Test.YtlipmhhndhhgdaaGreatFq
set_option linter.unusedSimpArgs false
set_option linter.unusedVariables false
namespace Go.Ab

/-! ### the equations by which a run is reckoned, each at one form of its last argument -/
section eqs
variable {fr : Fr} {dst : Option Tmp} {lg l : Log} {k : OpsK} {v : Value} {σ σ' : St} {c : List PanicEntry} {orc : Orc} {rnd : Bool} {ob : AObj} {rd : List Nat} {f : FuncId} {args ts : List Value} {n : Nat} {d : Deferred}
theorem callK_ret : callK fr dst lg k (some (.ret v, σ', l)) = k (fr.put dst v) σ' (lg ++ l) := rfl
theorem callK_panic : callK fr dst lg k (some (.panic c, σ', l)) = some (.panic c, fr, σ', lg ++ l) := rfl
theorem opsK_val : opsK orc rnd dst fr σ lg k (some (.val v rd)) = k (fr.put dst v) σ lg := rfl
theorem opsK_new : opsK orc rnd dst fr σ lg k (some (.new ob v rd)) = k (fr.put dst v) (σ.new ob) lg := rfl
theorem opsK_eff : opsK orc rnd dst fr σ lg k (some (.eff v σ' l)) = k (fr.put dst v) σ' (lg ++ l) := rfl
theorem opsK_panic : opsK orc rnd dst fr σ lg k (some (.panic v)) = some (.panic [{ v, recovered := false }], fr, σ, lg) := rfl
theorem opsK_enter : opsK orc rnd dst fr σ lg k (some (.enter f args)) = callK fr dst lg k (orc.call f args σ) := rfl
theorem opsK_round : opsK orc rnd dst fr σ lg k (some (.round n args)) = callK fr dst lg k (orc.round n args σ) := rfl
theorem opsK_defer : opsK orc false dst fr σ lg k (some (.defer d)) = k ({ fr with ds := d :: fr.ds }.put dst undef) σ lg := rfl
theorem wantK_true {T : TT} {b : FuncId → Bool} {o : Oper} : wantK T b o ts σ true = stepOp T b o ts σ := rfl
theorem wantK_false {T : TT} {b : FuncId → Bool} {o : Oper} : wantK T b o ts σ false = some (.val undef []) := rfl
theorem consD_some {s : Stp} {r : Dr} : consD s l (some r) = some ⟨s :: r.st, r.ts, r.σ, l ++ r.lg⟩ := rfl
variable {kd : List Value → St → Option Dr}
theorem callD_ret : callD ts σ dst kd (some (.ret v, σ', l)) = consD ⟨ts, σ, v, .full l⟩ l (kd (putL ts dst v) σ') := rfl
theorem drawnK_val : drawnK orc dst ts σ kd (some (.val v rd)) = consD ⟨ts, σ, v, .pure rd⟩ [] (kd (putL ts dst v) σ) := rfl
theorem drawnK_new : drawnK orc dst ts σ kd (some (.new ob v rd)) = consD ⟨ts, σ, v, .alloc ob rd⟩ [] (kd (putL ts dst v) (σ.new ob)) := rfl
theorem drawnK_eff : drawnK orc dst ts σ kd (some (.eff v σ' l)) = consD ⟨ts, σ, v, .full l⟩ l (kd (putL ts dst v) σ') := rfl
theorem drawnK_enter : drawnK orc dst ts σ kd (some (.enter f args)) = callD ts σ dst kd (orc.call f args σ) := rfl
variable {k₁ k₂ : Fr → St → Option RR}
theorem condK_true : condK k₁ k₂ fr σ (some (.bool true)) = k₁ fr σ := rfl
theorem condK_false : condK k₁ k₂ fr σ (some (.bool false)) = k₂ fr σ := rfl
theorem blockK_some {id : Nat} {x : AX} : blockK id (some ⟨x, fr, σ, lg⟩) = some ⟨x.inBlock id, fr, σ, lg⟩ := rfl
theorem preO_some {r : RR} : preO l (some r) = some (r.pre l) := rfl
theorem thenR_norm : thenR (some ⟨.norm, fr, σ, lg⟩) k₁ = preO lg (k₁ fr σ) := rfl
theorem thenR_exit {i : Nat} : thenR (some ⟨.exit i, fr, σ, lg⟩) k₁ = some ⟨.exit i, fr, σ, lg⟩ := rfl
theorem thenR_goto {i : Nat} : thenR (some ⟨.goto i, fr, σ, lg⟩) k₁ = some ⟨.goto i, fr, σ, lg⟩ := rfl
theorem thenR_ret : thenR (some ⟨.ret, fr, σ, lg⟩) k₁ = some ⟨.ret, fr, σ, lg⟩ := rfl
theorem thenR_panic : thenR (some ⟨.panic c, fr, σ, lg⟩) k₁ = some ⟨.panic c, fr, σ, lg⟩ := rfl
variable {kj : Job → Fr → St → Option RR} {b rest : Code}
theorem jumpK_some {i : Nat} : jumpK kj b i fr σ lg (some rest) = preO lg (kj (.scope b rest) fr σ) := rfl
theorem jumpK_none {i : Nat} : jumpK kj b i fr σ lg none = some ⟨.goto i, fr, σ, lg⟩ := rfl
theorem scopeK_goto {i : Nat} : scopeK kj b (some ⟨.goto i, fr, σ, lg⟩) = jumpK kj b i fr σ lg (findLabel b i) := rfl
theorem scopeK_norm : scopeK kj b (some ⟨.norm, fr, σ, lg⟩) = some ⟨.norm, fr, σ, lg⟩ := rfl
theorem scopeK_exit {i : Nat} : scopeK kj b (some ⟨.exit i, fr, σ, lg⟩) = some ⟨.exit i, fr, σ, lg⟩ := rfl
theorem scopeK_ret : scopeK kj b (some ⟨.ret, fr, σ, lg⟩) = some ⟨.ret, fr, σ, lg⟩ := rfl
theorem scopeK_panic : scopeK kj b (some ⟨.panic c, fr, σ, lg⟩) = some ⟨.panic c, fr, σ, lg⟩ := rfl
def regO : Option (AX × Fr × St × Log) → Option RR
  | some (x, fr', σ', lg) => some ⟨x, fr', σ', lg⟩
  | none => none
theorem regO_some {x : AX} : regO (some (x, fr, σ, lg)) = some ⟨x, fr, σ, lg⟩ := rfl
def regD (B : List Nat) (fr : Fr) : Option Dr → Option RR
  | some r => if dynOk B r then some ⟨.norm, { fr with ts := r.ts }, r.σ, r.lg⟩ else none
  | none => none
theorem regD_some {B : List Nat} {r : Dr} : regD B fr (some r) = if dynOk B r then some ⟨.norm, { fr with ts := r.ts }, r.σ, r.lg⟩ else none := rfl
theorem regionR_false {C : Cx} {B : List Nat} {ops : Array Oper} : regionR C orc B rnd false ops fr σ = regO (runOps C orc rnd ops.toList ops.toList fr σ []) := by
  unfold regionR regO; rfl
theorem regionR_true {C : Cx} {B : List Nat} {ops : Array Oper} : regionR C orc B rnd true ops fr σ = regD B fr (runDrawn C orc ops.toList ops.toList fr.ts σ) := by
  unfold regionR regD; rfl
variable {C : Cx} {ops rest : List Oper} {o : Oper} {bt : Nat → List Nat} {j : Nat} {a : Code}
theorem runOps_nil : runOps C orc rnd ops [] fr σ lg = some (.norm, fr, σ, lg) := rfl
theorem runOps_cons : runOps C orc rnd ops (o :: rest) fr σ lg = opsK orc rnd o.dst fr σ lg (runOps C orc rnd ops rest) (wantK C.T C.bodies o fr.ts σ (wantedA ops o fr.ts)) := rfl
theorem runDrawn_nil : runDrawn C orc ops [] ts σ = some ⟨[], ts, σ, []⟩ := rfl
theorem runDrawn_cons : runDrawn C orc ops (o :: rest) ts σ = drawnK orc o.dst ts σ (runDrawn C orc ops rest) (wantK C.T C.bodies o ts σ (wantedA ops o ts)) := rfl
theorem run_loop_job : run C orc bt rnd (n + 1) (.loop a) fr σ = thenR (run C orc bt rnd n (.code a) fr σ) (run C orc bt rnd n (.loop a)) := rfl
theorem run_scope_job : run C orc bt rnd (n + 1) (.scope b a) fr σ = scopeK (run C orc bt rnd n) b (run C orc bt rnd n (.code a) fr σ) := rfl
theorem run_skip : run C orc bt rnd (n + 1) (.code .skip) fr σ = some ⟨.norm, fr, σ, []⟩ := rfl
theorem run_label : run C orc bt rnd (n + 1) (.code (.label j)) fr σ = some ⟨.norm, fr, σ, []⟩ := rfl
theorem run_exit : run C orc bt rnd (n + 1) (.code (.exit j)) fr σ = some ⟨.exit j, fr, σ, []⟩ := rfl
theorem run_goto : run C orc bt rnd (n + 1) (.code (.goto j)) fr σ = some ⟨.goto j, fr, σ, []⟩ := rfl
theorem run_ret : run C orc bt rnd (n + 1) (.code .ret) fr σ = some ⟨.ret, fr, σ, []⟩ := rfl
theorem run_seq : run C orc bt rnd (n + 1) (.code (.seq a b)) fr σ = thenR (run C orc bt rnd n (.code a) fr σ) (run C orc bt rnd n (.code b)) := rfl
theorem run_cond {c : Operand} : run C orc bt rnd (n + 1) (.code (.cond c a b)) fr σ = condK (run C orc bt rnd n (.code a)) (run C orc bt rnd n (.code b)) fr σ (ev fr.ts c) := rfl
theorem run_block : run C orc bt rnd (n + 1) (.code (.block j a)) fr σ = blockK j (run C orc bt rnd n (.code a) fr σ) := rfl
theorem run_loop : run C orc bt rnd (n + 1) (.code (.loop a)) fr σ = run C orc bt rnd n (.loop a) fr σ := rfl
theorem run_scope : run C orc bt rnd (n + 1) (.code (.scope a)) fr σ = run C orc bt rnd n (.scope a a) fr σ := rfl
theorem run_region {ops : Array Oper} {draw : Bool} : run C orc bt rnd (n + 1) (.code (.region j ops draw)) fr σ = regionR C orc (bt j) rnd draw ops fr σ := rfl
end eqs

theorem nadd_le (n k : Nat) : (n + (k + 1) ≤ n) = False := eq_false (by omega)
theorem nadd_lt (n k : Nat) : (n + k < n) = False := eq_false (by omega)
theorem nle_add (n k : Nat) : (n ≤ n + k) = True := eq_true (by omega)
theorem nlt_add (n k : Nat) : (n < n + (k + 1)) = True := eq_true (by omega)
theorem nadd_eq (n k : Nat) : (n + (k + 1) = n) = False := eq_false (by omega)
theorem neq_add (n k : Nat) : (n = n + (k + 1)) = False := eq_false (by omega)

def pureK (σ : St) : Option Value → Option (AE × St × Log)
  | some v => some (.ret v, σ, [])
  | none => none
theorem pureK_some {σ : St} {v : Value} : pureK σ (some v) = some (.ret v, σ, []) := rfl
/-- Calls of functions that hand back plain data and change nothing. -/
def pureO (p : FuncId → List Value → Option Value) : Orc := ⟨fun f args σ => pureK σ (p f args), fun _ _ _ => none⟩
theorem pureO_call {p : FuncId → List Value → Option Value} {f : FuncId} {args : List Value} {σ : St} : (pureO p).call f args σ = pureK σ (p f args) := rfl
theorem pureO_ok {P : Program} {p : FuncId → List Value → Option Value} (h : ∀ f args v, p f args = some v → ∀ σ, DCall P f args σ (.ret v) σ []) : (pureO p).Ok P where
  call := fun f args σ e σ' lg hc => by
    simp only [pureO] at hc
    unfold pureK at hc
    split at hc
    · rename_i v hv; cases hc; exact h f args v hv σ
    · cases hc
  round := fun l args σ e σ' lg hc => by simp [pureO] at hc

def hasBody (P : Program) (g : FuncId) : Bool :=
  match P.funcs[g]? with
  | some fn => fn.body.isSome && !(fn.name == "runtime.NumGoroutine")
  | none => false

theorem hasBody_spec {P : Program} {g : FuncId} (h : hasBody P g = true) : HasBody P g := by
  unfold hasBody at h
  split at h
  · rename_i fn hf
    rw [Bool.and_eq_true] at h
    exact ⟨fn, hf, h.1, by simpa using h.2⟩
  · cases h

def cx (P : Program) (fl : TypeId → Option (List CK)) : Cx := { T := { info := fun t => P.info? t, flat := fl }, bodies := hasBody P }

variable {P : Program} {fl : TypeId → Option (List CK)}

theorem cx_ok (h : ∀ t sh, fl t = some sh → FlatEq P t sh) : (cx P fl).Ok P := ⟨⟨fun _ _ h => h, h, fun _ _ h => by cases h⟩, fun _ h => hasBody_spec h⟩
theorem cx_info (t : TypeId) : (cx P fl).T.info t = P.info? t := rfl
theorem cx_flat (t : TypeId) : (cx P fl).T.flat t = fl t := rfl
theorem cx_und (t : TypeId) : (cx P fl).T.und t = P.underlying t := by
  unfold TT.und Program.underlying
  rw [cx_info]
  cases P.info? t with
  | none => rfl
  | some i =>
    obtain ⟨desc, str, size, bytes, hp, al, fal, zero, comp, meth⟩ := i
    cases desc <;> rfl
theorem cx_bodies {g : FuncId} {fn : Func} (h : P.funcs[g]? = some fn) (hb : (fn.body.isSome && !(fn.name == "runtime.NumGoroutine")) = true) : (cx P fl).bodies g = true := by
  show hasBody P g = true
  unfold hasBody
  rw [h]
  exact hb

/-- A function, run. -/
theorem call_of_run (hC : (cx P fl).Ok P) (hm : P.follows .mixedOrders = true) {f : FuncId} {fn : Func} {c : Code} {args : List Value} {σ : St} {orc : Orc} (hO : orc.Ok P) (hf : P.funcs[f]? = some fn) (hb : fn.body = some c) (n : Nat) (bt : Nat → List Nat) (hs : statAll bt c = true) {r : RR} {e : AE}
    (h : run (cx P fl) orc bt false n (.code c) (start args fn.ntmps) σ = some r) (he : endsA (cx P fl).T fn.results.toList r = some e) : DCall P f args σ e r.σ r.lg :=
  DCall.of_code hC.T ⟨hf, hb⟩ (run_sound hC hO hm n (.code c) _ _ _ hs h) he

end Go.Ab
