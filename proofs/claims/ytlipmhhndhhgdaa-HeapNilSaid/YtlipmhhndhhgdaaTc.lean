/- What 'simp' is told, that runs of code come to their ends. -/
import Derived.Test.YtlipmhhndhhgdaaTt
import Derived.Test.YtlipmhhndhhgdaaProg
import Derived.KernelRfl
import Derived.Laws.BitsLemmas
import Derived.Laws.Bits64
set_option linter.unusedSimpArgs false
set_option linter.unusedVariables false
namespace Go.Ab
open Go.Proofs

attribute [simp] callK_ret callK_panic opsK_val opsK_new opsK_eff opsK_panic opsK_enter opsK_round opsK_defer wantK_true wantK_false consD_some callD_ret drawnK_val drawnK_new drawnK_eff drawnK_enter condK_true condK_false blockK_some preO_some thenR_norm thenR_exit thenR_goto thenR_ret thenR_panic jumpK_some jumpK_none scopeK_goto scopeK_norm scopeK_exit scopeK_ret scopeK_panic regO_some regD_some regionR_false regionR_true runOps_nil runOps_cons runDrawn_nil runDrawn_cons run_loop_job run_scope_job run_skip run_label run_exit run_goto run_ret run_seq run_cond run_block run_loop run_scope run_region pureK_some pureO_call dynOk loud quietK  stepOp stepBuiltin start Fr.put putL wantedA yieldedA lget? ev evs evo lget plain plainL partsA cx_und cx_info cx_flat opBin isShift intOp shiftOp strOp eqOp
  opUn opConvert RR.pre endsA resA resList resOne opPick opExtract opBuild opBuildSlice opBox opNilCheck opField opIndex opCall AX.inBlock findLabel isAggD partA placesA fillA opMakeFunc opMakeIface opPanic opDefer bnd oneCells vcells over

theorem mixed : Try.prog.follows .mixedOrders = true := by kernel_rfl

theorem calls {f : FuncId} {fn : Func} {c : Code} {args : List Value} {σ : St} {orc : Orc} (hO : orc.Ok Try.prog) (hf : Try.prog.funcs[f]? = some fn) (hb : fn.body = some c) (n : Nat) (bt : Nat → List Nat) (hs : statAll bt c = true) {e : AE} {σ' : St} {l : Log}
    (h : ∃ r, run (cP Try.prog) orc bt false n (.code c) (start args fn.ntmps) σ = some r ∧ endsA (cP Try.prog).T fn.results.toList r = some e ∧ r.σ = σ' ∧ r.lg = l) : DCall Try.prog f args σ e σ' l := by
  obtain ⟨r, h1, h2, rfl, rfl⟩ := h
  exact call_of_run cP_ok mixed hO hf hb n bt hs h1 h2

theorem runs {c : Code} {fr : Fr} {σ : St} {orc : Orc} (hO : orc.Ok Try.prog) (n : Nat) (bt : Nat → List Nat) (hs : statAll bt c = true) {r : RR} (h : run (cP Try.prog) orc bt false n (.code c) fr σ = some r) : DC Try.prog false c fr σ r :=
  run_sound cP_ok hO mixed n (.code c) _ _ _ hs h

/-- A call that turns none of the blocks of old. -/
theorem callsL {f : FuncId} {fn : Func} {c : Code} {args : List Value} {σ : St} {orc : Orc} (hO : orc.Ok Try.prog) (hf : Try.prog.funcs[f]? = some fn) (hb : fn.body = some c) (n : Nat) (bt : Nat → List Nat) (hs : statAll bt c = true) {e : AE} {σ' : St}
    (h : ∃ r, run (cP Try.prog) orc bt false n (.code c) (start args fn.ntmps) σ = some r ∧ endsA (cP Try.prog).T fn.results.toList r = some e ∧ r.σ = σ' ∧ ∀ b, b < σ.next → σ'.get b = σ.get b) : DCall Try.prog f args σ e σ' [] := by
  obtain ⟨r, h1, h2, rfl, h3⟩ := h
  have h4 := call_of_run cP_ok mixed hO hf hb n bt hs h1 h2
  exact ⟨⟨h4.1.1, fun b hb _ => h3 b hb⟩, h4.2⟩

theorem callsD {f : FuncId} {fn : Func} {c : Code} {args : List Value} {σ σ' : St} {l : Log} {r : RR} {e : AE} (hf : Try.prog.funcs[f]? = some fn) (hb : fn.body = some c) (h : DC Try.prog false c (start args fn.ntmps) σ r)
    (he : endsA (cP Try.prog).T fn.results.toList r = some e) (hσ : r.σ = σ') (hl : r.lg = l) : DCall Try.prog f args σ e σ' l := by
  subst hσ hl
  exact DCall.of_code cP_ok.T ⟨hf, hb⟩ h he

/-- The loop of a block, wherever it stands. -/
def loopOf : Code → Code
  | .seq a b => match loopOf a with | .skip => loopOf b | c => c
  | .block _ b => loopOf b
  | .scope b => loopOf b
  | .loop b => b
  | _ => .skip

/-- The table of a code whose drawn regions need none. -/
def nobt (_ : Nat) : List Nat := []

end Go.Ab
