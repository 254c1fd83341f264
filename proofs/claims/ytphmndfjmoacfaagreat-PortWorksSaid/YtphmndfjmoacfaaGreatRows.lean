/-
  No cell of these rows narrows 'for every input' (looked for: loops, veiled, ifaces, maps, wideKeys, modest, calm, conditions, laid).
  DERIVED. THE GIVEN ROWS OF THIS SEAT. 5 by the template 'for every input the law returns true; each argument reads behind the call as it read before'; 0 by the template 'total and deterministic' (their statements: YtphmndfjmoacfaaGreatTotals.lean).
  GIVEN WITH THE SEED: the statements are not yours to turn. If you find one false, say at which input.
  Laid BY PROGRAM, IN A SANDBOX (cutbox-rows.mjs): the forced cells as the released guide's own fill.sh prints them over the translation ccc0731b72c2e1ed… (all of the seat's roots in one cut). By AI agents, Wed Nov 11 2026. No macro, syntax, notation, axiom, sorry.
-/
import Derived.Test.YtphmndfjmoacfaaGreatChecked
import GoSem.Claim
import GoSem.ClaimJoined
import GoSem.ClaimMapViews
import Derived.JoinedTies
import Derived.KernelRfl
namespace Go.Proofs.YtphmndfjmoacfaaGreat
/- THE CELL 'sum', in the pinned program and in every row, IS THE sha256 OF THE DUMP (.gsa) THAT YtphmndfjmoacfaaGreatProg.lean LOADS. Nothing in Lean hashes anything: it is a label: what it is worth is what the hold of that sum in a sandbox is worth. -/
noncomputable def Tryz.pinned : Pinned := { name := "ytphmndfjmoacfaagreat", sum := "ccc0731b72c2e1edf8478bff39fdcbeaecdd23a1d431a761504190810373705d", checked := Tryz.checked }
namespace Rows
def none {H : Type} : Left H := { results := [], args := [] }

/-- 'postroadlaw14.ClockPlay': WHATEVER THE INPUT: true; the input reads as it did. -/
def clockPlaySpec : ChangeSpec := { name := "clockPlay", fn := fun _ => fun
  | [d1, d2] => { results := [.lit (.bool true)], args := [d1, d2] }
  | _ => none }
def clockPlayRow : OpenClaim := { program := "ytphmndfjmoacfaagreat", sum := "ccc0731b72c2e1edf8478bff39fdcbeaecdd23a1d431a761504190810373705d", func := "postroad/postroadlaw14.ClockPlay", spec := "clockPlay", inPlace := ["math/bits.Add64", "math/bits.Sub64", "maps.clone"], unfollowed := true, recurses := true, named := ["math/bits.divideError", "math/bits.overflowError"], apart := false }
def ClockPlaySaid : Prop := clockPlayRow.holds Tryz.pinned (OpenSpec.ofChange clockPlaySpec)

/-- ITS FALSE NEIGHBOUR: 'it returns false'. Refute it at one input. -/
def clockPlayWrong : ChangeSpec := { name := "clockPlay", fn := fun _ => fun
  | [d1, d2] => { results := [.lit (.bool false)], args := [d1, d2] }
  | _ => none }
def ClockPlayWrongFalsely : Prop := clockPlayRow.holds Tryz.pinned (OpenSpec.ofChange clockPlayWrong)

/-- 'postroadlaw16.PortOnTime': WHATEVER THE INPUT: true; the input reads as it did. -/
def portOnTimeSpec : ChangeSpec := { name := "portOnTime", fn := fun _ => fun
  | [d1, d2, d3] => { results := [.lit (.bool true)], args := [d1, d2, d3] }
  | _ => none }
def portOnTimeRow : OpenClaim := { program := "ytphmndfjmoacfaagreat", sum := "ccc0731b72c2e1edf8478bff39fdcbeaecdd23a1d431a761504190810373705d", func := "postroad/postroadlaw16.PortOnTime", spec := "portOnTime", inPlace := ["math/bits.Add64", "math/bits.Sub64", "maps.clone"], unfollowed := true, recurses := true, named := ["math/bits.divideError", "math/bits.overflowError"], apart := false }
def PortOnTimeSaid : Prop := portOnTimeRow.holds Tryz.pinned (OpenSpec.ofChange portOnTimeSpec)

/-- ITS FALSE NEIGHBOUR: 'it returns false'. Refute it at one input. -/
def portOnTimeWrong : ChangeSpec := { name := "portOnTime", fn := fun _ => fun
  | [d1, d2, d3] => { results := [.lit (.bool false)], args := [d1, d2, d3] }
  | _ => none }
def PortOnTimeWrongFalsely : Prop := portOnTimeRow.holds Tryz.pinned (OpenSpec.ofChange portOnTimeWrong)

/-- 'postroadlaw16.PortWorks': WHATEVER THE INPUT: true; the input reads as it did. -/
def portWorksSpec : ChangeSpec := { name := "portWorks", fn := fun _ => fun
  | [d1, d2] => { results := [.lit (.bool true)], args := [d1, d2] }
  | _ => none }
def portWorksRow : OpenClaim := { program := "ytphmndfjmoacfaagreat", sum := "ccc0731b72c2e1edf8478bff39fdcbeaecdd23a1d431a761504190810373705d", func := "postroad/postroadlaw16.PortWorks", spec := "portWorks", inPlace := ["math/bits.Add64", "math/bits.Sub64", "maps.clone"], unfollowed := true, recurses := true, named := ["math/bits.divideError", "math/bits.overflowError"], apart := false }
def PortWorksSaid : Prop := portWorksRow.holds Tryz.pinned (OpenSpec.ofChange portWorksSpec)

/-- ITS FALSE NEIGHBOUR: 'it returns false'. Refute it at one input. -/
def portWorksWrong : ChangeSpec := { name := "portWorks", fn := fun _ => fun
  | [d1, d2] => { results := [.lit (.bool false)], args := [d1, d2] }
  | _ => none }
def PortWorksWrongFalsely : Prop := portWorksRow.holds Tryz.pinned (OpenSpec.ofChange portWorksWrong)

/-- 'postroadlaw16.PortPlay': WHATEVER THE INPUT: true; the input reads as it did. -/
def portPlaySpec : ChangeSpec := { name := "portPlay", fn := fun _ => fun
  | [d1, d2] => { results := [.lit (.bool true)], args := [d1, d2] }
  | _ => none }
def portPlayRow : OpenClaim := { program := "ytphmndfjmoacfaagreat", sum := "ccc0731b72c2e1edf8478bff39fdcbeaecdd23a1d431a761504190810373705d", func := "postroad/postroadlaw16.PortPlay", spec := "portPlay", inPlace := ["math/bits.Add64", "math/bits.Sub64", "maps.clone"], unfollowed := true, recurses := true, named := ["math/bits.divideError", "math/bits.overflowError"], apart := false }
def PortPlaySaid : Prop := portPlayRow.holds Tryz.pinned (OpenSpec.ofChange portPlaySpec)

/-- ITS FALSE NEIGHBOUR: 'it returns false'. Refute it at one input. -/
def portPlayWrong : ChangeSpec := { name := "portPlay", fn := fun _ => fun
  | [d1, d2] => { results := [.lit (.bool false)], args := [d1, d2] }
  | _ => none }
def PortPlayWrongFalsely : Prop := portPlayRow.holds Tryz.pinned (OpenSpec.ofChange portPlayWrong)

/-- 'postroadlaw16.PortCopies': WHATEVER THE INPUT: true; the input reads as it did. -/
def portCopiesSpec : ChangeSpec := { name := "portCopies", fn := fun _ => fun
  | [d1, d2] => { results := [.lit (.bool true)], args := [d1, d2] }
  | _ => none }
def portCopiesRow : OpenClaim := { program := "ytphmndfjmoacfaagreat", sum := "ccc0731b72c2e1edf8478bff39fdcbeaecdd23a1d431a761504190810373705d", func := "postroad/postroadlaw16.PortCopies", spec := "portCopies", inPlace := ["math/bits.Add64", "math/bits.Sub64", "maps.clone"], unfollowed := true, recurses := true, named := ["math/bits.divideError", "math/bits.overflowError"], apart := false }
def PortCopiesSaid : Prop := portCopiesRow.holds Tryz.pinned (OpenSpec.ofChange portCopiesSpec)

/-- ITS FALSE NEIGHBOUR: 'it returns false'. Refute it at one input. -/
def portCopiesWrong : ChangeSpec := { name := "portCopies", fn := fun _ => fun
  | [d1, d2] => { results := [.lit (.bool false)], args := [d1, d2] }
  | _ => none }
def PortCopiesWrongFalsely : Prop := portCopiesRow.holds Tryz.pinned (OpenSpec.ofChange portCopiesWrong)

/- THE SECOND FORM. 'bulk': how many values and letters a reading holds, each counted each time it is reached (what is shared counts as often as it is met; a slice's spare places count too). A statement '..UptoSaid' is the law's where the arguments, and the package variables that the reading takes, are together of bulk at most 1048576: NARROWER than '..Said'. Prove '..Said' where nothing that the law and all that it calls make is longer than what came in: it says more and counts as full. Else prove '..UptoSaid'. A law counts once. -/
mutual
def uptoBulk {H : Type} : DataW H → Nat
  | .lit (.string bytes) => bytes.length + 1
  | .lit _ => 1
  | .nil => 1
  | .ptr d => uptoBulk d + 1
  | .slice elems spare => uptoBulkAll elems + uptoBulkAll spare + 1
  | .agg parts => uptoBulkAll parts + 1
  | .iface _ d => uptoBulk d + 1
  | .map entries => uptoBulkEntries entries + 1
  | .held _ => 1
def uptoBulkAll {H : Type} : List (DataW H) → Nat
  | [] => 0
  | d :: r => uptoBulk d + uptoBulkAll r
def uptoBulkEntries {H : Type} : List (Lit × DataW H) → Nat
  | [] => 0
  | x :: r => uptoBulkEntry x + uptoBulkEntries r
def uptoBulkEntry {H : Type} : Lit × DataW H → Nat
  | (.string bytes, d) => bytes.length + uptoBulk d + 1
  | (_, d) => uptoBulk d + 1
 end
def uptoSmall : (H : Type) → List (DataW H) → Bool := fun _ ds => decide (uptoBulkAll ds ≤ 1048576)
def OpenSpec.upto (s : _root_.Go.ChangeSpec) : _root_.Go.OpenSpec := { _root_.Go.OpenSpec.ofChange s with cond := some uptoSmall }

/-- 'postroadlaw14.ClockPlay', WHERE WHAT IT READS IS OF BULK AT MOST 1048576: true; the input reads as it did. -/
def clockPlayUptoRow : OpenClaim := { program := "ytphmndfjmoacfaagreat", sum := "ccc0731b72c2e1edf8478bff39fdcbeaecdd23a1d431a761504190810373705d", func := "postroad/postroadlaw14.ClockPlay", spec := "clockPlay", inPlace := ["math/bits.Add64", "math/bits.Sub64", "maps.clone"], unfollowed := true, recurses := true, named := ["math/bits.divideError", "math/bits.overflowError"], apart := false, narrowed := true }
def ClockPlayUptoSaid : Prop := clockPlayUptoRow.holds Tryz.pinned (OpenSpec.upto clockPlaySpec)

/-- 'postroadlaw16.PortOnTime', WHERE WHAT IT READS IS OF BULK AT MOST 1048576: true; the input reads as it did. -/
def portOnTimeUptoRow : OpenClaim := { program := "ytphmndfjmoacfaagreat", sum := "ccc0731b72c2e1edf8478bff39fdcbeaecdd23a1d431a761504190810373705d", func := "postroad/postroadlaw16.PortOnTime", spec := "portOnTime", inPlace := ["math/bits.Add64", "math/bits.Sub64", "maps.clone"], unfollowed := true, recurses := true, named := ["math/bits.divideError", "math/bits.overflowError"], apart := false, narrowed := true }
def PortOnTimeUptoSaid : Prop := portOnTimeUptoRow.holds Tryz.pinned (OpenSpec.upto portOnTimeSpec)

/-- 'postroadlaw16.PortWorks', WHERE WHAT IT READS IS OF BULK AT MOST 1048576: true; the input reads as it did. -/
def portWorksUptoRow : OpenClaim := { program := "ytphmndfjmoacfaagreat", sum := "ccc0731b72c2e1edf8478bff39fdcbeaecdd23a1d431a761504190810373705d", func := "postroad/postroadlaw16.PortWorks", spec := "portWorks", inPlace := ["math/bits.Add64", "math/bits.Sub64", "maps.clone"], unfollowed := true, recurses := true, named := ["math/bits.divideError", "math/bits.overflowError"], apart := false, narrowed := true }
def PortWorksUptoSaid : Prop := portWorksUptoRow.holds Tryz.pinned (OpenSpec.upto portWorksSpec)

/-- 'postroadlaw16.PortPlay', WHERE WHAT IT READS IS OF BULK AT MOST 1048576: true; the input reads as it did. -/
def portPlayUptoRow : OpenClaim := { program := "ytphmndfjmoacfaagreat", sum := "ccc0731b72c2e1edf8478bff39fdcbeaecdd23a1d431a761504190810373705d", func := "postroad/postroadlaw16.PortPlay", spec := "portPlay", inPlace := ["math/bits.Add64", "math/bits.Sub64", "maps.clone"], unfollowed := true, recurses := true, named := ["math/bits.divideError", "math/bits.overflowError"], apart := false, narrowed := true }
def PortPlayUptoSaid : Prop := portPlayUptoRow.holds Tryz.pinned (OpenSpec.upto portPlaySpec)

/-- 'postroadlaw16.PortCopies', WHERE WHAT IT READS IS OF BULK AT MOST 1048576: true; the input reads as it did. -/
def portCopiesUptoRow : OpenClaim := { program := "ytphmndfjmoacfaagreat", sum := "ccc0731b72c2e1edf8478bff39fdcbeaecdd23a1d431a761504190810373705d", func := "postroad/postroadlaw16.PortCopies", spec := "portCopies", inPlace := ["math/bits.Add64", "math/bits.Sub64", "maps.clone"], unfollowed := true, recurses := true, named := ["math/bits.divideError", "math/bits.overflowError"], apart := false, narrowed := true }
def PortCopiesUptoSaid : Prop := portCopiesUptoRow.holds Tryz.pinned (OpenSpec.upto portCopiesSpec)

end Rows
end Go.Proofs.YtphmndfjmoacfaaGreat
