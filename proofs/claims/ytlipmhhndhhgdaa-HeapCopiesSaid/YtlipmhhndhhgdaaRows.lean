/-
  No cell of these rows narrows 'for every input' (looked for: loops, veiled, ifaces, maps, wideKeys, modest, calm, conditions, laid).
  DERIVED. THE GIVEN ROWS OF THIS SEAT. 9 by the template 'for every input the law returns true; each argument reads behind the call as it read before'; 0 by the template 'total and deterministic' (their statements: YtlipmhhndhhgdaaTotals.lean).
  GIVEN WITH THE SEED: the statements are not yours to turn. If you find one false, say at which input.
  Laid BY PROGRAM, IN A SANDBOX (cutbox-rows.mjs): the forced cells as the released guide's own fill.sh prints them over the translation 05dbe1e6f34d369b… (all of the seat's roots in one cut). By AI agents, Wed Nov 11 2026. No macro, syntax, notation, axiom, sorry.
-/
import Derived.Test.YtlipmhhndhhgdaaChecked
import GoSem.Claim
import GoSem.ClaimJoined
import GoSem.ClaimMapViews
import Derived.JoinedTies
import Derived.KernelRfl
namespace Go.Proofs.Ytlipmhhndhhgdaa
/- THE CELL 'sum', in the pinned program and in every row, IS THE sha256 OF THE DUMP (.gsa) THAT YtlipmhhndhhgdaaProg.lean LOADS. Nothing in Lean hashes anything: it is a label: what it is worth is what the hold of that sum in a sandbox is worth. -/
noncomputable def Try.pinned : Pinned := { name := "ytlipmhhndhhgdaa", sum := "05dbe1e6f34d369b624bedf3ba6fa12217ce8f30dbd5cdf10ea20116223cd57e", checked := Try.checked }
namespace Rows
def none {H : Type} : Left H := { results := [], args := [] }

/-- 'postroadlaw11.HeapTurns': WHATEVER THE INPUT: true; the input reads as it did. -/
def heapTurnsSpec : ChangeSpec := { name := "heapTurns", fn := fun _ => fun
  | [d1, d2] => { results := [.lit (.bool true)], args := [d1, d2] }
  | _ => none }
def heapTurnsRow : OpenClaim := { program := "ytlipmhhndhhgdaa", sum := "05dbe1e6f34d369b624bedf3ba6fa12217ce8f30dbd5cdf10ea20116223cd57e", func := "postroad/postroadlaw11.HeapTurns", spec := "heapTurns", unfollowed := true, recurses := true, apart := false }
def HeapTurnsSaid : Prop := heapTurnsRow.holds Try.pinned (OpenSpec.ofChange heapTurnsSpec)

/-- ITS FALSE NEIGHBOUR: 'it returns false'. Refute it at one input. -/
def heapTurnsWrong : ChangeSpec := { name := "heapTurns", fn := fun _ => fun
  | [d1, d2] => { results := [.lit (.bool false)], args := [d1, d2] }
  | _ => none }
def HeapTurnsWrongFalsely : Prop := heapTurnsRow.holds Try.pinned (OpenSpec.ofChange heapTurnsWrong)

/-- 'postroadlaw11.HeapDrains': WHATEVER THE INPUT: true; the input reads as it did. -/
def heapDrainsSpec : ChangeSpec := { name := "heapDrains", fn := fun _ => fun
  | [d] => { results := [.lit (.bool true)], args := [d] }
  | _ => none }
def heapDrainsRow : OpenClaim := { program := "ytlipmhhndhhgdaa", sum := "05dbe1e6f34d369b624bedf3ba6fa12217ce8f30dbd5cdf10ea20116223cd57e", func := "postroad/postroadlaw11.HeapDrains", spec := "heapDrains", unfollowed := true, recurses := true, apart := false }
def HeapDrainsSaid : Prop := heapDrainsRow.holds Try.pinned (OpenSpec.ofChange heapDrainsSpec)

/-- ITS FALSE NEIGHBOUR: 'it returns false'. Refute it at one input. -/
def heapDrainsWrong : ChangeSpec := { name := "heapDrains", fn := fun _ => fun
  | [d] => { results := [.lit (.bool false)], args := [d] }
  | _ => none }
def HeapDrainsWrongFalsely : Prop := heapDrainsRow.holds Try.pinned (OpenSpec.ofChange heapDrainsWrong)

/-- 'postroadlaw14.ClockAlone': WHATEVER THE INPUT: true; the input reads as it did. -/
def clockAloneSpec : ChangeSpec := { name := "clockAlone", fn := fun _ => fun
  | [d1, d2, d3] => { results := [.lit (.bool true)], args := [d1, d2, d3] }
  | _ => none }
def clockAloneRow : OpenClaim := { program := "ytlipmhhndhhgdaa", sum := "05dbe1e6f34d369b624bedf3ba6fa12217ce8f30dbd5cdf10ea20116223cd57e", func := "postroad/postroadlaw14.ClockAlone", spec := "clockAlone", inPlace := ["math/bits.Add64", "math/bits.Sub64"], unfollowed := true, recurses := true, named := ["math/bits.divideError", "math/bits.overflowError"], apart := false }
def ClockAloneSaid : Prop := clockAloneRow.holds Try.pinned (OpenSpec.ofChange clockAloneSpec)

/-- ITS FALSE NEIGHBOUR: 'it returns false'. Refute it at one input. -/
def clockAloneWrong : ChangeSpec := { name := "clockAlone", fn := fun _ => fun
  | [d1, d2, d3] => { results := [.lit (.bool false)], args := [d1, d2, d3] }
  | _ => none }
def ClockAloneWrongFalsely : Prop := clockAloneRow.holds Try.pinned (OpenSpec.ofChange clockAloneWrong)

/-- 'postroadlaw14.ClockBound': WHATEVER THE INPUT: true; the input reads as it did. -/
def clockBoundSpec : ChangeSpec := { name := "clockBound", fn := fun _ => fun
  | [d1, d2, d3] => { results := [.lit (.bool true)], args := [d1, d2, d3] }
  | _ => none }
def clockBoundRow : OpenClaim := { program := "ytlipmhhndhhgdaa", sum := "05dbe1e6f34d369b624bedf3ba6fa12217ce8f30dbd5cdf10ea20116223cd57e", func := "postroad/postroadlaw14.ClockBound", spec := "clockBound", inPlace := ["math/bits.Add64", "math/bits.Sub64"], unfollowed := true, recurses := true, named := ["math/bits.divideError", "math/bits.overflowError"], apart := false }
def ClockBoundSaid : Prop := clockBoundRow.holds Try.pinned (OpenSpec.ofChange clockBoundSpec)

/-- ITS FALSE NEIGHBOUR: 'it returns false'. Refute it at one input. -/
def clockBoundWrong : ChangeSpec := { name := "clockBound", fn := fun _ => fun
  | [d1, d2, d3] => { results := [.lit (.bool false)], args := [d1, d2, d3] }
  | _ => none }
def ClockBoundWrongFalsely : Prop := clockBoundRow.holds Try.pinned (OpenSpec.ofChange clockBoundWrong)

/-- 'postroadlaw14.ClockFair': WHATEVER THE INPUT: true; the input reads as it did. -/
def clockFairSpec : ChangeSpec := { name := "clockFair", fn := fun _ => fun
  | [d1, d2, d3] => { results := [.lit (.bool true)], args := [d1, d2, d3] }
  | _ => none }
def clockFairRow : OpenClaim := { program := "ytlipmhhndhhgdaa", sum := "05dbe1e6f34d369b624bedf3ba6fa12217ce8f30dbd5cdf10ea20116223cd57e", func := "postroad/postroadlaw14.ClockFair", spec := "clockFair", inPlace := ["math/bits.Add64", "math/bits.Sub64"], unfollowed := true, recurses := true, named := ["math/bits.divideError", "math/bits.overflowError"], apart := false }
def ClockFairSaid : Prop := clockFairRow.holds Try.pinned (OpenSpec.ofChange clockFairSpec)

/-- ITS FALSE NEIGHBOUR: 'it returns false'. Refute it at one input. -/
def clockFairWrong : ChangeSpec := { name := "clockFair", fn := fun _ => fun
  | [d1, d2, d3] => { results := [.lit (.bool false)], args := [d1, d2, d3] }
  | _ => none }
def ClockFairWrongFalsely : Prop := clockFairRow.holds Try.pinned (OpenSpec.ofChange clockFairWrong)

/-- 'postroadlaw11.HeapPlay': WHATEVER THE INPUT: true; the input reads as it did. -/
def heapPlaySpec : ChangeSpec := { name := "heapPlay", fn := fun _ => fun
  | [d1, d2] => { results := [.lit (.bool true)], args := [d1, d2] }
  | _ => none }
def heapPlayRow : OpenClaim := { program := "ytlipmhhndhhgdaa", sum := "05dbe1e6f34d369b624bedf3ba6fa12217ce8f30dbd5cdf10ea20116223cd57e", func := "postroad/postroadlaw11.HeapPlay", spec := "heapPlay", unfollowed := true, recurses := true, apart := false }
def HeapPlaySaid : Prop := heapPlayRow.holds Try.pinned (OpenSpec.ofChange heapPlaySpec)

/-- ITS FALSE NEIGHBOUR: 'it returns false'. Refute it at one input. -/
def heapPlayWrong : ChangeSpec := { name := "heapPlay", fn := fun _ => fun
  | [d1, d2] => { results := [.lit (.bool false)], args := [d1, d2] }
  | _ => none }
def HeapPlayWrongFalsely : Prop := heapPlayRow.holds Try.pinned (OpenSpec.ofChange heapPlayWrong)

/-- 'postroadlaw16.PortFirst': WHATEVER THE INPUT: true; the input reads as it did. -/
def portFirstSpec : ChangeSpec := { name := "portFirst", fn := fun _ => fun
  | [d1, d2, d3] => { results := [.lit (.bool true)], args := [d1, d2, d3] }
  | _ => none }
def portFirstRow : OpenClaim := { program := "ytlipmhhndhhgdaa", sum := "05dbe1e6f34d369b624bedf3ba6fa12217ce8f30dbd5cdf10ea20116223cd57e", func := "postroad/postroadlaw16.PortFirst", spec := "portFirst", inPlace := ["math/bits.Add64", "math/bits.Sub64"], unfollowed := true, recurses := true, named := ["math/bits.divideError", "math/bits.overflowError"], apart := false }
def PortFirstSaid : Prop := portFirstRow.holds Try.pinned (OpenSpec.ofChange portFirstSpec)

/-- ITS FALSE NEIGHBOUR: 'it returns false'. Refute it at one input. -/
def portFirstWrong : ChangeSpec := { name := "portFirst", fn := fun _ => fun
  | [d1, d2, d3] => { results := [.lit (.bool false)], args := [d1, d2, d3] }
  | _ => none }
def PortFirstWrongFalsely : Prop := portFirstRow.holds Try.pinned (OpenSpec.ofChange portFirstWrong)

/-- 'postroadlaw11.HeapCopies': WHATEVER THE INPUT: true; the input reads as it did. -/
def heapCopiesSpec : ChangeSpec := { name := "heapCopies", fn := fun _ => fun
  | [d1, d2, d3] => { results := [.lit (.bool true)], args := [d1, d2, d3] }
  | _ => none }
def heapCopiesRow : OpenClaim := { program := "ytlipmhhndhhgdaa", sum := "05dbe1e6f34d369b624bedf3ba6fa12217ce8f30dbd5cdf10ea20116223cd57e", func := "postroad/postroadlaw11.HeapCopies", spec := "heapCopies", inPlace := ["maps.clone"], unfollowed := true, recurses := true, apart := false }
def HeapCopiesSaid : Prop := heapCopiesRow.holds Try.pinned (OpenSpec.ofChange heapCopiesSpec)

/-- ITS FALSE NEIGHBOUR: 'it returns false'. Refute it at one input. -/
def heapCopiesWrong : ChangeSpec := { name := "heapCopies", fn := fun _ => fun
  | [d1, d2, d3] => { results := [.lit (.bool false)], args := [d1, d2, d3] }
  | _ => none }
def HeapCopiesWrongFalsely : Prop := heapCopiesRow.holds Try.pinned (OpenSpec.ofChange heapCopiesWrong)

/-- 'postroadlaw11.HeapNil': WHATEVER THE INPUT: true; the input reads as it did. -/
def heapNilSpec : ChangeSpec := { name := "heapNil", fn := fun _ => fun
  | [d] => { results := [.lit (.bool true)], args := [d] }
  | _ => none }
def heapNilRow : OpenClaim := { program := "ytlipmhhndhhgdaa", sum := "05dbe1e6f34d369b624bedf3ba6fa12217ce8f30dbd5cdf10ea20116223cd57e", func := "postroad/postroadlaw11.HeapNil", spec := "heapNil", inPlace := ["maps.clone"], unfollowed := true, recurses := true, apart := false }
def HeapNilSaid : Prop := heapNilRow.holds Try.pinned (OpenSpec.ofChange heapNilSpec)

/-- ITS FALSE NEIGHBOUR: 'it returns false'. Refute it at one input. -/
def heapNilWrong : ChangeSpec := { name := "heapNil", fn := fun _ => fun
  | [d] => { results := [.lit (.bool false)], args := [d] }
  | _ => none }
def HeapNilWrongFalsely : Prop := heapNilRow.holds Try.pinned (OpenSpec.ofChange heapNilWrong)

/- THE SECOND FORM. 'bulk': how many values and letters a reading holds, each counted each time it is reached (what is shared counts as often as it is met; a slice's spare places count too). A statement '..UptoSaid' is the law's where the arguments, and the package variables that the reading takes, are together of bulk at most 1048576: NARROWER than '..Said'. Prove '..Said' where nothing that the law and all that it calls make is longer than what came in: it says more and counts as full. Else prove '..UptoSaid'. A law counts once. -/
mutual
def uptoBulk {H : Type} : DataW H → Nat
  | .lit (.string bytes) => bytes.length + 1
  | .lit _ => 1
  | .nil => 1
  | .ptr d => uptoBulk d + 1
  | .slice elems spare => uptoBulkAll elems + uptoBulkAll spare + 1
  | .agg parts => uptoBulkAll parts + 1
  | .iface _ d => uptoBulk d + 1
  | .map entries => uptoBulkEntries entries + 1
  | .held _ => 1
def uptoBulkAll {H : Type} : List (DataW H) → Nat
  | [] => 0
  | d :: r => uptoBulk d + uptoBulkAll r
def uptoBulkEntries {H : Type} : List (Lit × DataW H) → Nat
  | [] => 0
  | x :: r => uptoBulkEntry x + uptoBulkEntries r
def uptoBulkEntry {H : Type} : Lit × DataW H → Nat
  | (.string bytes, d) => bytes.length + uptoBulk d + 1
  | (_, d) => uptoBulk d + 1
 end
def uptoSmall : (H : Type) → List (DataW H) → Bool := fun _ ds => decide (uptoBulkAll ds ≤ 1048576)
def OpenSpec.upto (s : _root_.Go.ChangeSpec) : _root_.Go.OpenSpec := { _root_.Go.OpenSpec.ofChange s with cond := some uptoSmall }

/-- 'postroadlaw11.HeapTurns', WHERE WHAT IT READS IS OF BULK AT MOST 1048576: true; the input reads as it did. -/
def heapTurnsUptoRow : OpenClaim := { program := "ytlipmhhndhhgdaa", sum := "05dbe1e6f34d369b624bedf3ba6fa12217ce8f30dbd5cdf10ea20116223cd57e", func := "postroad/postroadlaw11.HeapTurns", spec := "heapTurns", unfollowed := true, recurses := true, apart := false, narrowed := true }
def HeapTurnsUptoSaid : Prop := heapTurnsUptoRow.holds Try.pinned (OpenSpec.upto heapTurnsSpec)

/-- 'postroadlaw11.HeapDrains', WHERE WHAT IT READS IS OF BULK AT MOST 1048576: true; the input reads as it did. -/
def heapDrainsUptoRow : OpenClaim := { program := "ytlipmhhndhhgdaa", sum := "05dbe1e6f34d369b624bedf3ba6fa12217ce8f30dbd5cdf10ea20116223cd57e", func := "postroad/postroadlaw11.HeapDrains", spec := "heapDrains", unfollowed := true, recurses := true, apart := false, narrowed := true }
def HeapDrainsUptoSaid : Prop := heapDrainsUptoRow.holds Try.pinned (OpenSpec.upto heapDrainsSpec)

/-- 'postroadlaw14.ClockAlone', WHERE WHAT IT READS IS OF BULK AT MOST 1048576: true; the input reads as it did. -/
def clockAloneUptoRow : OpenClaim := { program := "ytlipmhhndhhgdaa", sum := "05dbe1e6f34d369b624bedf3ba6fa12217ce8f30dbd5cdf10ea20116223cd57e", func := "postroad/postroadlaw14.ClockAlone", spec := "clockAlone", inPlace := ["math/bits.Add64", "math/bits.Sub64"], unfollowed := true, recurses := true, named := ["math/bits.divideError", "math/bits.overflowError"], apart := false, narrowed := true }
def ClockAloneUptoSaid : Prop := clockAloneUptoRow.holds Try.pinned (OpenSpec.upto clockAloneSpec)

/-- 'postroadlaw14.ClockBound', WHERE WHAT IT READS IS OF BULK AT MOST 1048576: true; the input reads as it did. -/
def clockBoundUptoRow : OpenClaim := { program := "ytlipmhhndhhgdaa", sum := "05dbe1e6f34d369b624bedf3ba6fa12217ce8f30dbd5cdf10ea20116223cd57e", func := "postroad/postroadlaw14.ClockBound", spec := "clockBound", inPlace := ["math/bits.Add64", "math/bits.Sub64"], unfollowed := true, recurses := true, named := ["math/bits.divideError", "math/bits.overflowError"], apart := false, narrowed := true }
def ClockBoundUptoSaid : Prop := clockBoundUptoRow.holds Try.pinned (OpenSpec.upto clockBoundSpec)

/-- 'postroadlaw14.ClockFair', WHERE WHAT IT READS IS OF BULK AT MOST 1048576: true; the input reads as it did. -/
def clockFairUptoRow : OpenClaim := { program := "ytlipmhhndhhgdaa", sum := "05dbe1e6f34d369b624bedf3ba6fa12217ce8f30dbd5cdf10ea20116223cd57e", func := "postroad/postroadlaw14.ClockFair", spec := "clockFair", inPlace := ["math/bits.Add64", "math/bits.Sub64"], unfollowed := true, recurses := true, named := ["math/bits.divideError", "math/bits.overflowError"], apart := false, narrowed := true }
def ClockFairUptoSaid : Prop := clockFairUptoRow.holds Try.pinned (OpenSpec.upto clockFairSpec)

/-- 'postroadlaw11.HeapPlay', WHERE WHAT IT READS IS OF BULK AT MOST 1048576: true; the input reads as it did. -/
def heapPlayUptoRow : OpenClaim := { program := "ytlipmhhndhhgdaa", sum := "05dbe1e6f34d369b624bedf3ba6fa12217ce8f30dbd5cdf10ea20116223cd57e", func := "postroad/postroadlaw11.HeapPlay", spec := "heapPlay", unfollowed := true, recurses := true, apart := false, narrowed := true }
def HeapPlayUptoSaid : Prop := heapPlayUptoRow.holds Try.pinned (OpenSpec.upto heapPlaySpec)

/-- 'postroadlaw16.PortFirst', WHERE WHAT IT READS IS OF BULK AT MOST 1048576: true; the input reads as it did. -/
def portFirstUptoRow : OpenClaim := { program := "ytlipmhhndhhgdaa", sum := "05dbe1e6f34d369b624bedf3ba6fa12217ce8f30dbd5cdf10ea20116223cd57e", func := "postroad/postroadlaw16.PortFirst", spec := "portFirst", inPlace := ["math/bits.Add64", "math/bits.Sub64"], unfollowed := true, recurses := true, named := ["math/bits.divideError", "math/bits.overflowError"], apart := false, narrowed := true }
def PortFirstUptoSaid : Prop := portFirstUptoRow.holds Try.pinned (OpenSpec.upto portFirstSpec)

/-- 'postroadlaw11.HeapCopies', WHERE WHAT IT READS IS OF BULK AT MOST 1048576: true; the input reads as it did. -/
def heapCopiesUptoRow : OpenClaim := { program := "ytlipmhhndhhgdaa", sum := "05dbe1e6f34d369b624bedf3ba6fa12217ce8f30dbd5cdf10ea20116223cd57e", func := "postroad/postroadlaw11.HeapCopies", spec := "heapCopies", inPlace := ["maps.clone"], unfollowed := true, recurses := true, apart := false, narrowed := true }
def HeapCopiesUptoSaid : Prop := heapCopiesUptoRow.holds Try.pinned (OpenSpec.upto heapCopiesSpec)

/-- 'postroadlaw11.HeapNil', WHERE WHAT IT READS IS OF BULK AT MOST 1048576: true; the input reads as it did. -/
def heapNilUptoRow : OpenClaim := { program := "ytlipmhhndhhgdaa", sum := "05dbe1e6f34d369b624bedf3ba6fa12217ce8f30dbd5cdf10ea20116223cd57e", func := "postroad/postroadlaw11.HeapNil", spec := "heapNil", inPlace := ["maps.clone"], unfollowed := true, recurses := true, apart := false, narrowed := true }
def HeapNilUptoSaid : Prop := heapNilUptoRow.holds Try.pinned (OpenSpec.upto heapNilSpec)

end Rows
end Go.Proofs.Ytlipmhhndhhgdaa
