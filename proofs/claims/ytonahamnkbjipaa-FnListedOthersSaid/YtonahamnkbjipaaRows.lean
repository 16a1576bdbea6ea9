/-
  No cell of these rows narrows 'for every input' (looked for: loops, veiled, ifaces, maps, wideKeys, modest, calm, conditions, laid).
  DERIVED. THE GIVEN ROWS OF THIS SEAT. 6 by the template 'for every input the law returns true; each argument reads behind the call as it read before'; 0 by the template 'total and deterministic' (their statements: YtonahamnkbjipaaTotals.lean).
  GIVEN WITH THE SEED: the statements are not yours to turn. If you find one false, say at which input.
  Laid BY PROGRAM, IN A SANDBOX (cutbox-rows.mjs): the forced cells as the released guide's own fill.sh prints them over the translation ff1b5002d8c789a2… (all of the seat's roots in one cut). By AI agents, Wed Nov 11 2026. No macro, syntax, notation, axiom, sorry.
-/
import Derived.Test.YtonahamnkbjipaaChecked
import GoSem.Claim
import GoSem.ClaimJoined
import GoSem.ClaimMapViews
import Derived.JoinedTies
import Derived.KernelRfl
namespace Go.Proofs.Ytonahamnkbjipaa
/- THE CELL 'sum', in the pinned program and in every row, IS THE sha256 OF THE DUMP (.gsa) THAT YtonahamnkbjipaaProg.lean LOADS. Nothing in Lean hashes anything: it is a label: what it is worth is what the hold of that sum in a sandbox is worth. -/
noncomputable def Try.pinned : Pinned := { name := "ytonahamnkbjipaa", sum := "ff1b5002d8c789a20acf548638bb95cb44358d7e833be1d45b7a25b36199a6c8", checked := Try.checked }
namespace Rows
def none {H : Type} : Left H := { results := [], args := [] }

/-- 'laws.FnListedFull': WHATEVER THE INPUT: true; the input reads as it did. -/
def fnListedFullSpec : ChangeSpec := { name := "fnListedFull", fn := fun _ => fun
  | [d] => { results := [.lit (.bool true)], args := [d] }
  | _ => none }
def fnListedFullRow : OpenClaim := { program := "ytonahamnkbjipaa", sum := "ff1b5002d8c789a20acf548638bb95cb44358d7e833be1d45b7a25b36199a6c8", func := "loop.example/feedswarm/laws.FnListedFull", spec := "fnListedFull", inPlace := ["slices.overlaps[loop.example/feedswarm/impl.Listed]"], unfollowed := true, recurses := true, apart := false }
def FnListedFullSaid : Prop := fnListedFullRow.holds Try.pinned (OpenSpec.ofChange fnListedFullSpec)

/-- ITS FALSE NEIGHBOUR: 'it returns false'. Refute it at one input. -/
def fnListedFullWrong : ChangeSpec := { name := "fnListedFull", fn := fun _ => fun
  | [d] => { results := [.lit (.bool false)], args := [d] }
  | _ => none }
def FnListedFullWrongFalsely : Prop := fnListedFullRow.holds Try.pinned (OpenSpec.ofChange fnListedFullWrong)

/-- 'laws.FnListedSize': WHATEVER THE INPUT: true; the input reads as it did. -/
def fnListedSizeSpec : ChangeSpec := { name := "fnListedSize", fn := fun _ => fun
  | [d] => { results := [.lit (.bool true)], args := [d] }
  | _ => none }
def fnListedSizeRow : OpenClaim := { program := "ytonahamnkbjipaa", sum := "ff1b5002d8c789a20acf548638bb95cb44358d7e833be1d45b7a25b36199a6c8", func := "loop.example/feedswarm/laws.FnListedSize", spec := "fnListedSize", inPlace := ["slices.overlaps[loop.example/feedswarm/impl.Listed]"], unfollowed := true, recurses := true, apart := false }
def FnListedSizeSaid : Prop := fnListedSizeRow.holds Try.pinned (OpenSpec.ofChange fnListedSizeSpec)

/-- ITS FALSE NEIGHBOUR: 'it returns false'. Refute it at one input. -/
def fnListedSizeWrong : ChangeSpec := { name := "fnListedSize", fn := fun _ => fun
  | [d] => { results := [.lit (.bool false)], args := [d] }
  | _ => none }
def FnListedSizeWrongFalsely : Prop := fnListedSizeRow.holds Try.pinned (OpenSpec.ofChange fnListedSizeWrong)

/-- 'laws.FnListedTwice': WHATEVER THE INPUT: true; the input reads as it did. -/
def fnListedTwiceSpec : ChangeSpec := { name := "fnListedTwice", fn := fun _ => fun
  | [d] => { results := [.lit (.bool true)], args := [d] }
  | _ => none }
def fnListedTwiceRow : OpenClaim := { program := "ytonahamnkbjipaa", sum := "ff1b5002d8c789a20acf548638bb95cb44358d7e833be1d45b7a25b36199a6c8", func := "loop.example/feedswarm/laws.FnListedTwice", spec := "fnListedTwice", inPlace := ["slices.overlaps[loop.example/feedswarm/impl.Listed]"], unfollowed := true, recurses := true, apart := false }
def FnListedTwiceSaid : Prop := fnListedTwiceRow.holds Try.pinned (OpenSpec.ofChange fnListedTwiceSpec)

/-- ITS FALSE NEIGHBOUR: 'it returns false'. Refute it at one input. -/
def fnListedTwiceWrong : ChangeSpec := { name := "fnListedTwice", fn := fun _ => fun
  | [d] => { results := [.lit (.bool false)], args := [d] }
  | _ => none }
def FnListedTwiceWrongFalsely : Prop := fnListedTwiceRow.holds Try.pinned (OpenSpec.ofChange fnListedTwiceWrong)

/-- 'laws.FnExactDirectoryPut': WHATEVER THE INPUT: true; the input reads as it did. -/
def fnExactDirectoryPutSpec : ChangeSpec := { name := "fnExactDirectoryPut", fn := fun _ => fun
  | [d1, d2, d3] => { results := [.lit (.bool true)], args := [d1, d2, d3] }
  | _ => none }
def fnExactDirectoryPutRow : OpenClaim := { program := "ytonahamnkbjipaa", sum := "ff1b5002d8c789a20acf548638bb95cb44358d7e833be1d45b7a25b36199a6c8", func := "loop.example/feedswarm/laws.FnExactDirectoryPut", spec := "fnExactDirectoryPut", inPlace := ["slices.overlaps[loop.example/feedswarm/impl.Listed]"], unfollowed := true, recurses := true, apart := false }
def FnExactDirectoryPutSaid : Prop := fnExactDirectoryPutRow.holds Try.pinned (OpenSpec.ofChange fnExactDirectoryPutSpec)

/-- ITS FALSE NEIGHBOUR: 'it returns false'. Refute it at one input. -/
def fnExactDirectoryPutWrong : ChangeSpec := { name := "fnExactDirectoryPut", fn := fun _ => fun
  | [d1, d2, d3] => { results := [.lit (.bool false)], args := [d1, d2, d3] }
  | _ => none }
def FnExactDirectoryPutWrongFalsely : Prop := fnExactDirectoryPutRow.holds Try.pinned (OpenSpec.ofChange fnExactDirectoryPutWrong)

/-- 'laws.FnListed': WHATEVER THE INPUT: true; the input reads as it did. -/
def fnListedSpec : ChangeSpec := { name := "fnListed", fn := fun _ => fun
  | [d] => { results := [.lit (.bool true)], args := [d] }
  | _ => none }
def fnListedRow : OpenClaim := { program := "ytonahamnkbjipaa", sum := "ff1b5002d8c789a20acf548638bb95cb44358d7e833be1d45b7a25b36199a6c8", func := "loop.example/feedswarm/laws.FnListed", spec := "fnListed", inPlace := ["slices.overlaps[loop.example/feedswarm/impl.Listed]"], unfollowed := true, recurses := true, apart := false }
def FnListedSaid : Prop := fnListedRow.holds Try.pinned (OpenSpec.ofChange fnListedSpec)

/-- ITS FALSE NEIGHBOUR: 'it returns false'. Refute it at one input. -/
def fnListedWrong : ChangeSpec := { name := "fnListed", fn := fun _ => fun
  | [d] => { results := [.lit (.bool false)], args := [d] }
  | _ => none }
def FnListedWrongFalsely : Prop := fnListedRow.holds Try.pinned (OpenSpec.ofChange fnListedWrong)

/-- 'laws.FnListedOthers': WHATEVER THE INPUT: true; the input reads as it did. -/
def fnListedOthersSpec : ChangeSpec := { name := "fnListedOthers", fn := fun _ => fun
  | [d] => { results := [.lit (.bool true)], args := [d] }
  | _ => none }
def fnListedOthersRow : OpenClaim := { program := "ytonahamnkbjipaa", sum := "ff1b5002d8c789a20acf548638bb95cb44358d7e833be1d45b7a25b36199a6c8", func := "loop.example/feedswarm/laws.FnListedOthers", spec := "fnListedOthers", inPlace := ["slices.overlaps[loop.example/feedswarm/impl.Listed]"], unfollowed := true, recurses := true, apart := false }
def FnListedOthersSaid : Prop := fnListedOthersRow.holds Try.pinned (OpenSpec.ofChange fnListedOthersSpec)

/-- ITS FALSE NEIGHBOUR: 'it returns false'. Refute it at one input. -/
def fnListedOthersWrong : ChangeSpec := { name := "fnListedOthers", fn := fun _ => fun
  | [d] => { results := [.lit (.bool false)], args := [d] }
  | _ => none }
def FnListedOthersWrongFalsely : Prop := fnListedOthersRow.holds Try.pinned (OpenSpec.ofChange fnListedOthersWrong)

/- THE SECOND FORM. 'bulk': how many values and letters a reading holds, each counted each time it is reached (what is shared counts as often as it is met; a slice's spare places count too). A statement '..UptoSaid' is the law's where the arguments, and the package variables that the reading takes, are together of bulk at most 1048576: NARROWER than '..Said'. Prove '..Said' where nothing that the law and all that it calls make is longer than what came in: it says more and counts as full. Else prove '..UptoSaid'. A law counts once. -/
mutual
def uptoBulk {H : Type} : DataW H → Nat
  | .lit (.string bytes) => bytes.length + 1
  | .lit _ => 1
  | .nil => 1
  | .ptr d => uptoBulk d + 1
  | .slice elems spare => uptoBulkAll elems + uptoBulkAll spare + 1
  | .agg parts => uptoBulkAll parts + 1
  | .iface _ d => uptoBulk d + 1
  | .map entries => uptoBulkEntries entries + 1
  | .held _ => 1
def uptoBulkAll {H : Type} : List (DataW H) → Nat
  | [] => 0
  | d :: r => uptoBulk d + uptoBulkAll r
def uptoBulkEntries {H : Type} : List (Lit × DataW H) → Nat
  | [] => 0
  | x :: r => uptoBulkEntry x + uptoBulkEntries r
def uptoBulkEntry {H : Type} : Lit × DataW H → Nat
  | (.string bytes, d) => bytes.length + uptoBulk d + 1
  | (_, d) => uptoBulk d + 1
 end
def uptoSmall : (H : Type) → List (DataW H) → Bool := fun _ ds => decide (uptoBulkAll ds ≤ 1048576)
def OpenSpec.upto (s : _root_.Go.ChangeSpec) : _root_.Go.OpenSpec := { _root_.Go.OpenSpec.ofChange s with cond := some uptoSmall }

/-- 'laws.FnListedFull', WHERE WHAT IT READS IS OF BULK AT MOST 1048576: true; the input reads as it did. -/
def fnListedFullUptoRow : OpenClaim := { program := "ytonahamnkbjipaa", sum := "ff1b5002d8c789a20acf548638bb95cb44358d7e833be1d45b7a25b36199a6c8", func := "loop.example/feedswarm/laws.FnListedFull", spec := "fnListedFull", inPlace := ["slices.overlaps[loop.example/feedswarm/impl.Listed]"], unfollowed := true, recurses := true, apart := false, narrowed := true }
def FnListedFullUptoSaid : Prop := fnListedFullUptoRow.holds Try.pinned (OpenSpec.upto fnListedFullSpec)

/-- 'laws.FnListedSize', WHERE WHAT IT READS IS OF BULK AT MOST 1048576: true; the input reads as it did. -/
def fnListedSizeUptoRow : OpenClaim := { program := "ytonahamnkbjipaa", sum := "ff1b5002d8c789a20acf548638bb95cb44358d7e833be1d45b7a25b36199a6c8", func := "loop.example/feedswarm/laws.FnListedSize", spec := "fnListedSize", inPlace := ["slices.overlaps[loop.example/feedswarm/impl.Listed]"], unfollowed := true, recurses := true, apart := false, narrowed := true }
def FnListedSizeUptoSaid : Prop := fnListedSizeUptoRow.holds Try.pinned (OpenSpec.upto fnListedSizeSpec)

/-- 'laws.FnListedTwice', WHERE WHAT IT READS IS OF BULK AT MOST 1048576: true; the input reads as it did. -/
def fnListedTwiceUptoRow : OpenClaim := { program := "ytonahamnkbjipaa", sum := "ff1b5002d8c789a20acf548638bb95cb44358d7e833be1d45b7a25b36199a6c8", func := "loop.example/feedswarm/laws.FnListedTwice", spec := "fnListedTwice", inPlace := ["slices.overlaps[loop.example/feedswarm/impl.Listed]"], unfollowed := true, recurses := true, apart := false, narrowed := true }
def FnListedTwiceUptoSaid : Prop := fnListedTwiceUptoRow.holds Try.pinned (OpenSpec.upto fnListedTwiceSpec)

/-- 'laws.FnExactDirectoryPut', WHERE WHAT IT READS IS OF BULK AT MOST 1048576: true; the input reads as it did. -/
def fnExactDirectoryPutUptoRow : OpenClaim := { program := "ytonahamnkbjipaa", sum := "ff1b5002d8c789a20acf548638bb95cb44358d7e833be1d45b7a25b36199a6c8", func := "loop.example/feedswarm/laws.FnExactDirectoryPut", spec := "fnExactDirectoryPut", inPlace := ["slices.overlaps[loop.example/feedswarm/impl.Listed]"], unfollowed := true, recurses := true, apart := false, narrowed := true }
def FnExactDirectoryPutUptoSaid : Prop := fnExactDirectoryPutUptoRow.holds Try.pinned (OpenSpec.upto fnExactDirectoryPutSpec)

/-- 'laws.FnListed', WHERE WHAT IT READS IS OF BULK AT MOST 1048576: true; the input reads as it did. -/
def fnListedUptoRow : OpenClaim := { program := "ytonahamnkbjipaa", sum := "ff1b5002d8c789a20acf548638bb95cb44358d7e833be1d45b7a25b36199a6c8", func := "loop.example/feedswarm/laws.FnListed", spec := "fnListed", inPlace := ["slices.overlaps[loop.example/feedswarm/impl.Listed]"], unfollowed := true, recurses := true, apart := false, narrowed := true }
def FnListedUptoSaid : Prop := fnListedUptoRow.holds Try.pinned (OpenSpec.upto fnListedSpec)

/-- 'laws.FnListedOthers', WHERE WHAT IT READS IS OF BULK AT MOST 1048576: true; the input reads as it did. -/
def fnListedOthersUptoRow : OpenClaim := { program := "ytonahamnkbjipaa", sum := "ff1b5002d8c789a20acf548638bb95cb44358d7e833be1d45b7a25b36199a6c8", func := "loop.example/feedswarm/laws.FnListedOthers", spec := "fnListedOthers", inPlace := ["slices.overlaps[loop.example/feedswarm/impl.Listed]"], unfollowed := true, recurses := true, apart := false, narrowed := true }
def FnListedOthersUptoSaid : Prop := fnListedOthersUptoRow.holds Try.pinned (OpenSpec.upto fnListedOthersSpec)

end Rows
end Go.Proofs.Ytonahamnkbjipaa
