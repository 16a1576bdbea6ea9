/-
  No cell of these rows narrows 'for every input' (looked for: loops, veiled, ifaces, maps, wideKeys, modest, calm, conditions, laid).
  DERIVED. THE GIVEN ROWS OF THIS SEAT. 11 by the template 'for every input the law returns true; each argument reads behind the call as it read before'; 0 by the template 'total and deterministic' (their statements: YtedcolbbbohbaaaTotals.lean).
  GIVEN WITH THE SEED: the statements are not yours to turn. If you find one false, say at which input.
  Laid BY PROGRAM, IN A SANDBOX (cutbox-rows.mjs): the forced cells as the released guide's own fill.sh prints them over the translation 53a4503e4a6c0c1d… (all of the seat's roots in one cut). By AI agents, Wed Nov 11 2026. No macro, syntax, notation, axiom, sorry.
-/
import Derived.Test.YtedcolbbbohbaaaChecked
import GoSem.Claim
import GoSem.ClaimJoined
import GoSem.ClaimMapViews
import Derived.JoinedTies
import Derived.KernelRfl
namespace Go.Proofs.Ytedcolbbbohbaaa
/- THE CELL 'sum', in the pinned program and in every row, IS THE sha256 OF THE DUMP (.gsa) THAT YtedcolbbbohbaaaProg.lean LOADS. Nothing in Lean hashes anything: it is a label: what it is worth is what the hold of that sum in a sandbox is worth. -/
noncomputable def Try.pinned : Pinned := { name := "ytedcolbbbohbaaa", sum := "53a4503e4a6c0c1d2ebf80f350a2d3282437f0ebd0ba356a566b829105f47437", checked := Try.checked }
namespace Rows
def none {H : Type} : Left H := { results := [], args := [] }

/-- 'laws.FnExactViewGrows': WHATEVER THE INPUT: true; the input reads as it did. -/
def fnExactViewGrowsSpec : ChangeSpec := { name := "fnExactViewGrows", fn := fun _ => fun
  | [d1, d2] => { results := [.lit (.bool true)], args := [d1, d2] }
  | _ => none }
def fnExactViewGrowsRow : OpenClaim := { program := "ytedcolbbbohbaaa", sum := "53a4503e4a6c0c1d2ebf80f350a2d3282437f0ebd0ba356a566b829105f47437", func := "loop.example/feedswarm/laws.FnExactViewGrows", spec := "fnExactViewGrows", unfollowed := true, recurses := true, apart := false }
def FnExactViewGrowsSaid : Prop := fnExactViewGrowsRow.holds Try.pinned (OpenSpec.ofChange fnExactViewGrowsSpec)

/-- ITS FALSE NEIGHBOUR: 'it returns false'. Refute it at one input. -/
def fnExactViewGrowsWrong : ChangeSpec := { name := "fnExactViewGrows", fn := fun _ => fun
  | [d1, d2] => { results := [.lit (.bool false)], args := [d1, d2] }
  | _ => none }
def FnExactViewGrowsWrongFalsely : Prop := fnExactViewGrowsRow.holds Try.pinned (OpenSpec.ofChange fnExactViewGrowsWrong)

/-- 'laws.FnViewKeptSame': WHATEVER THE INPUT: true; the input reads as it did. -/
def fnViewKeptSameSpec : ChangeSpec := { name := "fnViewKeptSame", fn := fun _ => fun
  | [d] => { results := [.lit (.bool true)], args := [d] }
  | _ => none }
def fnViewKeptSameRow : OpenClaim := { program := "ytedcolbbbohbaaa", sum := "53a4503e4a6c0c1d2ebf80f350a2d3282437f0ebd0ba356a566b829105f47437", func := "loop.example/feedswarm/laws.FnViewKeptSame", spec := "fnViewKeptSame", unfollowed := true, recurses := true, apart := false }
def FnViewKeptSameSaid : Prop := fnViewKeptSameRow.holds Try.pinned (OpenSpec.ofChange fnViewKeptSameSpec)

/-- ITS FALSE NEIGHBOUR: 'it returns false'. Refute it at one input. -/
def fnViewKeptSameWrong : ChangeSpec := { name := "fnViewKeptSame", fn := fun _ => fun
  | [d] => { results := [.lit (.bool false)], args := [d] }
  | _ => none }
def FnViewKeptSameWrongFalsely : Prop := fnViewKeptSameRow.holds Try.pinned (OpenSpec.ofChange fnViewKeptSameWrong)

/-- 'laws.FnViewEmpty': WHATEVER THE INPUT: true; the input reads as it did. -/
def fnViewEmptySpec : ChangeSpec := { name := "fnViewEmpty", fn := fun _ => fun
  | [d] => { results := [.lit (.bool true)], args := [d] }
  | _ => none }
def fnViewEmptyRow : OpenClaim := { program := "ytedcolbbbohbaaa", sum := "53a4503e4a6c0c1d2ebf80f350a2d3282437f0ebd0ba356a566b829105f47437", func := "loop.example/feedswarm/laws.FnViewEmpty", spec := "fnViewEmpty", unfollowed := true, recurses := true, apart := false }
def FnViewEmptySaid : Prop := fnViewEmptyRow.holds Try.pinned (OpenSpec.ofChange fnViewEmptySpec)

/-- ITS FALSE NEIGHBOUR: 'it returns false'. Refute it at one input. -/
def fnViewEmptyWrong : ChangeSpec := { name := "fnViewEmpty", fn := fun _ => fun
  | [d] => { results := [.lit (.bool false)], args := [d] }
  | _ => none }
def FnViewEmptyWrongFalsely : Prop := fnViewEmptyRow.holds Try.pinned (OpenSpec.ofChange fnViewEmptyWrong)

/-- 'laws.FnViewSize': WHATEVER THE INPUT: true; the input reads as it did. -/
def fnViewSizeSpec : ChangeSpec := { name := "fnViewSize", fn := fun _ => fun
  | [d] => { results := [.lit (.bool true)], args := [d] }
  | _ => none }
def fnViewSizeRow : OpenClaim := { program := "ytedcolbbbohbaaa", sum := "53a4503e4a6c0c1d2ebf80f350a2d3282437f0ebd0ba356a566b829105f47437", func := "loop.example/feedswarm/laws.FnViewSize", spec := "fnViewSize", unfollowed := true, recurses := true, apart := false }
def FnViewSizeSaid : Prop := fnViewSizeRow.holds Try.pinned (OpenSpec.ofChange fnViewSizeSpec)

/-- ITS FALSE NEIGHBOUR: 'it returns false'. Refute it at one input. -/
def fnViewSizeWrong : ChangeSpec := { name := "fnViewSize", fn := fun _ => fun
  | [d] => { results := [.lit (.bool false)], args := [d] }
  | _ => none }
def FnViewSizeWrongFalsely : Prop := fnViewSizeRow.holds Try.pinned (OpenSpec.ofChange fnViewSizeWrong)

/-- 'laws.FnViewAt': WHATEVER THE INPUT: true; the input reads as it did. -/
def fnViewAtSpec : ChangeSpec := { name := "fnViewAt", fn := fun _ => fun
  | [d] => { results := [.lit (.bool true)], args := [d] }
  | _ => none }
def fnViewAtRow : OpenClaim := { program := "ytedcolbbbohbaaa", sum := "53a4503e4a6c0c1d2ebf80f350a2d3282437f0ebd0ba356a566b829105f47437", func := "loop.example/feedswarm/laws.FnViewAt", spec := "fnViewAt", unfollowed := true, recurses := true, apart := false }
def FnViewAtSaid : Prop := fnViewAtRow.holds Try.pinned (OpenSpec.ofChange fnViewAtSpec)

/-- ITS FALSE NEIGHBOUR: 'it returns false'. Refute it at one input. -/
def fnViewAtWrong : ChangeSpec := { name := "fnViewAt", fn := fun _ => fun
  | [d] => { results := [.lit (.bool false)], args := [d] }
  | _ => none }
def FnViewAtWrongFalsely : Prop := fnViewAtRow.holds Try.pinned (OpenSpec.ofChange fnViewAtWrong)

/-- 'laws.FnViewNext': WHATEVER THE INPUT: true; the input reads as it did. -/
def fnViewNextSpec : ChangeSpec := { name := "fnViewNext", fn := fun _ => fun
  | [d] => { results := [.lit (.bool true)], args := [d] }
  | _ => none }
def fnViewNextRow : OpenClaim := { program := "ytedcolbbbohbaaa", sum := "53a4503e4a6c0c1d2ebf80f350a2d3282437f0ebd0ba356a566b829105f47437", func := "loop.example/feedswarm/laws.FnViewNext", spec := "fnViewNext", unfollowed := true, recurses := true, apart := false }
def FnViewNextSaid : Prop := fnViewNextRow.holds Try.pinned (OpenSpec.ofChange fnViewNextSpec)

/-- ITS FALSE NEIGHBOUR: 'it returns false'. Refute it at one input. -/
def fnViewNextWrong : ChangeSpec := { name := "fnViewNext", fn := fun _ => fun
  | [d] => { results := [.lit (.bool false)], args := [d] }
  | _ => none }
def FnViewNextWrongFalsely : Prop := fnViewNextRow.holds Try.pinned (OpenSpec.ofChange fnViewNextWrong)

/-- 'laws.FnExactViewKept': WHATEVER THE INPUT: true; the input reads as it did. -/
def fnExactViewKeptSpec : ChangeSpec := { name := "fnExactViewKept", fn := fun _ => fun
  | [d1, d2] => { results := [.lit (.bool true)], args := [d1, d2] }
  | _ => none }
def fnExactViewKeptRow : OpenClaim := { program := "ytedcolbbbohbaaa", sum := "53a4503e4a6c0c1d2ebf80f350a2d3282437f0ebd0ba356a566b829105f47437", func := "loop.example/feedswarm/laws.FnExactViewKept", spec := "fnExactViewKept", unfollowed := true, recurses := true, apart := false }
def FnExactViewKeptSaid : Prop := fnExactViewKeptRow.holds Try.pinned (OpenSpec.ofChange fnExactViewKeptSpec)

/-- ITS FALSE NEIGHBOUR: 'it returns false'. Refute it at one input. -/
def fnExactViewKeptWrong : ChangeSpec := { name := "fnExactViewKept", fn := fun _ => fun
  | [d1, d2] => { results := [.lit (.bool false)], args := [d1, d2] }
  | _ => none }
def FnExactViewKeptWrongFalsely : Prop := fnExactViewKeptRow.holds Try.pinned (OpenSpec.ofChange fnExactViewKeptWrong)

/-- 'laws.FnViewKeptMost': WHATEVER THE INPUT: true; the input reads as it did. -/
def fnViewKeptMostSpec : ChangeSpec := { name := "fnViewKeptMost", fn := fun _ => fun
  | [d] => { results := [.lit (.bool true)], args := [d] }
  | _ => none }
def fnViewKeptMostRow : OpenClaim := { program := "ytedcolbbbohbaaa", sum := "53a4503e4a6c0c1d2ebf80f350a2d3282437f0ebd0ba356a566b829105f47437", func := "loop.example/feedswarm/laws.FnViewKeptMost", spec := "fnViewKeptMost", unfollowed := true, recurses := true, apart := false }
def FnViewKeptMostSaid : Prop := fnViewKeptMostRow.holds Try.pinned (OpenSpec.ofChange fnViewKeptMostSpec)

/-- ITS FALSE NEIGHBOUR: 'it returns false'. Refute it at one input. -/
def fnViewKeptMostWrong : ChangeSpec := { name := "fnViewKeptMost", fn := fun _ => fun
  | [d] => { results := [.lit (.bool false)], args := [d] }
  | _ => none }
def FnViewKeptMostWrongFalsely : Prop := fnViewKeptMostRow.holds Try.pinned (OpenSpec.ofChange fnViewKeptMostWrong)

/-- 'laws.FnViewKeptStable': WHATEVER THE INPUT: true; the input reads as it did. -/
def fnViewKeptStableSpec : ChangeSpec := { name := "fnViewKeptStable", fn := fun _ => fun
  | [d] => { results := [.lit (.bool true)], args := [d] }
  | _ => none }
def fnViewKeptStableRow : OpenClaim := { program := "ytedcolbbbohbaaa", sum := "53a4503e4a6c0c1d2ebf80f350a2d3282437f0ebd0ba356a566b829105f47437", func := "loop.example/feedswarm/laws.FnViewKeptStable", spec := "fnViewKeptStable", unfollowed := true, recurses := true, apart := false }
def FnViewKeptStableSaid : Prop := fnViewKeptStableRow.holds Try.pinned (OpenSpec.ofChange fnViewKeptStableSpec)

/-- ITS FALSE NEIGHBOUR: 'it returns false'. Refute it at one input. -/
def fnViewKeptStableWrong : ChangeSpec := { name := "fnViewKeptStable", fn := fun _ => fun
  | [d] => { results := [.lit (.bool false)], args := [d] }
  | _ => none }
def FnViewKeptStableWrongFalsely : Prop := fnViewKeptStableRow.holds Try.pinned (OpenSpec.ofChange fnViewKeptStableWrong)

/-- 'laws.FnExactViewAt': WHATEVER THE INPUT: true; the input reads as it did. -/
def fnExactViewAtSpec : ChangeSpec := { name := "fnExactViewAt", fn := fun _ => fun
  | [d1, d2] => { results := [.lit (.bool true)], args := [d1, d2] }
  | _ => none }
def fnExactViewAtRow : OpenClaim := { program := "ytedcolbbbohbaaa", sum := "53a4503e4a6c0c1d2ebf80f350a2d3282437f0ebd0ba356a566b829105f47437", func := "loop.example/feedswarm/laws.FnExactViewAt", spec := "fnExactViewAt", unfollowed := true, recurses := true, apart := false }
def FnExactViewAtSaid : Prop := fnExactViewAtRow.holds Try.pinned (OpenSpec.ofChange fnExactViewAtSpec)

/-- ITS FALSE NEIGHBOUR: 'it returns false'. Refute it at one input. -/
def fnExactViewAtWrong : ChangeSpec := { name := "fnExactViewAt", fn := fun _ => fun
  | [d1, d2] => { results := [.lit (.bool false)], args := [d1, d2] }
  | _ => none }
def FnExactViewAtWrongFalsely : Prop := fnExactViewAtRow.holds Try.pinned (OpenSpec.ofChange fnExactViewAtWrong)

/-- 'laws.FnViewKept': WHATEVER THE INPUT: true; the input reads as it did. -/
def fnViewKeptSpec : ChangeSpec := { name := "fnViewKept", fn := fun _ => fun
  | [d] => { results := [.lit (.bool true)], args := [d] }
  | _ => none }
def fnViewKeptRow : OpenClaim := { program := "ytedcolbbbohbaaa", sum := "53a4503e4a6c0c1d2ebf80f350a2d3282437f0ebd0ba356a566b829105f47437", func := "loop.example/feedswarm/laws.FnViewKept", spec := "fnViewKept", unfollowed := true, recurses := true, apart := false }
def FnViewKeptSaid : Prop := fnViewKeptRow.holds Try.pinned (OpenSpec.ofChange fnViewKeptSpec)

/-- ITS FALSE NEIGHBOUR: 'it returns false'. Refute it at one input. -/
def fnViewKeptWrong : ChangeSpec := { name := "fnViewKept", fn := fun _ => fun
  | [d] => { results := [.lit (.bool false)], args := [d] }
  | _ => none }
def FnViewKeptWrongFalsely : Prop := fnViewKeptRow.holds Try.pinned (OpenSpec.ofChange fnViewKeptWrong)

/- THE SECOND FORM. 'bulk': how many values and letters a reading holds, each counted each time it is reached (what is shared counts as often as it is met; a slice's spare places count too). A statement '..UptoSaid' is the law's where the arguments, and the package variables that the reading takes, are together of bulk at most 1048576: NARROWER than '..Said'. Prove '..Said' where nothing that the law and all that it calls make is longer than what came in: it says more and counts as full. Else prove '..UptoSaid'. A law counts once. -/
mutual
def uptoBulk {H : Type} : DataW H → Nat
  | .lit (.string bytes) => bytes.length + 1
  | .lit _ => 1
  | .nil => 1
  | .ptr d => uptoBulk d + 1
  | .slice elems spare => uptoBulkAll elems + uptoBulkAll spare + 1
  | .agg parts => uptoBulkAll parts + 1
  | .iface _ d => uptoBulk d + 1
  | .map entries => uptoBulkEntries entries + 1
  | .held _ => 1
def uptoBulkAll {H : Type} : List (DataW H) → Nat
  | [] => 0
  | d :: r => uptoBulk d + uptoBulkAll r
def uptoBulkEntries {H : Type} : List (Lit × DataW H) → Nat
  | [] => 0
  | x :: r => uptoBulkEntry x + uptoBulkEntries r
def uptoBulkEntry {H : Type} : Lit × DataW H → Nat
  | (.string bytes, d) => bytes.length + uptoBulk d + 1
  | (_, d) => uptoBulk d + 1
 end
def uptoSmall : (H : Type) → List (DataW H) → Bool := fun _ ds => decide (uptoBulkAll ds ≤ 1048576)
def OpenSpec.upto (s : _root_.Go.ChangeSpec) : _root_.Go.OpenSpec := { _root_.Go.OpenSpec.ofChange s with cond := some uptoSmall }

/-- 'laws.FnExactViewGrows', WHERE WHAT IT READS IS OF BULK AT MOST 1048576: true; the input reads as it did. -/
def fnExactViewGrowsUptoRow : OpenClaim := { program := "ytedcolbbbohbaaa", sum := "53a4503e4a6c0c1d2ebf80f350a2d3282437f0ebd0ba356a566b829105f47437", func := "loop.example/feedswarm/laws.FnExactViewGrows", spec := "fnExactViewGrows", unfollowed := true, recurses := true, apart := false, narrowed := true }
def FnExactViewGrowsUptoSaid : Prop := fnExactViewGrowsUptoRow.holds Try.pinned (OpenSpec.upto fnExactViewGrowsSpec)

/-- 'laws.FnViewKeptSame', WHERE WHAT IT READS IS OF BULK AT MOST 1048576: true; the input reads as it did. -/
def fnViewKeptSameUptoRow : OpenClaim := { program := "ytedcolbbbohbaaa", sum := "53a4503e4a6c0c1d2ebf80f350a2d3282437f0ebd0ba356a566b829105f47437", func := "loop.example/feedswarm/laws.FnViewKeptSame", spec := "fnViewKeptSame", unfollowed := true, recurses := true, apart := false, narrowed := true }
def FnViewKeptSameUptoSaid : Prop := fnViewKeptSameUptoRow.holds Try.pinned (OpenSpec.upto fnViewKeptSameSpec)

/-- 'laws.FnViewEmpty', WHERE WHAT IT READS IS OF BULK AT MOST 1048576: true; the input reads as it did. -/
def fnViewEmptyUptoRow : OpenClaim := { program := "ytedcolbbbohbaaa", sum := "53a4503e4a6c0c1d2ebf80f350a2d3282437f0ebd0ba356a566b829105f47437", func := "loop.example/feedswarm/laws.FnViewEmpty", spec := "fnViewEmpty", unfollowed := true, recurses := true, apart := false, narrowed := true }
def FnViewEmptyUptoSaid : Prop := fnViewEmptyUptoRow.holds Try.pinned (OpenSpec.upto fnViewEmptySpec)

/-- 'laws.FnViewSize', WHERE WHAT IT READS IS OF BULK AT MOST 1048576: true; the input reads as it did. -/
def fnViewSizeUptoRow : OpenClaim := { program := "ytedcolbbbohbaaa", sum := "53a4503e4a6c0c1d2ebf80f350a2d3282437f0ebd0ba356a566b829105f47437", func := "loop.example/feedswarm/laws.FnViewSize", spec := "fnViewSize", unfollowed := true, recurses := true, apart := false, narrowed := true }
def FnViewSizeUptoSaid : Prop := fnViewSizeUptoRow.holds Try.pinned (OpenSpec.upto fnViewSizeSpec)

/-- 'laws.FnViewAt', WHERE WHAT IT READS IS OF BULK AT MOST 1048576: true; the input reads as it did. -/
def fnViewAtUptoRow : OpenClaim := { program := "ytedcolbbbohbaaa", sum := "53a4503e4a6c0c1d2ebf80f350a2d3282437f0ebd0ba356a566b829105f47437", func := "loop.example/feedswarm/laws.FnViewAt", spec := "fnViewAt", unfollowed := true, recurses := true, apart := false, narrowed := true }
def FnViewAtUptoSaid : Prop := fnViewAtUptoRow.holds Try.pinned (OpenSpec.upto fnViewAtSpec)

/-- 'laws.FnViewNext', WHERE WHAT IT READS IS OF BULK AT MOST 1048576: true; the input reads as it did. -/
def fnViewNextUptoRow : OpenClaim := { program := "ytedcolbbbohbaaa", sum := "53a4503e4a6c0c1d2ebf80f350a2d3282437f0ebd0ba356a566b829105f47437", func := "loop.example/feedswarm/laws.FnViewNext", spec := "fnViewNext", unfollowed := true, recurses := true, apart := false, narrowed := true }
def FnViewNextUptoSaid : Prop := fnViewNextUptoRow.holds Try.pinned (OpenSpec.upto fnViewNextSpec)

/-- 'laws.FnExactViewKept', WHERE WHAT IT READS IS OF BULK AT MOST 1048576: true; the input reads as it did. -/
def fnExactViewKeptUptoRow : OpenClaim := { program := "ytedcolbbbohbaaa", sum := "53a4503e4a6c0c1d2ebf80f350a2d3282437f0ebd0ba356a566b829105f47437", func := "loop.example/feedswarm/laws.FnExactViewKept", spec := "fnExactViewKept", unfollowed := true, recurses := true, apart := false, narrowed := true }
def FnExactViewKeptUptoSaid : Prop := fnExactViewKeptUptoRow.holds Try.pinned (OpenSpec.upto fnExactViewKeptSpec)

/-- 'laws.FnViewKeptMost', WHERE WHAT IT READS IS OF BULK AT MOST 1048576: true; the input reads as it did. -/
def fnViewKeptMostUptoRow : OpenClaim := { program := "ytedcolbbbohbaaa", sum := "53a4503e4a6c0c1d2ebf80f350a2d3282437f0ebd0ba356a566b829105f47437", func := "loop.example/feedswarm/laws.FnViewKeptMost", spec := "fnViewKeptMost", unfollowed := true, recurses := true, apart := false, narrowed := true }
def FnViewKeptMostUptoSaid : Prop := fnViewKeptMostUptoRow.holds Try.pinned (OpenSpec.upto fnViewKeptMostSpec)

/-- 'laws.FnViewKeptStable', WHERE WHAT IT READS IS OF BULK AT MOST 1048576: true; the input reads as it did. -/
def fnViewKeptStableUptoRow : OpenClaim := { program := "ytedcolbbbohbaaa", sum := "53a4503e4a6c0c1d2ebf80f350a2d3282437f0ebd0ba356a566b829105f47437", func := "loop.example/feedswarm/laws.FnViewKeptStable", spec := "fnViewKeptStable", unfollowed := true, recurses := true, apart := false, narrowed := true }
def FnViewKeptStableUptoSaid : Prop := fnViewKeptStableUptoRow.holds Try.pinned (OpenSpec.upto fnViewKeptStableSpec)

/-- 'laws.FnExactViewAt', WHERE WHAT IT READS IS OF BULK AT MOST 1048576: true; the input reads as it did. -/
def fnExactViewAtUptoRow : OpenClaim := { program := "ytedcolbbbohbaaa", sum := "53a4503e4a6c0c1d2ebf80f350a2d3282437f0ebd0ba356a566b829105f47437", func := "loop.example/feedswarm/laws.FnExactViewAt", spec := "fnExactViewAt", unfollowed := true, recurses := true, apart := false, narrowed := true }
def FnExactViewAtUptoSaid : Prop := fnExactViewAtUptoRow.holds Try.pinned (OpenSpec.upto fnExactViewAtSpec)

/-- 'laws.FnViewKept', WHERE WHAT IT READS IS OF BULK AT MOST 1048576: true; the input reads as it did. -/
def fnViewKeptUptoRow : OpenClaim := { program := "ytedcolbbbohbaaa", sum := "53a4503e4a6c0c1d2ebf80f350a2d3282437f0ebd0ba356a566b829105f47437", func := "loop.example/feedswarm/laws.FnViewKept", spec := "fnViewKept", unfollowed := true, recurses := true, apart := false, narrowed := true }
def FnViewKeptUptoSaid : Prop := fnViewKeptUptoRow.holds Try.pinned (OpenSpec.upto fnViewKeptSpec)

end Rows
end Go.Proofs.Ytedcolbbbohbaaa
