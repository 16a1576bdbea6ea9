/-
  No cell of these rows narrows 'for every input' (looked for: loops, veiled, ifaces, maps, wideKeys, modest, calm, conditions, laid).
  DERIVED. THE GIVEN ROWS OF THIS SEAT. 8 by the template 'for every input the law returns true; each argument reads behind the call as it read before'; 0 by the template 'total and deterministic' (their statements: YthnepmhkeceadaaTotals.lean).
  GIVEN WITH THE SEED: the statements are not yours to turn. If you find one false, say at which input.
  Laid BY PROGRAM, IN A SANDBOX (cutbox-rows.mjs): the forced cells as the released guide's own fill.sh prints them over the translation 457f490604d2fbe9… (all of the seat's roots in one cut). By AI agents, Wed Nov 11 2026. No macro, syntax, notation, axiom, sorry.
-/
import Derived.Test.YthnepmhkeceadaaChecked
import GoSem.Claim
import GoSem.ClaimJoined
import GoSem.ClaimMapViews
import Derived.JoinedTies
import Derived.KernelRfl
namespace Go.Proofs.Ythnepmhkeceadaa
/- THE CELL 'sum', in the pinned program and in every row, IS THE sha256 OF THE DUMP (.gsa) THAT YthnepmhkeceadaaProg.lean LOADS. Nothing in Lean hashes anything: it is a label: what it is worth is what the hold of that sum in a sandbox is worth. -/
noncomputable def Try.pinned : Pinned := { name := "ythnepmhkeceadaa", sum := "457f490604d2fbe9c04ceb7052abdbf3dbf75961e6cf760150936f78dc135e0a", checked := Try.checked }
namespace Rows
def none {H : Type} : Left H := { results := [], args := [] }

/-- 'laws.FnAppend': WHATEVER THE INPUT: true; the input reads as it did. -/
def fnAppendSpec : ChangeSpec := { name := "fnAppend", fn := fun _ => fun
  | [d] => { results := [.lit (.bool true)], args := [d] }
  | _ => none }
def fnAppendRow : OpenClaim := { program := "ythnepmhkeceadaa", sum := "457f490604d2fbe9c04ceb7052abdbf3dbf75961e6cf760150936f78dc135e0a", func := "loop.example/feedswarm/laws.FnAppend", spec := "fnAppend", apart := false }
def FnAppendSaid : Prop := fnAppendRow.holds Try.pinned (OpenSpec.ofChange fnAppendSpec)

/-- ITS FALSE NEIGHBOUR: 'it returns false'. Refute it at one input. -/
def fnAppendWrong : ChangeSpec := { name := "fnAppend", fn := fun _ => fun
  | [d] => { results := [.lit (.bool false)], args := [d] }
  | _ => none }
def FnAppendWrongFalsely : Prop := fnAppendRow.holds Try.pinned (OpenSpec.ofChange fnAppendWrong)

/-- 'laws.FnAppendKnows': WHATEVER THE INPUT: true; the input reads as it did. -/
def fnAppendKnowsSpec : ChangeSpec := { name := "fnAppendKnows", fn := fun _ => fun
  | [d] => { results := [.lit (.bool true)], args := [d] }
  | _ => none }
def fnAppendKnowsRow : OpenClaim := { program := "ythnepmhkeceadaa", sum := "457f490604d2fbe9c04ceb7052abdbf3dbf75961e6cf760150936f78dc135e0a", func := "loop.example/feedswarm/laws.FnAppendKnows", spec := "fnAppendKnows", apart := false }
def FnAppendKnowsSaid : Prop := fnAppendKnowsRow.holds Try.pinned (OpenSpec.ofChange fnAppendKnowsSpec)

/-- ITS FALSE NEIGHBOUR: 'it returns false'. Refute it at one input. -/
def fnAppendKnowsWrong : ChangeSpec := { name := "fnAppendKnows", fn := fun _ => fun
  | [d] => { results := [.lit (.bool false)], args := [d] }
  | _ => none }
def FnAppendKnowsWrongFalsely : Prop := fnAppendKnowsRow.holds Try.pinned (OpenSpec.ofChange fnAppendKnowsWrong)

/-- 'laws.FnExactJoinAppend': WHATEVER THE INPUT: true; the input reads as it did. -/
def fnExactJoinAppendSpec : ChangeSpec := { name := "fnExactJoinAppend", fn := fun _ => fun
  | [d1, d2, d3, d4, d5] => { results := [.lit (.bool true)], args := [d1, d2, d3, d4, d5] }
  | _ => none }
def fnExactJoinAppendRow : OpenClaim := { program := "ythnepmhkeceadaa", sum := "457f490604d2fbe9c04ceb7052abdbf3dbf75961e6cf760150936f78dc135e0a", func := "loop.example/feedswarm/laws.FnExactJoinAppend", spec := "fnExactJoinAppend", apart := false }
def FnExactJoinAppendSaid : Prop := fnExactJoinAppendRow.holds Try.pinned (OpenSpec.ofChange fnExactJoinAppendSpec)

/-- ITS FALSE NEIGHBOUR: 'it returns false'. Refute it at one input. -/
def fnExactJoinAppendWrong : ChangeSpec := { name := "fnExactJoinAppend", fn := fun _ => fun
  | [d1, d2, d3, d4, d5] => { results := [.lit (.bool false)], args := [d1, d2, d3, d4, d5] }
  | _ => none }
def FnExactJoinAppendWrongFalsely : Prop := fnExactJoinAppendRow.holds Try.pinned (OpenSpec.ofChange fnExactJoinAppendWrong)

/-- 'laws.FnStableGrows': WHATEVER THE INPUT: true; the input reads as it did. -/
def fnStableGrowsSpec : ChangeSpec := { name := "fnStableGrows", fn := fun _ => fun
  | [d] => { results := [.lit (.bool true)], args := [d] }
  | _ => none }
def fnStableGrowsRow : OpenClaim := { program := "ythnepmhkeceadaa", sum := "457f490604d2fbe9c04ceb7052abdbf3dbf75961e6cf760150936f78dc135e0a", func := "loop.example/feedswarm/laws.FnStableGrows", spec := "fnStableGrows", apart := false }
def FnStableGrowsSaid : Prop := fnStableGrowsRow.holds Try.pinned (OpenSpec.ofChange fnStableGrowsSpec)

/-- ITS FALSE NEIGHBOUR: 'it returns false'. Refute it at one input. -/
def fnStableGrowsWrong : ChangeSpec := { name := "fnStableGrows", fn := fun _ => fun
  | [d] => { results := [.lit (.bool false)], args := [d] }
  | _ => none }
def FnStableGrowsWrongFalsely : Prop := fnStableGrowsRow.holds Try.pinned (OpenSpec.ofChange fnStableGrowsWrong)

/-- 'laws.FnStableKeeps': WHATEVER THE INPUT: true; the input reads as it did. -/
def fnStableKeepsSpec : ChangeSpec := { name := "fnStableKeeps", fn := fun _ => fun
  | [d] => { results := [.lit (.bool true)], args := [d] }
  | _ => none }
def fnStableKeepsRow : OpenClaim := { program := "ythnepmhkeceadaa", sum := "457f490604d2fbe9c04ceb7052abdbf3dbf75961e6cf760150936f78dc135e0a", func := "loop.example/feedswarm/laws.FnStableKeeps", spec := "fnStableKeeps", apart := false }
def FnStableKeepsSaid : Prop := fnStableKeepsRow.holds Try.pinned (OpenSpec.ofChange fnStableKeepsSpec)

/-- ITS FALSE NEIGHBOUR: 'it returns false'. Refute it at one input. -/
def fnStableKeepsWrong : ChangeSpec := { name := "fnStableKeeps", fn := fun _ => fun
  | [d] => { results := [.lit (.bool false)], args := [d] }
  | _ => none }
def FnStableKeepsWrongFalsely : Prop := fnStableKeepsRow.holds Try.pinned (OpenSpec.ofChange fnStableKeepsWrong)

/-- 'laws.FnOrderPrefix': WHATEVER THE INPUT: true; the input reads as it did. -/
def fnOrderPrefixSpec : ChangeSpec := { name := "fnOrderPrefix", fn := fun _ => fun
  | [d] => { results := [.lit (.bool true)], args := [d] }
  | _ => none }
def fnOrderPrefixRow : OpenClaim := { program := "ythnepmhkeceadaa", sum := "457f490604d2fbe9c04ceb7052abdbf3dbf75961e6cf760150936f78dc135e0a", func := "loop.example/feedswarm/laws.FnOrderPrefix", spec := "fnOrderPrefix", apart := false }
def FnOrderPrefixSaid : Prop := fnOrderPrefixRow.holds Try.pinned (OpenSpec.ofChange fnOrderPrefixSpec)

/-- ITS FALSE NEIGHBOUR: 'it returns false'. Refute it at one input. -/
def fnOrderPrefixWrong : ChangeSpec := { name := "fnOrderPrefix", fn := fun _ => fun
  | [d] => { results := [.lit (.bool false)], args := [d] }
  | _ => none }
def FnOrderPrefixWrongFalsely : Prop := fnOrderPrefixRow.holds Try.pinned (OpenSpec.ofChange fnOrderPrefixWrong)

/-- 'laws.FnStableSeen': WHATEVER THE INPUT: true; the input reads as it did. -/
def fnStableSeenSpec : ChangeSpec := { name := "fnStableSeen", fn := fun _ => fun
  | [d] => { results := [.lit (.bool true)], args := [d] }
  | _ => none }
def fnStableSeenRow : OpenClaim := { program := "ythnepmhkeceadaa", sum := "457f490604d2fbe9c04ceb7052abdbf3dbf75961e6cf760150936f78dc135e0a", func := "loop.example/feedswarm/laws.FnStableSeen", spec := "fnStableSeen", apart := false }
def FnStableSeenSaid : Prop := fnStableSeenRow.holds Try.pinned (OpenSpec.ofChange fnStableSeenSpec)

/-- ITS FALSE NEIGHBOUR: 'it returns false'. Refute it at one input. -/
def fnStableSeenWrong : ChangeSpec := { name := "fnStableSeen", fn := fun _ => fun
  | [d] => { results := [.lit (.bool false)], args := [d] }
  | _ => none }
def FnStableSeenWrongFalsely : Prop := fnStableSeenRow.holds Try.pinned (OpenSpec.ofChange fnStableSeenWrong)

/-- 'laws.FnViewGrows': WHATEVER THE INPUT: true; the input reads as it did. -/
def fnViewGrowsSpec : ChangeSpec := { name := "fnViewGrows", fn := fun _ => fun
  | [d] => { results := [.lit (.bool true)], args := [d] }
  | _ => none }
def fnViewGrowsRow : OpenClaim := { program := "ythnepmhkeceadaa", sum := "457f490604d2fbe9c04ceb7052abdbf3dbf75961e6cf760150936f78dc135e0a", func := "loop.example/feedswarm/laws.FnViewGrows", spec := "fnViewGrows", unfollowed := true, recurses := true, apart := false }
def FnViewGrowsSaid : Prop := fnViewGrowsRow.holds Try.pinned (OpenSpec.ofChange fnViewGrowsSpec)

/-- ITS FALSE NEIGHBOUR: 'it returns false'. Refute it at one input. -/
def fnViewGrowsWrong : ChangeSpec := { name := "fnViewGrows", fn := fun _ => fun
  | [d] => { results := [.lit (.bool false)], args := [d] }
  | _ => none }
def FnViewGrowsWrongFalsely : Prop := fnViewGrowsRow.holds Try.pinned (OpenSpec.ofChange fnViewGrowsWrong)

/- THE SECOND FORM. 'bulk': how many values and letters a reading holds, each counted each time it is reached (what is shared counts as often as it is met; a slice's spare places count too). A statement '..UptoSaid' is the law's where the arguments, and the package variables that the reading takes, are together of bulk at most 1048576: NARROWER than '..Said'. Prove '..Said' where nothing that the law and all that it calls make is longer than what came in: it says more and counts as full. Else prove '..UptoSaid'. A law counts once. -/
mutual
def uptoBulk {H : Type} : DataW H → Nat
  | .lit (.string bytes) => bytes.length + 1
  | .lit _ => 1
  | .nil => 1
  | .ptr d => uptoBulk d + 1
  | .slice elems spare => uptoBulkAll elems + uptoBulkAll spare + 1
  | .agg parts => uptoBulkAll parts + 1
  | .iface _ d => uptoBulk d + 1
  | .map entries => uptoBulkEntries entries + 1
  | .held _ => 1
def uptoBulkAll {H : Type} : List (DataW H) → Nat
  | [] => 0
  | d :: r => uptoBulk d + uptoBulkAll r
def uptoBulkEntries {H : Type} : List (Lit × DataW H) → Nat
  | [] => 0
  | x :: r => uptoBulkEntry x + uptoBulkEntries r
def uptoBulkEntry {H : Type} : Lit × DataW H → Nat
  | (.string bytes, d) => bytes.length + uptoBulk d + 1
  | (_, d) => uptoBulk d + 1
 end
def uptoSmall : (H : Type) → List (DataW H) → Bool := fun _ ds => decide (uptoBulkAll ds ≤ 1048576)
def OpenSpec.upto (s : _root_.Go.ChangeSpec) : _root_.Go.OpenSpec := { _root_.Go.OpenSpec.ofChange s with cond := some uptoSmall }

/-- 'laws.FnAppend', WHERE WHAT IT READS IS OF BULK AT MOST 1048576: true; the input reads as it did. -/
def fnAppendUptoRow : OpenClaim := { program := "ythnepmhkeceadaa", sum := "457f490604d2fbe9c04ceb7052abdbf3dbf75961e6cf760150936f78dc135e0a", func := "loop.example/feedswarm/laws.FnAppend", spec := "fnAppend", apart := false, narrowed := true }
def FnAppendUptoSaid : Prop := fnAppendUptoRow.holds Try.pinned (OpenSpec.upto fnAppendSpec)

/-- 'laws.FnAppendKnows', WHERE WHAT IT READS IS OF BULK AT MOST 1048576: true; the input reads as it did. -/
def fnAppendKnowsUptoRow : OpenClaim := { program := "ythnepmhkeceadaa", sum := "457f490604d2fbe9c04ceb7052abdbf3dbf75961e6cf760150936f78dc135e0a", func := "loop.example/feedswarm/laws.FnAppendKnows", spec := "fnAppendKnows", apart := false, narrowed := true }
def FnAppendKnowsUptoSaid : Prop := fnAppendKnowsUptoRow.holds Try.pinned (OpenSpec.upto fnAppendKnowsSpec)

/-- 'laws.FnExactJoinAppend', WHERE WHAT IT READS IS OF BULK AT MOST 1048576: true; the input reads as it did. -/
def fnExactJoinAppendUptoRow : OpenClaim := { program := "ythnepmhkeceadaa", sum := "457f490604d2fbe9c04ceb7052abdbf3dbf75961e6cf760150936f78dc135e0a", func := "loop.example/feedswarm/laws.FnExactJoinAppend", spec := "fnExactJoinAppend", apart := false, narrowed := true }
def FnExactJoinAppendUptoSaid : Prop := fnExactJoinAppendUptoRow.holds Try.pinned (OpenSpec.upto fnExactJoinAppendSpec)

/-- 'laws.FnStableGrows', WHERE WHAT IT READS IS OF BULK AT MOST 1048576: true; the input reads as it did. -/
def fnStableGrowsUptoRow : OpenClaim := { program := "ythnepmhkeceadaa", sum := "457f490604d2fbe9c04ceb7052abdbf3dbf75961e6cf760150936f78dc135e0a", func := "loop.example/feedswarm/laws.FnStableGrows", spec := "fnStableGrows", apart := false, narrowed := true }
def FnStableGrowsUptoSaid : Prop := fnStableGrowsUptoRow.holds Try.pinned (OpenSpec.upto fnStableGrowsSpec)

/-- 'laws.FnStableKeeps', WHERE WHAT IT READS IS OF BULK AT MOST 1048576: true; the input reads as it did. -/
def fnStableKeepsUptoRow : OpenClaim := { program := "ythnepmhkeceadaa", sum := "457f490604d2fbe9c04ceb7052abdbf3dbf75961e6cf760150936f78dc135e0a", func := "loop.example/feedswarm/laws.FnStableKeeps", spec := "fnStableKeeps", apart := false, narrowed := true }
def FnStableKeepsUptoSaid : Prop := fnStableKeepsUptoRow.holds Try.pinned (OpenSpec.upto fnStableKeepsSpec)

/-- 'laws.FnOrderPrefix', WHERE WHAT IT READS IS OF BULK AT MOST 1048576: true; the input reads as it did. -/
def fnOrderPrefixUptoRow : OpenClaim := { program := "ythnepmhkeceadaa", sum := "457f490604d2fbe9c04ceb7052abdbf3dbf75961e6cf760150936f78dc135e0a", func := "loop.example/feedswarm/laws.FnOrderPrefix", spec := "fnOrderPrefix", apart := false, narrowed := true }
def FnOrderPrefixUptoSaid : Prop := fnOrderPrefixUptoRow.holds Try.pinned (OpenSpec.upto fnOrderPrefixSpec)

/-- 'laws.FnStableSeen', WHERE WHAT IT READS IS OF BULK AT MOST 1048576: true; the input reads as it did. -/
def fnStableSeenUptoRow : OpenClaim := { program := "ythnepmhkeceadaa", sum := "457f490604d2fbe9c04ceb7052abdbf3dbf75961e6cf760150936f78dc135e0a", func := "loop.example/feedswarm/laws.FnStableSeen", spec := "fnStableSeen", apart := false, narrowed := true }
def FnStableSeenUptoSaid : Prop := fnStableSeenUptoRow.holds Try.pinned (OpenSpec.upto fnStableSeenSpec)

/-- 'laws.FnViewGrows', WHERE WHAT IT READS IS OF BULK AT MOST 1048576: true; the input reads as it did. -/
def fnViewGrowsUptoRow : OpenClaim := { program := "ythnepmhkeceadaa", sum := "457f490604d2fbe9c04ceb7052abdbf3dbf75961e6cf760150936f78dc135e0a", func := "loop.example/feedswarm/laws.FnViewGrows", spec := "fnViewGrows", unfollowed := true, recurses := true, apart := false, narrowed := true }
def FnViewGrowsUptoSaid : Prop := fnViewGrowsUptoRow.holds Try.pinned (OpenSpec.upto fnViewGrowsSpec)

end Rows
end Go.Proofs.Ythnepmhkeceadaa
