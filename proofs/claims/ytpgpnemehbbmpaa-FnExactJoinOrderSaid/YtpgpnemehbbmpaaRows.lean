/-
  No cell of these rows narrows 'for every input' (looked for: loops, veiled, ifaces, maps, wideKeys, modest, calm, conditions, laid).
  DERIVED. THE GIVEN ROWS OF THIS SEAT. 15 by the template 'for every input the law returns true; each argument reads behind the call as it read before'; 0 by the template 'total and deterministic' (their statements: YtpgpnemehbbmpaaTotals.lean).
  GIVEN WITH THE SEED: the statements are not yours to turn. If you find one false, say at which input.
  Laid BY PROGRAM, IN A SANDBOX (cutbox-rows.mjs): the forced cells as the released guide's own fill.sh prints them over the translation 713658d919ede1bb… (all of the seat's roots in one cut). By AI agents, Wed Nov 11 2026. No macro, syntax, notation, axiom, sorry.
-/
import Derived.Test.YtpgpnemehbbmpaaChecked
import GoSem.Claim
import GoSem.ClaimJoined
import GoSem.ClaimMapViews
import Derived.JoinedTies
import Derived.KernelRfl
namespace Go.Proofs.Ytpgpnemehbbmpaa
/- THE CELL 'sum', in the pinned program and in every row, IS THE sha256 OF THE DUMP (.gsa) THAT YtpgpnemehbbmpaaProg.lean LOADS. Nothing in Lean hashes anything: it is a label: what it is worth is what the hold of that sum in a sandbox is worth. -/
noncomputable def Try.pinned : Pinned := { name := "ytpgpnemehbbmpaa", sum := "713658d919ede1bb6192988d8152e12f908a26f5a50f0a10c0448539cf6882a1", checked := Try.checked }
namespace Rows
def none {H : Type} : Left H := { results := [], args := [] }

/-- 'laws.FnExactJoinValid': WHATEVER THE INPUT: true; the input reads as it did. -/
def fnExactJoinValidSpec : ChangeSpec := { name := "fnExactJoinValid", fn := fun _ => fun
  | [d] => { results := [.lit (.bool true)], args := [d] }
  | _ => none }
def fnExactJoinValidRow : OpenClaim := { program := "ytpgpnemehbbmpaa", sum := "713658d919ede1bb6192988d8152e12f908a26f5a50f0a10c0448539cf6882a1", func := "loop.example/feedswarm/laws.FnExactJoinValid", spec := "fnExactJoinValid", apart := false }
def FnExactJoinValidSaid : Prop := fnExactJoinValidRow.holds Try.pinned (OpenSpec.ofChange fnExactJoinValidSpec)

/-- ITS FALSE NEIGHBOUR: 'it returns false'. Refute it at one input. -/
def fnExactJoinValidWrong : ChangeSpec := { name := "fnExactJoinValid", fn := fun _ => fun
  | [d] => { results := [.lit (.bool false)], args := [d] }
  | _ => none }
def FnExactJoinValidWrongFalsely : Prop := fnExactJoinValidRow.holds Try.pinned (OpenSpec.ofChange fnExactJoinValidWrong)

/-- 'laws.FnExactJoinSees': WHATEVER THE INPUT: true; the input reads as it did. -/
def fnExactJoinSeesSpec : ChangeSpec := { name := "fnExactJoinSees", fn := fun _ => fun
  | [d1, d2, d3] => { results := [.lit (.bool true)], args := [d1, d2, d3] }
  | _ => none }
def fnExactJoinSeesRow : OpenClaim := { program := "ytpgpnemehbbmpaa", sum := "713658d919ede1bb6192988d8152e12f908a26f5a50f0a10c0448539cf6882a1", func := "loop.example/feedswarm/laws.FnExactJoinSees", spec := "fnExactJoinSees", apart := false }
def FnExactJoinSeesSaid : Prop := fnExactJoinSeesRow.holds Try.pinned (OpenSpec.ofChange fnExactJoinSeesSpec)

/-- ITS FALSE NEIGHBOUR: 'it returns false'. Refute it at one input. -/
def fnExactJoinSeesWrong : ChangeSpec := { name := "fnExactJoinSees", fn := fun _ => fun
  | [d1, d2, d3] => { results := [.lit (.bool false)], args := [d1, d2, d3] }
  | _ => none }
def FnExactJoinSeesWrongFalsely : Prop := fnExactJoinSeesRow.holds Try.pinned (OpenSpec.ofChange fnExactJoinSeesWrong)

/-- 'laws.FnSeesBack': WHATEVER THE INPUT: true; the input reads as it did. -/
def fnSeesBackSpec : ChangeSpec := { name := "fnSeesBack", fn := fun _ => fun
  | [d] => { results := [.lit (.bool true)], args := [d] }
  | _ => none }
def fnSeesBackRow : OpenClaim := { program := "ytpgpnemehbbmpaa", sum := "713658d919ede1bb6192988d8152e12f908a26f5a50f0a10c0448539cf6882a1", func := "loop.example/feedswarm/laws.FnSeesBack", spec := "fnSeesBack", apart := false }
def FnSeesBackSaid : Prop := fnSeesBackRow.holds Try.pinned (OpenSpec.ofChange fnSeesBackSpec)

/-- ITS FALSE NEIGHBOUR: 'it returns false'. Refute it at one input. -/
def fnSeesBackWrong : ChangeSpec := { name := "fnSeesBack", fn := fun _ => fun
  | [d] => { results := [.lit (.bool false)], args := [d] }
  | _ => none }
def FnSeesBackWrongFalsely : Prop := fnSeesBackRow.holds Try.pinned (OpenSpec.ofChange fnSeesBackWrong)

/-- 'laws.FnSeesClock': WHATEVER THE INPUT: true; the input reads as it did. -/
def fnSeesClockSpec : ChangeSpec := { name := "fnSeesClock", fn := fun _ => fun
  | [d] => { results := [.lit (.bool true)], args := [d] }
  | _ => none }
def fnSeesClockRow : OpenClaim := { program := "ytpgpnemehbbmpaa", sum := "713658d919ede1bb6192988d8152e12f908a26f5a50f0a10c0448539cf6882a1", func := "loop.example/feedswarm/laws.FnSeesClock", spec := "fnSeesClock", apart := false }
def FnSeesClockSaid : Prop := fnSeesClockRow.holds Try.pinned (OpenSpec.ofChange fnSeesClockSpec)

/-- ITS FALSE NEIGHBOUR: 'it returns false'. Refute it at one input. -/
def fnSeesClockWrong : ChangeSpec := { name := "fnSeesClock", fn := fun _ => fun
  | [d] => { results := [.lit (.bool false)], args := [d] }
  | _ => none }
def FnSeesClockWrongFalsely : Prop := fnSeesClockRow.holds Try.pinned (OpenSpec.ofChange fnSeesClockWrong)

/-- 'laws.FnSeesThree': WHATEVER THE INPUT: true; the input reads as it did. -/
def fnSeesThreeSpec : ChangeSpec := { name := "fnSeesThree", fn := fun _ => fun
  | [d1, d2] => { results := [.lit (.bool true)], args := [d1, d2] }
  | _ => none }
def fnSeesThreeRow : OpenClaim := { program := "ytpgpnemehbbmpaa", sum := "713658d919ede1bb6192988d8152e12f908a26f5a50f0a10c0448539cf6882a1", func := "loop.example/feedswarm/laws.FnSeesThree", spec := "fnSeesThree", apart := false }
def FnSeesThreeSaid : Prop := fnSeesThreeRow.holds Try.pinned (OpenSpec.ofChange fnSeesThreeSpec)

/-- ITS FALSE NEIGHBOUR: 'it returns false'. Refute it at one input. -/
def fnSeesThreeWrong : ChangeSpec := { name := "fnSeesThree", fn := fun _ => fun
  | [d1, d2] => { results := [.lit (.bool false)], args := [d1, d2] }
  | _ => none }
def FnSeesThreeWrongFalsely : Prop := fnSeesThreeRow.holds Try.pinned (OpenSpec.ofChange fnSeesThreeWrong)

/-- 'laws.FnJoinPart': WHATEVER THE INPUT: true; the input reads as it did. -/
def fnJoinPartSpec : ChangeSpec := { name := "fnJoinPart", fn := fun _ => fun
  | [d] => { results := [.lit (.bool true)], args := [d] }
  | _ => none }
def fnJoinPartRow : OpenClaim := { program := "ytpgpnemehbbmpaa", sum := "713658d919ede1bb6192988d8152e12f908a26f5a50f0a10c0448539cf6882a1", func := "loop.example/feedswarm/laws.FnJoinPart", spec := "fnJoinPart", apart := false }
def FnJoinPartSaid : Prop := fnJoinPartRow.holds Try.pinned (OpenSpec.ofChange fnJoinPartSpec)

/-- ITS FALSE NEIGHBOUR: 'it returns false'. Refute it at one input. -/
def fnJoinPartWrong : ChangeSpec := { name := "fnJoinPart", fn := fun _ => fun
  | [d] => { results := [.lit (.bool false)], args := [d] }
  | _ => none }
def FnJoinPartWrongFalsely : Prop := fnJoinPartRow.holds Try.pinned (OpenSpec.ofChange fnJoinPartWrong)

/-- 'laws.FnOrderWriter': WHATEVER THE INPUT: true; the input reads as it did. -/
def fnOrderWriterSpec : ChangeSpec := { name := "fnOrderWriter", fn := fun _ => fun
  | [d] => { results := [.lit (.bool true)], args := [d] }
  | _ => none }
def fnOrderWriterRow : OpenClaim := { program := "ytpgpnemehbbmpaa", sum := "713658d919ede1bb6192988d8152e12f908a26f5a50f0a10c0448539cf6882a1", func := "loop.example/feedswarm/laws.FnOrderWriter", spec := "fnOrderWriter", apart := false }
def FnOrderWriterSaid : Prop := fnOrderWriterRow.holds Try.pinned (OpenSpec.ofChange fnOrderWriterSpec)

/-- ITS FALSE NEIGHBOUR: 'it returns false'. Refute it at one input. -/
def fnOrderWriterWrong : ChangeSpec := { name := "fnOrderWriter", fn := fun _ => fun
  | [d] => { results := [.lit (.bool false)], args := [d] }
  | _ => none }
def FnOrderWriterWrongFalsely : Prop := fnOrderWriterRow.holds Try.pinned (OpenSpec.ofChange fnOrderWriterWrong)

/-- 'laws.FnOrderFirst': WHATEVER THE INPUT: true; the input reads as it did. -/
def fnOrderFirstSpec : ChangeSpec := { name := "fnOrderFirst", fn := fun _ => fun
  | [d] => { results := [.lit (.bool true)], args := [d] }
  | _ => none }
def fnOrderFirstRow : OpenClaim := { program := "ytpgpnemehbbmpaa", sum := "713658d919ede1bb6192988d8152e12f908a26f5a50f0a10c0448539cf6882a1", func := "loop.example/feedswarm/laws.FnOrderFirst", spec := "fnOrderFirst", apart := false }
def FnOrderFirstSaid : Prop := fnOrderFirstRow.holds Try.pinned (OpenSpec.ofChange fnOrderFirstSpec)

/-- ITS FALSE NEIGHBOUR: 'it returns false'. Refute it at one input. -/
def fnOrderFirstWrong : ChangeSpec := { name := "fnOrderFirst", fn := fun _ => fun
  | [d] => { results := [.lit (.bool false)], args := [d] }
  | _ => none }
def FnOrderFirstWrongFalsely : Prop := fnOrderFirstRow.holds Try.pinned (OpenSpec.ofChange fnOrderFirstWrong)

/-- 'laws.FnOrderSees': WHATEVER THE INPUT: true; the input reads as it did. -/
def fnOrderSeesSpec : ChangeSpec := { name := "fnOrderSees", fn := fun _ => fun
  | [d] => { results := [.lit (.bool true)], args := [d] }
  | _ => none }
def fnOrderSeesRow : OpenClaim := { program := "ytpgpnemehbbmpaa", sum := "713658d919ede1bb6192988d8152e12f908a26f5a50f0a10c0448539cf6882a1", func := "loop.example/feedswarm/laws.FnOrderSees", spec := "fnOrderSees", apart := false }
def FnOrderSeesSaid : Prop := fnOrderSeesRow.holds Try.pinned (OpenSpec.ofChange fnOrderSeesSpec)

/-- ITS FALSE NEIGHBOUR: 'it returns false'. Refute it at one input. -/
def fnOrderSeesWrong : ChangeSpec := { name := "fnOrderSees", fn := fun _ => fun
  | [d] => { results := [.lit (.bool false)], args := [d] }
  | _ => none }
def FnOrderSeesWrongFalsely : Prop := fnOrderSeesRow.holds Try.pinned (OpenSpec.ofChange fnOrderSeesWrong)

/-- 'laws.FnOrderSmall': WHATEVER THE INPUT: true; the input reads as it did. -/
def fnOrderSmallSpec : ChangeSpec := { name := "fnOrderSmall", fn := fun _ => fun
  | [d] => { results := [.lit (.bool true)], args := [d] }
  | _ => none }
def fnOrderSmallRow : OpenClaim := { program := "ytpgpnemehbbmpaa", sum := "713658d919ede1bb6192988d8152e12f908a26f5a50f0a10c0448539cf6882a1", func := "loop.example/feedswarm/laws.FnOrderSmall", spec := "fnOrderSmall", apart := false }
def FnOrderSmallSaid : Prop := fnOrderSmallRow.holds Try.pinned (OpenSpec.ofChange fnOrderSmallSpec)

/-- ITS FALSE NEIGHBOUR: 'it returns false'. Refute it at one input. -/
def fnOrderSmallWrong : ChangeSpec := { name := "fnOrderSmall", fn := fun _ => fun
  | [d] => { results := [.lit (.bool false)], args := [d] }
  | _ => none }
def FnOrderSmallWrongFalsely : Prop := fnOrderSmallRow.holds Try.pinned (OpenSpec.ofChange fnOrderSmallWrong)

/-- 'laws.FnOrderAll': WHATEVER THE INPUT: true; the input reads as it did. -/
def fnOrderAllSpec : ChangeSpec := { name := "fnOrderAll", fn := fun _ => fun
  | [d] => { results := [.lit (.bool true)], args := [d] }
  | _ => none }
def fnOrderAllRow : OpenClaim := { program := "ytpgpnemehbbmpaa", sum := "713658d919ede1bb6192988d8152e12f908a26f5a50f0a10c0448539cf6882a1", func := "loop.example/feedswarm/laws.FnOrderAll", spec := "fnOrderAll", apart := false }
def FnOrderAllSaid : Prop := fnOrderAllRow.holds Try.pinned (OpenSpec.ofChange fnOrderAllSpec)

/-- ITS FALSE NEIGHBOUR: 'it returns false'. Refute it at one input. -/
def fnOrderAllWrong : ChangeSpec := { name := "fnOrderAll", fn := fun _ => fun
  | [d] => { results := [.lit (.bool false)], args := [d] }
  | _ => none }
def FnOrderAllWrongFalsely : Prop := fnOrderAllRow.holds Try.pinned (OpenSpec.ofChange fnOrderAllWrong)

/-- 'laws.FnExactJoinStable': WHATEVER THE INPUT: true; the input reads as it did. -/
def fnExactJoinStableSpec : ChangeSpec := { name := "fnExactJoinStable", fn := fun _ => fun
  | [d] => { results := [.lit (.bool true)], args := [d] }
  | _ => none }
def fnExactJoinStableRow : OpenClaim := { program := "ytpgpnemehbbmpaa", sum := "713658d919ede1bb6192988d8152e12f908a26f5a50f0a10c0448539cf6882a1", func := "loop.example/feedswarm/laws.FnExactJoinStable", spec := "fnExactJoinStable", apart := false }
def FnExactJoinStableSaid : Prop := fnExactJoinStableRow.holds Try.pinned (OpenSpec.ofChange fnExactJoinStableSpec)

/-- ITS FALSE NEIGHBOUR: 'it returns false'. Refute it at one input. -/
def fnExactJoinStableWrong : ChangeSpec := { name := "fnExactJoinStable", fn := fun _ => fun
  | [d] => { results := [.lit (.bool false)], args := [d] }
  | _ => none }
def FnExactJoinStableWrongFalsely : Prop := fnExactJoinStableRow.holds Try.pinned (OpenSpec.ofChange fnExactJoinStableWrong)

/-- 'laws.FnStable': WHATEVER THE INPUT: true; the input reads as it did. -/
def fnStableSpec : ChangeSpec := { name := "fnStable", fn := fun _ => fun
  | [d] => { results := [.lit (.bool true)], args := [d] }
  | _ => none }
def fnStableRow : OpenClaim := { program := "ytpgpnemehbbmpaa", sum := "713658d919ede1bb6192988d8152e12f908a26f5a50f0a10c0448539cf6882a1", func := "loop.example/feedswarm/laws.FnStable", spec := "fnStable", apart := false }
def FnStableSaid : Prop := fnStableRow.holds Try.pinned (OpenSpec.ofChange fnStableSpec)

/-- ITS FALSE NEIGHBOUR: 'it returns false'. Refute it at one input. -/
def fnStableWrong : ChangeSpec := { name := "fnStable", fn := fun _ => fun
  | [d] => { results := [.lit (.bool false)], args := [d] }
  | _ => none }
def FnStableWrongFalsely : Prop := fnStableRow.holds Try.pinned (OpenSpec.ofChange fnStableWrong)

/-- 'laws.FnStableMost': WHATEVER THE INPUT: true; the input reads as it did. -/
def fnStableMostSpec : ChangeSpec := { name := "fnStableMost", fn := fun _ => fun
  | [d] => { results := [.lit (.bool true)], args := [d] }
  | _ => none }
def fnStableMostRow : OpenClaim := { program := "ytpgpnemehbbmpaa", sum := "713658d919ede1bb6192988d8152e12f908a26f5a50f0a10c0448539cf6882a1", func := "loop.example/feedswarm/laws.FnStableMost", spec := "fnStableMost", apart := false }
def FnStableMostSaid : Prop := fnStableMostRow.holds Try.pinned (OpenSpec.ofChange fnStableMostSpec)

/-- ITS FALSE NEIGHBOUR: 'it returns false'. Refute it at one input. -/
def fnStableMostWrong : ChangeSpec := { name := "fnStableMost", fn := fun _ => fun
  | [d] => { results := [.lit (.bool false)], args := [d] }
  | _ => none }
def FnStableMostWrongFalsely : Prop := fnStableMostRow.holds Try.pinned (OpenSpec.ofChange fnStableMostWrong)

/-- 'laws.FnExactJoinOrder': WHATEVER THE INPUT: true; the input reads as it did. -/
def fnExactJoinOrderSpec : ChangeSpec := { name := "fnExactJoinOrder", fn := fun _ => fun
  | [d] => { results := [.lit (.bool true)], args := [d] }
  | _ => none }
def fnExactJoinOrderRow : OpenClaim := { program := "ytpgpnemehbbmpaa", sum := "713658d919ede1bb6192988d8152e12f908a26f5a50f0a10c0448539cf6882a1", func := "loop.example/feedswarm/laws.FnExactJoinOrder", spec := "fnExactJoinOrder", apart := false }
def FnExactJoinOrderSaid : Prop := fnExactJoinOrderRow.holds Try.pinned (OpenSpec.ofChange fnExactJoinOrderSpec)

/-- ITS FALSE NEIGHBOUR: 'it returns false'. Refute it at one input. -/
def fnExactJoinOrderWrong : ChangeSpec := { name := "fnExactJoinOrder", fn := fun _ => fun
  | [d] => { results := [.lit (.bool false)], args := [d] }
  | _ => none }
def FnExactJoinOrderWrongFalsely : Prop := fnExactJoinOrderRow.holds Try.pinned (OpenSpec.ofChange fnExactJoinOrderWrong)

/- THE SECOND FORM. 'bulk': how many values and letters a reading holds, each counted each time it is reached (what is shared counts as often as it is met; a slice's spare places count too). A statement '..UptoSaid' is the law's where the arguments, and the package variables that the reading takes, are together of bulk at most 1048576: NARROWER than '..Said'. Prove '..Said' where nothing that the law and all that it calls make is longer than what came in: it says more and counts as full. Else prove '..UptoSaid'. A law counts once. -/
mutual
def uptoBulk {H : Type} : DataW H → Nat
  | .lit (.string bytes) => bytes.length + 1
  | .lit _ => 1
  | .nil => 1
  | .ptr d => uptoBulk d + 1
  | .slice elems spare => uptoBulkAll elems + uptoBulkAll spare + 1
  | .agg parts => uptoBulkAll parts + 1
  | .iface _ d => uptoBulk d + 1
  | .map entries => uptoBulkEntries entries + 1
  | .held _ => 1
def uptoBulkAll {H : Type} : List (DataW H) → Nat
  | [] => 0
  | d :: r => uptoBulk d + uptoBulkAll r
def uptoBulkEntries {H : Type} : List (Lit × DataW H) → Nat
  | [] => 0
  | x :: r => uptoBulkEntry x + uptoBulkEntries r
def uptoBulkEntry {H : Type} : Lit × DataW H → Nat
  | (.string bytes, d) => bytes.length + uptoBulk d + 1
  | (_, d) => uptoBulk d + 1
 end
def uptoSmall : (H : Type) → List (DataW H) → Bool := fun _ ds => decide (uptoBulkAll ds ≤ 1048576)
def OpenSpec.upto (s : _root_.Go.ChangeSpec) : _root_.Go.OpenSpec := { _root_.Go.OpenSpec.ofChange s with cond := some uptoSmall }

/-- 'laws.FnExactJoinValid', WHERE WHAT IT READS IS OF BULK AT MOST 1048576: true; the input reads as it did. -/
def fnExactJoinValidUptoRow : OpenClaim := { program := "ytpgpnemehbbmpaa", sum := "713658d919ede1bb6192988d8152e12f908a26f5a50f0a10c0448539cf6882a1", func := "loop.example/feedswarm/laws.FnExactJoinValid", spec := "fnExactJoinValid", apart := false, narrowed := true }
def FnExactJoinValidUptoSaid : Prop := fnExactJoinValidUptoRow.holds Try.pinned (OpenSpec.upto fnExactJoinValidSpec)

/-- 'laws.FnExactJoinSees', WHERE WHAT IT READS IS OF BULK AT MOST 1048576: true; the input reads as it did. -/
def fnExactJoinSeesUptoRow : OpenClaim := { program := "ytpgpnemehbbmpaa", sum := "713658d919ede1bb6192988d8152e12f908a26f5a50f0a10c0448539cf6882a1", func := "loop.example/feedswarm/laws.FnExactJoinSees", spec := "fnExactJoinSees", apart := false, narrowed := true }
def FnExactJoinSeesUptoSaid : Prop := fnExactJoinSeesUptoRow.holds Try.pinned (OpenSpec.upto fnExactJoinSeesSpec)

/-- 'laws.FnSeesBack', WHERE WHAT IT READS IS OF BULK AT MOST 1048576: true; the input reads as it did. -/
def fnSeesBackUptoRow : OpenClaim := { program := "ytpgpnemehbbmpaa", sum := "713658d919ede1bb6192988d8152e12f908a26f5a50f0a10c0448539cf6882a1", func := "loop.example/feedswarm/laws.FnSeesBack", spec := "fnSeesBack", apart := false, narrowed := true }
def FnSeesBackUptoSaid : Prop := fnSeesBackUptoRow.holds Try.pinned (OpenSpec.upto fnSeesBackSpec)

/-- 'laws.FnSeesClock', WHERE WHAT IT READS IS OF BULK AT MOST 1048576: true; the input reads as it did. -/
def fnSeesClockUptoRow : OpenClaim := { program := "ytpgpnemehbbmpaa", sum := "713658d919ede1bb6192988d8152e12f908a26f5a50f0a10c0448539cf6882a1", func := "loop.example/feedswarm/laws.FnSeesClock", spec := "fnSeesClock", apart := false, narrowed := true }
def FnSeesClockUptoSaid : Prop := fnSeesClockUptoRow.holds Try.pinned (OpenSpec.upto fnSeesClockSpec)

/-- 'laws.FnSeesThree', WHERE WHAT IT READS IS OF BULK AT MOST 1048576: true; the input reads as it did. -/
def fnSeesThreeUptoRow : OpenClaim := { program := "ytpgpnemehbbmpaa", sum := "713658d919ede1bb6192988d8152e12f908a26f5a50f0a10c0448539cf6882a1", func := "loop.example/feedswarm/laws.FnSeesThree", spec := "fnSeesThree", apart := false, narrowed := true }
def FnSeesThreeUptoSaid : Prop := fnSeesThreeUptoRow.holds Try.pinned (OpenSpec.upto fnSeesThreeSpec)

/-- 'laws.FnJoinPart', WHERE WHAT IT READS IS OF BULK AT MOST 1048576: true; the input reads as it did. -/
def fnJoinPartUptoRow : OpenClaim := { program := "ytpgpnemehbbmpaa", sum := "713658d919ede1bb6192988d8152e12f908a26f5a50f0a10c0448539cf6882a1", func := "loop.example/feedswarm/laws.FnJoinPart", spec := "fnJoinPart", apart := false, narrowed := true }
def FnJoinPartUptoSaid : Prop := fnJoinPartUptoRow.holds Try.pinned (OpenSpec.upto fnJoinPartSpec)

/-- 'laws.FnOrderWriter', WHERE WHAT IT READS IS OF BULK AT MOST 1048576: true; the input reads as it did. -/
def fnOrderWriterUptoRow : OpenClaim := { program := "ytpgpnemehbbmpaa", sum := "713658d919ede1bb6192988d8152e12f908a26f5a50f0a10c0448539cf6882a1", func := "loop.example/feedswarm/laws.FnOrderWriter", spec := "fnOrderWriter", apart := false, narrowed := true }
def FnOrderWriterUptoSaid : Prop := fnOrderWriterUptoRow.holds Try.pinned (OpenSpec.upto fnOrderWriterSpec)

/-- 'laws.FnOrderFirst', WHERE WHAT IT READS IS OF BULK AT MOST 1048576: true; the input reads as it did. -/
def fnOrderFirstUptoRow : OpenClaim := { program := "ytpgpnemehbbmpaa", sum := "713658d919ede1bb6192988d8152e12f908a26f5a50f0a10c0448539cf6882a1", func := "loop.example/feedswarm/laws.FnOrderFirst", spec := "fnOrderFirst", apart := false, narrowed := true }
def FnOrderFirstUptoSaid : Prop := fnOrderFirstUptoRow.holds Try.pinned (OpenSpec.upto fnOrderFirstSpec)

/-- 'laws.FnOrderSees', WHERE WHAT IT READS IS OF BULK AT MOST 1048576: true; the input reads as it did. -/
def fnOrderSeesUptoRow : OpenClaim := { program := "ytpgpnemehbbmpaa", sum := "713658d919ede1bb6192988d8152e12f908a26f5a50f0a10c0448539cf6882a1", func := "loop.example/feedswarm/laws.FnOrderSees", spec := "fnOrderSees", apart := false, narrowed := true }
def FnOrderSeesUptoSaid : Prop := fnOrderSeesUptoRow.holds Try.pinned (OpenSpec.upto fnOrderSeesSpec)

/-- 'laws.FnOrderSmall', WHERE WHAT IT READS IS OF BULK AT MOST 1048576: true; the input reads as it did. -/
def fnOrderSmallUptoRow : OpenClaim := { program := "ytpgpnemehbbmpaa", sum := "713658d919ede1bb6192988d8152e12f908a26f5a50f0a10c0448539cf6882a1", func := "loop.example/feedswarm/laws.FnOrderSmall", spec := "fnOrderSmall", apart := false, narrowed := true }
def FnOrderSmallUptoSaid : Prop := fnOrderSmallUptoRow.holds Try.pinned (OpenSpec.upto fnOrderSmallSpec)

/-- 'laws.FnOrderAll', WHERE WHAT IT READS IS OF BULK AT MOST 1048576: true; the input reads as it did. -/
def fnOrderAllUptoRow : OpenClaim := { program := "ytpgpnemehbbmpaa", sum := "713658d919ede1bb6192988d8152e12f908a26f5a50f0a10c0448539cf6882a1", func := "loop.example/feedswarm/laws.FnOrderAll", spec := "fnOrderAll", apart := false, narrowed := true }
def FnOrderAllUptoSaid : Prop := fnOrderAllUptoRow.holds Try.pinned (OpenSpec.upto fnOrderAllSpec)

/-- 'laws.FnExactJoinStable', WHERE WHAT IT READS IS OF BULK AT MOST 1048576: true; the input reads as it did. -/
def fnExactJoinStableUptoRow : OpenClaim := { program := "ytpgpnemehbbmpaa", sum := "713658d919ede1bb6192988d8152e12f908a26f5a50f0a10c0448539cf6882a1", func := "loop.example/feedswarm/laws.FnExactJoinStable", spec := "fnExactJoinStable", apart := false, narrowed := true }
def FnExactJoinStableUptoSaid : Prop := fnExactJoinStableUptoRow.holds Try.pinned (OpenSpec.upto fnExactJoinStableSpec)

/-- 'laws.FnStable', WHERE WHAT IT READS IS OF BULK AT MOST 1048576: true; the input reads as it did. -/
def fnStableUptoRow : OpenClaim := { program := "ytpgpnemehbbmpaa", sum := "713658d919ede1bb6192988d8152e12f908a26f5a50f0a10c0448539cf6882a1", func := "loop.example/feedswarm/laws.FnStable", spec := "fnStable", apart := false, narrowed := true }
def FnStableUptoSaid : Prop := fnStableUptoRow.holds Try.pinned (OpenSpec.upto fnStableSpec)

/-- 'laws.FnStableMost', WHERE WHAT IT READS IS OF BULK AT MOST 1048576: true; the input reads as it did. -/
def fnStableMostUptoRow : OpenClaim := { program := "ytpgpnemehbbmpaa", sum := "713658d919ede1bb6192988d8152e12f908a26f5a50f0a10c0448539cf6882a1", func := "loop.example/feedswarm/laws.FnStableMost", spec := "fnStableMost", apart := false, narrowed := true }
def FnStableMostUptoSaid : Prop := fnStableMostUptoRow.holds Try.pinned (OpenSpec.upto fnStableMostSpec)

/-- 'laws.FnExactJoinOrder', WHERE WHAT IT READS IS OF BULK AT MOST 1048576: true; the input reads as it did. -/
def fnExactJoinOrderUptoRow : OpenClaim := { program := "ytpgpnemehbbmpaa", sum := "713658d919ede1bb6192988d8152e12f908a26f5a50f0a10c0448539cf6882a1", func := "loop.example/feedswarm/laws.FnExactJoinOrder", spec := "fnExactJoinOrder", apart := false, narrowed := true }
def FnExactJoinOrderUptoSaid : Prop := fnExactJoinOrderUptoRow.holds Try.pinned (OpenSpec.upto fnExactJoinOrderSpec)

end Rows
end Go.Proofs.Ytpgpnemehbbmpaa
