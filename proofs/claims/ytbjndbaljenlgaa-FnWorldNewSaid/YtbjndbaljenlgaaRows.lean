/-
  No cell of these rows narrows 'for every input' (looked for: loops, veiled, ifaces, maps, wideKeys, modest, calm, conditions, laid).
  DERIVED. THE GIVEN ROWS OF THIS SEAT. 10 by the template 'for every input the law returns true; each argument reads behind the call as it read before'; 0 by the template 'total and deterministic' (their statements: YtbjndbaljenlgaaTotals.lean).
  GIVEN WITH THE SEED: the statements are not yours to turn. If you find one false, say at which input.
  Laid BY PROGRAM, IN A SANDBOX (cutbox-rows.mjs): the forced cells as the released guide's own fill.sh prints them over the translation 2c6e7320eb4a4847… (all of the seat's roots in one cut). By AI agents, Wed Nov 11 2026. No macro, syntax, notation, axiom, sorry.
-/
import Derived.Test.YtbjndbaljenlgaaChecked
import GoSem.Claim
import GoSem.ClaimJoined
import GoSem.ClaimMapViews
import Derived.JoinedTies
import Derived.KernelRfl
namespace Go.Proofs.Ytbjndbaljenlgaa
/- THE CELL 'sum', in the pinned program and in every row, IS THE sha256 OF THE DUMP (.gsa) THAT YtbjndbaljenlgaaProg.lean LOADS. Nothing in Lean hashes anything: it is a label: what it is worth is what the hold of that sum in a sandbox is worth. -/
noncomputable def Try.pinned : Pinned := { name := "ytbjndbaljenlgaa", sum := "2c6e7320eb4a4847a74630dba31164ad8c524da37f01b6bc31dbf143c27adf10", checked := Try.checked }
namespace Rows
def none {H : Type} : Left H := { results := [], args := [] }

/-- 'laws.FnWorldNew': WHATEVER THE INPUT: true; the input reads as it did. -/
def fnWorldNewSpec : ChangeSpec := { name := "fnWorldNew", fn := fun _ => fun
  | [d] => { results := [.lit (.bool true)], args := [d] }
  | _ => none }
def fnWorldNewRow : OpenClaim := { program := "ytbjndbaljenlgaa", sum := "2c6e7320eb4a4847a74630dba31164ad8c524da37f01b6bc31dbf143c27adf10", func := "loop.example/feedswarm/laws.FnWorldNew", spec := "fnWorldNew", recurses := true, plainKeys := false, apart := false }
def FnWorldNewSaid : Prop := fnWorldNewRow.holds Try.pinned (OpenSpec.ofChange fnWorldNewSpec)

/-- ITS FALSE NEIGHBOUR: 'it returns false'. Refute it at one input. -/
def fnWorldNewWrong : ChangeSpec := { name := "fnWorldNew", fn := fun _ => fun
  | [d] => { results := [.lit (.bool false)], args := [d] }
  | _ => none }
def FnWorldNewWrongFalsely : Prop := fnWorldNewRow.holds Try.pinned (OpenSpec.ofChange fnWorldNewWrong)

/-- 'laws.FnFeedNew': WHATEVER THE INPUT: true; the input reads as it did. -/
def fnFeedNewSpec : ChangeSpec := { name := "fnFeedNew", fn := fun _ => fun
  | [d] => { results := [.lit (.bool true)], args := [d] }
  | _ => none }
def fnFeedNewRow : OpenClaim := { program := "ytbjndbaljenlgaa", sum := "2c6e7320eb4a4847a74630dba31164ad8c524da37f01b6bc31dbf143c27adf10", func := "loop.example/feedswarm/laws.FnFeedNew", spec := "fnFeedNew", recurses := true, plainKeys := false, apart := false }
def FnFeedNewSaid : Prop := fnFeedNewRow.holds Try.pinned (OpenSpec.ofChange fnFeedNewSpec)

/-- ITS FALSE NEIGHBOUR: 'it returns false'. Refute it at one input. -/
def fnFeedNewWrong : ChangeSpec := { name := "fnFeedNew", fn := fun _ => fun
  | [d] => { results := [.lit (.bool false)], args := [d] }
  | _ => none }
def FnFeedNewWrongFalsely : Prop := fnFeedNewRow.holds Try.pinned (OpenSpec.ofChange fnFeedNewWrong)

/-- 'laws.FnServedBest': WHATEVER THE INPUT: true; the input reads as it did. -/
def fnServedBestSpec : ChangeSpec := { name := "fnServedBest", fn := fun _ => fun
  | [d] => { results := [.lit (.bool true)], args := [d] }
  | _ => none }
def fnServedBestRow : OpenClaim := { program := "ytbjndbaljenlgaa", sum := "2c6e7320eb4a4847a74630dba31164ad8c524da37f01b6bc31dbf143c27adf10", func := "loop.example/feedswarm/laws.FnServedBest", spec := "fnServedBest", unfollowed := true, recurses := true, plainKeys := false, apart := false }
def FnServedBestSaid : Prop := fnServedBestRow.holds Try.pinned (OpenSpec.ofChange fnServedBestSpec)

/-- ITS FALSE NEIGHBOUR: 'it returns false'. Refute it at one input. -/
def fnServedBestWrong : ChangeSpec := { name := "fnServedBest", fn := fun _ => fun
  | [d] => { results := [.lit (.bool false)], args := [d] }
  | _ => none }
def FnServedBestWrongFalsely : Prop := fnServedBestRow.holds Try.pinned (OpenSpec.ofChange fnServedBestWrong)

/-- 'laws.FnServedTurn': WHATEVER THE INPUT: true; the input reads as it did. -/
def fnServedTurnSpec : ChangeSpec := { name := "fnServedTurn", fn := fun _ => fun
  | [d] => { results := [.lit (.bool true)], args := [d] }
  | _ => none }
def fnServedTurnRow : OpenClaim := { program := "ytbjndbaljenlgaa", sum := "2c6e7320eb4a4847a74630dba31164ad8c524da37f01b6bc31dbf143c27adf10", func := "loop.example/feedswarm/laws.FnServedTurn", spec := "fnServedTurn", unfollowed := true, recurses := true, plainKeys := false, apart := false }
def FnServedTurnSaid : Prop := fnServedTurnRow.holds Try.pinned (OpenSpec.ofChange fnServedTurnSpec)

/-- ITS FALSE NEIGHBOUR: 'it returns false'. Refute it at one input. -/
def fnServedTurnWrong : ChangeSpec := { name := "fnServedTurn", fn := fun _ => fun
  | [d] => { results := [.lit (.bool false)], args := [d] }
  | _ => none }
def FnServedTurnWrongFalsely : Prop := fnServedTurnRow.holds Try.pinned (OpenSpec.ofChange fnServedTurnWrong)

/-- 'laws.FnExactFeedValid': WHATEVER THE INPUT: true; the input reads as it did. -/
def fnExactFeedValidSpec : ChangeSpec := { name := "fnExactFeedValid", fn := fun _ => fun
  | [d] => { results := [.lit (.bool true)], args := [d] }
  | _ => none }
def fnExactFeedValidRow : OpenClaim := { program := "ytbjndbaljenlgaa", sum := "2c6e7320eb4a4847a74630dba31164ad8c524da37f01b6bc31dbf143c27adf10", func := "loop.example/feedswarm/laws.FnExactFeedValid", spec := "fnExactFeedValid", recurses := true, plainKeys := false, apart := false }
def FnExactFeedValidSaid : Prop := fnExactFeedValidRow.holds Try.pinned (OpenSpec.ofChange fnExactFeedValidSpec)

/-- ITS FALSE NEIGHBOUR: 'it returns false'. Refute it at one input. -/
def fnExactFeedValidWrong : ChangeSpec := { name := "fnExactFeedValid", fn := fun _ => fun
  | [d] => { results := [.lit (.bool false)], args := [d] }
  | _ => none }
def FnExactFeedValidWrongFalsely : Prop := fnExactFeedValidRow.holds Try.pinned (OpenSpec.ofChange fnExactFeedValidWrong)

/-- 'laws.FnFeedPart': WHATEVER THE INPUT: true; the input reads as it did. -/
def fnFeedPartSpec : ChangeSpec := { name := "fnFeedPart", fn := fun _ => fun
  | [d1, d2] => { results := [.lit (.bool true)], args := [d1, d2] }
  | _ => none }
def fnFeedPartRow : OpenClaim := { program := "ytbjndbaljenlgaa", sum := "2c6e7320eb4a4847a74630dba31164ad8c524da37f01b6bc31dbf143c27adf10", func := "loop.example/feedswarm/laws.FnFeedPart", spec := "fnFeedPart", recurses := true, plainKeys := false, apart := false }
def FnFeedPartSaid : Prop := fnFeedPartRow.holds Try.pinned (OpenSpec.ofChange fnFeedPartSpec)

/-- ITS FALSE NEIGHBOUR: 'it returns false'. Refute it at one input. -/
def fnFeedPartWrong : ChangeSpec := { name := "fnFeedPart", fn := fun _ => fun
  | [d1, d2] => { results := [.lit (.bool false)], args := [d1, d2] }
  | _ => none }
def FnFeedPartWrongFalsely : Prop := fnFeedPartRow.holds Try.pinned (OpenSpec.ofChange fnFeedPartWrong)

/-- 'laws.FnExactForkMeet': WHATEVER THE INPUT: true; the input reads as it did. -/
def fnExactForkMeetSpec : ChangeSpec := { name := "fnExactForkMeet", fn := fun _ => fun
  | [d1, d2] => { results := [.lit (.bool true)], args := [d1, d2] }
  | _ => none }
def fnExactForkMeetRow : OpenClaim := { program := "ytbjndbaljenlgaa", sum := "2c6e7320eb4a4847a74630dba31164ad8c524da37f01b6bc31dbf143c27adf10", func := "loop.example/feedswarm/laws.FnExactForkMeet", spec := "fnExactForkMeet", recurses := true, plainKeys := false, apart := false }
def FnExactForkMeetSaid : Prop := fnExactForkMeetRow.holds Try.pinned (OpenSpec.ofChange fnExactForkMeetSpec)

/-- ITS FALSE NEIGHBOUR: 'it returns false'. Refute it at one input. -/
def fnExactForkMeetWrong : ChangeSpec := { name := "fnExactForkMeet", fn := fun _ => fun
  | [d1, d2] => { results := [.lit (.bool false)], args := [d1, d2] }
  | _ => none }
def FnExactForkMeetWrongFalsely : Prop := fnExactForkMeetRow.holds Try.pinned (OpenSpec.ofChange fnExactForkMeetWrong)

/-- 'laws.FnFeedValidWhole': WHATEVER THE INPUT: true; the input reads as it did. -/
def fnFeedValidWholeSpec : ChangeSpec := { name := "fnFeedValidWhole", fn := fun _ => fun
  | [d] => { results := [.lit (.bool true)], args := [d] }
  | _ => none }
def fnFeedValidWholeRow : OpenClaim := { program := "ytbjndbaljenlgaa", sum := "2c6e7320eb4a4847a74630dba31164ad8c524da37f01b6bc31dbf143c27adf10", func := "loop.example/feedswarm/laws.FnFeedValidWhole", spec := "fnFeedValidWhole", recurses := true, plainKeys := false, apart := false }
def FnFeedValidWholeSaid : Prop := fnFeedValidWholeRow.holds Try.pinned (OpenSpec.ofChange fnFeedValidWholeSpec)

/-- ITS FALSE NEIGHBOUR: 'it returns false'. Refute it at one input. -/
def fnFeedValidWholeWrong : ChangeSpec := { name := "fnFeedValidWhole", fn := fun _ => fun
  | [d] => { results := [.lit (.bool false)], args := [d] }
  | _ => none }
def FnFeedValidWholeWrongFalsely : Prop := fnFeedValidWholeRow.holds Try.pinned (OpenSpec.ofChange fnFeedValidWholeWrong)

/-- 'laws.FnForkHonest': WHATEVER THE INPUT: true; the input reads as it did. -/
def fnForkHonestSpec : ChangeSpec := { name := "fnForkHonest", fn := fun _ => fun
  | [d] => { results := [.lit (.bool true)], args := [d] }
  | _ => none }
def fnForkHonestRow : OpenClaim := { program := "ytbjndbaljenlgaa", sum := "2c6e7320eb4a4847a74630dba31164ad8c524da37f01b6bc31dbf143c27adf10", func := "loop.example/feedswarm/laws.FnForkHonest", spec := "fnForkHonest", recurses := true, plainKeys := false, apart := false }
def FnForkHonestSaid : Prop := fnForkHonestRow.holds Try.pinned (OpenSpec.ofChange fnForkHonestSpec)

/-- ITS FALSE NEIGHBOUR: 'it returns false'. Refute it at one input. -/
def fnForkHonestWrong : ChangeSpec := { name := "fnForkHonest", fn := fun _ => fun
  | [d] => { results := [.lit (.bool false)], args := [d] }
  | _ => none }
def FnForkHonestWrongFalsely : Prop := fnForkHonestRow.holds Try.pinned (OpenSpec.ofChange fnForkHonestWrong)

/-- 'laws.FnForkMeet': WHATEVER THE INPUT: true; the input reads as it did. -/
def fnForkMeetSpec : ChangeSpec := { name := "fnForkMeet", fn := fun _ => fun
  | [d] => { results := [.lit (.bool true)], args := [d] }
  | _ => none }
def fnForkMeetRow : OpenClaim := { program := "ytbjndbaljenlgaa", sum := "2c6e7320eb4a4847a74630dba31164ad8c524da37f01b6bc31dbf143c27adf10", func := "loop.example/feedswarm/laws.FnForkMeet", spec := "fnForkMeet", recurses := true, plainKeys := false, apart := false }
def FnForkMeetSaid : Prop := fnForkMeetRow.holds Try.pinned (OpenSpec.ofChange fnForkMeetSpec)

/-- ITS FALSE NEIGHBOUR: 'it returns false'. Refute it at one input. -/
def fnForkMeetWrong : ChangeSpec := { name := "fnForkMeet", fn := fun _ => fun
  | [d] => { results := [.lit (.bool false)], args := [d] }
  | _ => none }
def FnForkMeetWrongFalsely : Prop := fnForkMeetRow.holds Try.pinned (OpenSpec.ofChange fnForkMeetWrong)

/- THE SECOND FORM. 'bulk': how many values and letters a reading holds, each counted each time it is reached (what is shared counts as often as it is met; a slice's spare places count too). A statement '..UptoSaid' is the law's where the arguments, and the package variables that the reading takes, are together of bulk at most 1048576: NARROWER than '..Said'. Prove '..Said' where nothing that the law and all that it calls make is longer than what came in: it says more and counts as full. Else prove '..UptoSaid'. A law counts once. -/
mutual
def uptoBulk {H : Type} : DataW H → Nat
  | .lit (.string bytes) => bytes.length + 1
  | .lit _ => 1
  | .nil => 1
  | .ptr d => uptoBulk d + 1
  | .slice elems spare => uptoBulkAll elems + uptoBulkAll spare + 1
  | .agg parts => uptoBulkAll parts + 1
  | .iface _ d => uptoBulk d + 1
  | .map entries => uptoBulkEntries entries + 1
  | .held _ => 1
def uptoBulkAll {H : Type} : List (DataW H) → Nat
  | [] => 0
  | d :: r => uptoBulk d + uptoBulkAll r
def uptoBulkEntries {H : Type} : List (Lit × DataW H) → Nat
  | [] => 0
  | x :: r => uptoBulkEntry x + uptoBulkEntries r
def uptoBulkEntry {H : Type} : Lit × DataW H → Nat
  | (.string bytes, d) => bytes.length + uptoBulk d + 1
  | (_, d) => uptoBulk d + 1
 end
def uptoSmall : (H : Type) → List (DataW H) → Bool := fun _ ds => decide (uptoBulkAll ds ≤ 1048576)
def OpenSpec.upto (s : _root_.Go.ChangeSpec) : _root_.Go.OpenSpec := { _root_.Go.OpenSpec.ofChange s with cond := some uptoSmall }

/-- 'laws.FnWorldNew', WHERE WHAT IT READS IS OF BULK AT MOST 1048576: true; the input reads as it did. -/
def fnWorldNewUptoRow : OpenClaim := { program := "ytbjndbaljenlgaa", sum := "2c6e7320eb4a4847a74630dba31164ad8c524da37f01b6bc31dbf143c27adf10", func := "loop.example/feedswarm/laws.FnWorldNew", spec := "fnWorldNew", recurses := true, plainKeys := false, apart := false, narrowed := true }
def FnWorldNewUptoSaid : Prop := fnWorldNewUptoRow.holds Try.pinned (OpenSpec.upto fnWorldNewSpec)

/-- 'laws.FnFeedNew', WHERE WHAT IT READS IS OF BULK AT MOST 1048576: true; the input reads as it did. -/
def fnFeedNewUptoRow : OpenClaim := { program := "ytbjndbaljenlgaa", sum := "2c6e7320eb4a4847a74630dba31164ad8c524da37f01b6bc31dbf143c27adf10", func := "loop.example/feedswarm/laws.FnFeedNew", spec := "fnFeedNew", recurses := true, plainKeys := false, apart := false, narrowed := true }
def FnFeedNewUptoSaid : Prop := fnFeedNewUptoRow.holds Try.pinned (OpenSpec.upto fnFeedNewSpec)

/-- 'laws.FnServedBest', WHERE WHAT IT READS IS OF BULK AT MOST 1048576: true; the input reads as it did. -/
def fnServedBestUptoRow : OpenClaim := { program := "ytbjndbaljenlgaa", sum := "2c6e7320eb4a4847a74630dba31164ad8c524da37f01b6bc31dbf143c27adf10", func := "loop.example/feedswarm/laws.FnServedBest", spec := "fnServedBest", unfollowed := true, recurses := true, plainKeys := false, apart := false, narrowed := true }
def FnServedBestUptoSaid : Prop := fnServedBestUptoRow.holds Try.pinned (OpenSpec.upto fnServedBestSpec)

/-- 'laws.FnServedTurn', WHERE WHAT IT READS IS OF BULK AT MOST 1048576: true; the input reads as it did. -/
def fnServedTurnUptoRow : OpenClaim := { program := "ytbjndbaljenlgaa", sum := "2c6e7320eb4a4847a74630dba31164ad8c524da37f01b6bc31dbf143c27adf10", func := "loop.example/feedswarm/laws.FnServedTurn", spec := "fnServedTurn", unfollowed := true, recurses := true, plainKeys := false, apart := false, narrowed := true }
def FnServedTurnUptoSaid : Prop := fnServedTurnUptoRow.holds Try.pinned (OpenSpec.upto fnServedTurnSpec)

/-- 'laws.FnExactFeedValid', WHERE WHAT IT READS IS OF BULK AT MOST 1048576: true; the input reads as it did. -/
def fnExactFeedValidUptoRow : OpenClaim := { program := "ytbjndbaljenlgaa", sum := "2c6e7320eb4a4847a74630dba31164ad8c524da37f01b6bc31dbf143c27adf10", func := "loop.example/feedswarm/laws.FnExactFeedValid", spec := "fnExactFeedValid", recurses := true, plainKeys := false, apart := false, narrowed := true }
def FnExactFeedValidUptoSaid : Prop := fnExactFeedValidUptoRow.holds Try.pinned (OpenSpec.upto fnExactFeedValidSpec)

/-- 'laws.FnFeedPart', WHERE WHAT IT READS IS OF BULK AT MOST 1048576: true; the input reads as it did. -/
def fnFeedPartUptoRow : OpenClaim := { program := "ytbjndbaljenlgaa", sum := "2c6e7320eb4a4847a74630dba31164ad8c524da37f01b6bc31dbf143c27adf10", func := "loop.example/feedswarm/laws.FnFeedPart", spec := "fnFeedPart", recurses := true, plainKeys := false, apart := false, narrowed := true }
def FnFeedPartUptoSaid : Prop := fnFeedPartUptoRow.holds Try.pinned (OpenSpec.upto fnFeedPartSpec)

/-- 'laws.FnExactForkMeet', WHERE WHAT IT READS IS OF BULK AT MOST 1048576: true; the input reads as it did. -/
def fnExactForkMeetUptoRow : OpenClaim := { program := "ytbjndbaljenlgaa", sum := "2c6e7320eb4a4847a74630dba31164ad8c524da37f01b6bc31dbf143c27adf10", func := "loop.example/feedswarm/laws.FnExactForkMeet", spec := "fnExactForkMeet", recurses := true, plainKeys := false, apart := false, narrowed := true }
def FnExactForkMeetUptoSaid : Prop := fnExactForkMeetUptoRow.holds Try.pinned (OpenSpec.upto fnExactForkMeetSpec)

/-- 'laws.FnFeedValidWhole', WHERE WHAT IT READS IS OF BULK AT MOST 1048576: true; the input reads as it did. -/
def fnFeedValidWholeUptoRow : OpenClaim := { program := "ytbjndbaljenlgaa", sum := "2c6e7320eb4a4847a74630dba31164ad8c524da37f01b6bc31dbf143c27adf10", func := "loop.example/feedswarm/laws.FnFeedValidWhole", spec := "fnFeedValidWhole", recurses := true, plainKeys := false, apart := false, narrowed := true }
def FnFeedValidWholeUptoSaid : Prop := fnFeedValidWholeUptoRow.holds Try.pinned (OpenSpec.upto fnFeedValidWholeSpec)

/-- 'laws.FnForkHonest', WHERE WHAT IT READS IS OF BULK AT MOST 1048576: true; the input reads as it did. -/
def fnForkHonestUptoRow : OpenClaim := { program := "ytbjndbaljenlgaa", sum := "2c6e7320eb4a4847a74630dba31164ad8c524da37f01b6bc31dbf143c27adf10", func := "loop.example/feedswarm/laws.FnForkHonest", spec := "fnForkHonest", recurses := true, plainKeys := false, apart := false, narrowed := true }
def FnForkHonestUptoSaid : Prop := fnForkHonestUptoRow.holds Try.pinned (OpenSpec.upto fnForkHonestSpec)

/-- 'laws.FnForkMeet', WHERE WHAT IT READS IS OF BULK AT MOST 1048576: true; the input reads as it did. -/
def fnForkMeetUptoRow : OpenClaim := { program := "ytbjndbaljenlgaa", sum := "2c6e7320eb4a4847a74630dba31164ad8c524da37f01b6bc31dbf143c27adf10", func := "loop.example/feedswarm/laws.FnForkMeet", spec := "fnForkMeet", recurses := true, plainKeys := false, apart := false, narrowed := true }
def FnForkMeetUptoSaid : Prop := fnForkMeetUptoRow.holds Try.pinned (OpenSpec.upto fnForkMeetSpec)

end Rows
end Go.Proofs.Ytbjndbaljenlgaa
