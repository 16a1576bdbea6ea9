/-
  No cell of these rows narrows 'for every input' (looked for: loops, veiled, ifaces, maps, wideKeys, modest, calm, conditions, laid).
  DERIVED. THE GIVEN ROWS OF THIS SEAT. 19 by the template 'for every input the law returns true; each argument reads behind the call as it read before'; 0 by the template 'total and deterministic' (their statements: YtgicdfpcegaooaaTotals.lean).
  GIVEN WITH THE SEED: the statements are not yours to turn. If you find one false, say at which input.
  Laid BY PROGRAM, IN A SANDBOX (cutbox-rows.mjs): the forced cells as the released guide's own fill.sh prints them over the translation ce56a2b16321d60c… (all of the seat's roots in one cut). By AI agents, Wed Nov 11 2026. No macro, syntax, notation, axiom, sorry.
-/
import Derived.Test.YtgicdfpcegaooaaChecked
import GoSem.Claim
import GoSem.ClaimJoined
import GoSem.ClaimMapViews
import Derived.JoinedTies
import Derived.KernelRfl
namespace Go.Proofs.Ytgicdfpcegaooaa
/- THE CELL 'sum', in the pinned program and in every row, IS THE sha256 OF THE DUMP (.gsa) THAT YtgicdfpcegaooaaProg.lean LOADS. Nothing in Lean hashes anything: it is a label: what it is worth is what the hold of that sum in a sandbox is worth. -/
noncomputable def Try.pinned : Pinned := { name := "ytgicdfpcegaooaa", sum := "ce56a2b16321d60c49aa926e9957291e79746cabf5ce65afe1afe8cb72469a98", checked := Try.checked }
namespace Rows
def none {H : Type} : Left H := { results := [], args := [] }

/-- 'laws.FnViewGet': WHATEVER THE INPUT: true; the input reads as it did. -/
def fnViewGetSpec : ChangeSpec := { name := "fnViewGet", fn := fun _ => fun
  | [d] => { results := [.lit (.bool true)], args := [d] }
  | _ => none }
def fnViewGetRow : OpenClaim := { program := "ytgicdfpcegaooaa", sum := "ce56a2b16321d60c49aa926e9957291e79746cabf5ce65afe1afe8cb72469a98", func := "loop.example/feedswarm/laws.FnViewGet", spec := "fnViewGet", apart := false }
def FnViewGetSaid : Prop := fnViewGetRow.holds Try.pinned (OpenSpec.ofChange fnViewGetSpec)

/-- ITS FALSE NEIGHBOUR: 'it returns false'. Refute it at one input. -/
def fnViewGetWrong : ChangeSpec := { name := "fnViewGet", fn := fun _ => fun
  | [d] => { results := [.lit (.bool false)], args := [d] }
  | _ => none }
def FnViewGetWrongFalsely : Prop := fnViewGetRow.holds Try.pinned (OpenSpec.ofChange fnViewGetWrong)

/-- 'laws.FnViewGetNone': WHATEVER THE INPUT: true; the input reads as it did. -/
def fnViewGetNoneSpec : ChangeSpec := { name := "fnViewGetNone", fn := fun _ => fun
  | [d] => { results := [.lit (.bool true)], args := [d] }
  | _ => none }
def fnViewGetNoneRow : OpenClaim := { program := "ytgicdfpcegaooaa", sum := "ce56a2b16321d60c49aa926e9957291e79746cabf5ce65afe1afe8cb72469a98", func := "loop.example/feedswarm/laws.FnViewGetNone", spec := "fnViewGetNone", apart := false }
def FnViewGetNoneSaid : Prop := fnViewGetNoneRow.holds Try.pinned (OpenSpec.ofChange fnViewGetNoneSpec)

/-- ITS FALSE NEIGHBOUR: 'it returns false'. Refute it at one input. -/
def fnViewGetNoneWrong : ChangeSpec := { name := "fnViewGetNone", fn := fun _ => fun
  | [d] => { results := [.lit (.bool false)], args := [d] }
  | _ => none }
def FnViewGetNoneWrongFalsely : Prop := fnViewGetNoneRow.holds Try.pinned (OpenSpec.ofChange fnViewGetNoneWrong)

/-- 'laws.FnExactDirectoryValid': WHATEVER THE INPUT: true; the input reads as it did. -/
def fnExactDirectoryValidSpec : ChangeSpec := { name := "fnExactDirectoryValid", fn := fun _ => fun
  | [d] => { results := [.lit (.bool true)], args := [d] }
  | _ => none }
def fnExactDirectoryValidRow : OpenClaim := { program := "ytgicdfpcegaooaa", sum := "ce56a2b16321d60c49aa926e9957291e79746cabf5ce65afe1afe8cb72469a98", func := "loop.example/feedswarm/laws.FnExactDirectoryValid", spec := "fnExactDirectoryValid", apart := false }
def FnExactDirectoryValidSaid : Prop := fnExactDirectoryValidRow.holds Try.pinned (OpenSpec.ofChange fnExactDirectoryValidSpec)

/-- ITS FALSE NEIGHBOUR: 'it returns false'. Refute it at one input. -/
def fnExactDirectoryValidWrong : ChangeSpec := { name := "fnExactDirectoryValid", fn := fun _ => fun
  | [d] => { results := [.lit (.bool false)], args := [d] }
  | _ => none }
def FnExactDirectoryValidWrongFalsely : Prop := fnExactDirectoryValidRow.holds Try.pinned (OpenSpec.ofChange fnExactDirectoryValidWrong)

/-- 'laws.FnExactViewGet': WHATEVER THE INPUT: true; the input reads as it did. -/
def fnExactViewGetSpec : ChangeSpec := { name := "fnExactViewGet", fn := fun _ => fun
  | [d1, d2] => { results := [.lit (.bool true)], args := [d1, d2] }
  | _ => none }
def fnExactViewGetRow : OpenClaim := { program := "ytgicdfpcegaooaa", sum := "ce56a2b16321d60c49aa926e9957291e79746cabf5ce65afe1afe8cb72469a98", func := "loop.example/feedswarm/laws.FnExactViewGet", spec := "fnExactViewGet", apart := false }
def FnExactViewGetSaid : Prop := fnExactViewGetRow.holds Try.pinned (OpenSpec.ofChange fnExactViewGetSpec)

/-- ITS FALSE NEIGHBOUR: 'it returns false'. Refute it at one input. -/
def fnExactViewGetWrong : ChangeSpec := { name := "fnExactViewGet", fn := fun _ => fun
  | [d1, d2] => { results := [.lit (.bool false)], args := [d1, d2] }
  | _ => none }
def FnExactViewGetWrongFalsely : Prop := fnExactViewGetRow.holds Try.pinned (OpenSpec.ofChange fnExactViewGetWrong)

/-- 'laws.FnExactDirectorySample': WHATEVER THE INPUT: true; the input reads as it did. -/
def fnExactDirectorySampleSpec : ChangeSpec := { name := "fnExactDirectorySample", fn := fun _ => fun
  | [d1, d2, d3] => { results := [.lit (.bool true)], args := [d1, d2, d3] }
  | _ => none }
def fnExactDirectorySampleRow : OpenClaim := { program := "ytgicdfpcegaooaa", sum := "ce56a2b16321d60c49aa926e9957291e79746cabf5ce65afe1afe8cb72469a98", func := "loop.example/feedswarm/laws.FnExactDirectorySample", spec := "fnExactDirectorySample", apart := false }
def FnExactDirectorySampleSaid : Prop := fnExactDirectorySampleRow.holds Try.pinned (OpenSpec.ofChange fnExactDirectorySampleSpec)

/-- ITS FALSE NEIGHBOUR: 'it returns false'. Refute it at one input. -/
def fnExactDirectorySampleWrong : ChangeSpec := { name := "fnExactDirectorySample", fn := fun _ => fun
  | [d1, d2, d3] => { results := [.lit (.bool false)], args := [d1, d2, d3] }
  | _ => none }
def FnExactDirectorySampleWrongFalsely : Prop := fnExactDirectorySampleRow.holds Try.pinned (OpenSpec.ofChange fnExactDirectorySampleWrong)

/-- 'laws.FnSampleAll': WHATEVER THE INPUT: true; the input reads as it did. -/
def fnSampleAllSpec : ChangeSpec := { name := "fnSampleAll", fn := fun _ => fun
  | [d] => { results := [.lit (.bool true)], args := [d] }
  | _ => none }
def fnSampleAllRow : OpenClaim := { program := "ytgicdfpcegaooaa", sum := "ce56a2b16321d60c49aa926e9957291e79746cabf5ce65afe1afe8cb72469a98", func := "loop.example/feedswarm/laws.FnSampleAll", spec := "fnSampleAll", apart := false }
def FnSampleAllSaid : Prop := fnSampleAllRow.holds Try.pinned (OpenSpec.ofChange fnSampleAllSpec)

/-- ITS FALSE NEIGHBOUR: 'it returns false'. Refute it at one input. -/
def fnSampleAllWrong : ChangeSpec := { name := "fnSampleAll", fn := fun _ => fun
  | [d] => { results := [.lit (.bool false)], args := [d] }
  | _ => none }
def FnSampleAllWrongFalsely : Prop := fnSampleAllRow.holds Try.pinned (OpenSpec.ofChange fnSampleAllWrong)

/-- 'laws.FnSampleMore': WHATEVER THE INPUT: true; the input reads as it did. -/
def fnSampleMoreSpec : ChangeSpec := { name := "fnSampleMore", fn := fun _ => fun
  | [d] => { results := [.lit (.bool true)], args := [d] }
  | _ => none }
def fnSampleMoreRow : OpenClaim := { program := "ytgicdfpcegaooaa", sum := "ce56a2b16321d60c49aa926e9957291e79746cabf5ce65afe1afe8cb72469a98", func := "loop.example/feedswarm/laws.FnSampleMore", spec := "fnSampleMore", apart := false }
def FnSampleMoreSaid : Prop := fnSampleMoreRow.holds Try.pinned (OpenSpec.ofChange fnSampleMoreSpec)

/-- ITS FALSE NEIGHBOUR: 'it returns false'. Refute it at one input. -/
def fnSampleMoreWrong : ChangeSpec := { name := "fnSampleMore", fn := fun _ => fun
  | [d] => { results := [.lit (.bool false)], args := [d] }
  | _ => none }
def FnSampleMoreWrongFalsely : Prop := fnSampleMoreRow.holds Try.pinned (OpenSpec.ofChange fnSampleMoreWrong)

/-- 'laws.FnSampleShift': WHATEVER THE INPUT: true; the input reads as it did. -/
def fnSampleShiftSpec : ChangeSpec := { name := "fnSampleShift", fn := fun _ => fun
  | [d] => { results := [.lit (.bool true)], args := [d] }
  | _ => none }
def fnSampleShiftRow : OpenClaim := { program := "ytgicdfpcegaooaa", sum := "ce56a2b16321d60c49aa926e9957291e79746cabf5ce65afe1afe8cb72469a98", func := "loop.example/feedswarm/laws.FnSampleShift", spec := "fnSampleShift", apart := false }
def FnSampleShiftSaid : Prop := fnSampleShiftRow.holds Try.pinned (OpenSpec.ofChange fnSampleShiftSpec)

/-- ITS FALSE NEIGHBOUR: 'it returns false'. Refute it at one input. -/
def fnSampleShiftWrong : ChangeSpec := { name := "fnSampleShift", fn := fun _ => fun
  | [d] => { results := [.lit (.bool false)], args := [d] }
  | _ => none }
def FnSampleShiftWrongFalsely : Prop := fnSampleShiftRow.holds Try.pinned (OpenSpec.ofChange fnSampleShiftWrong)

/-- 'laws.FnExactDirectorySweep': WHATEVER THE INPUT: true; the input reads as it did. -/
def fnExactDirectorySweepSpec : ChangeSpec := { name := "fnExactDirectorySweep", fn := fun _ => fun
  | [d1, d2] => { results := [.lit (.bool true)], args := [d1, d2] }
  | _ => none }
def fnExactDirectorySweepRow : OpenClaim := { program := "ytgicdfpcegaooaa", sum := "ce56a2b16321d60c49aa926e9957291e79746cabf5ce65afe1afe8cb72469a98", func := "loop.example/feedswarm/laws.FnExactDirectorySweep", spec := "fnExactDirectorySweep", unfollowed := true, recurses := true, apart := false }
def FnExactDirectorySweepSaid : Prop := fnExactDirectorySweepRow.holds Try.pinned (OpenSpec.ofChange fnExactDirectorySweepSpec)

/-- ITS FALSE NEIGHBOUR: 'it returns false'. Refute it at one input. -/
def fnExactDirectorySweepWrong : ChangeSpec := { name := "fnExactDirectorySweep", fn := fun _ => fun
  | [d1, d2] => { results := [.lit (.bool false)], args := [d1, d2] }
  | _ => none }
def FnExactDirectorySweepWrongFalsely : Prop := fnExactDirectorySweepRow.holds Try.pinned (OpenSpec.ofChange fnExactDirectorySweepWrong)

/-- 'laws.FnSampleWhole': WHATEVER THE INPUT: true; the input reads as it did. -/
def fnSampleWholeSpec : ChangeSpec := { name := "fnSampleWhole", fn := fun _ => fun
  | [d] => { results := [.lit (.bool true)], args := [d] }
  | _ => none }
def fnSampleWholeRow : OpenClaim := { program := "ytgicdfpcegaooaa", sum := "ce56a2b16321d60c49aa926e9957291e79746cabf5ce65afe1afe8cb72469a98", func := "loop.example/feedswarm/laws.FnSampleWhole", spec := "fnSampleWhole", apart := false }
def FnSampleWholeSaid : Prop := fnSampleWholeRow.holds Try.pinned (OpenSpec.ofChange fnSampleWholeSpec)

/-- ITS FALSE NEIGHBOUR: 'it returns false'. Refute it at one input. -/
def fnSampleWholeWrong : ChangeSpec := { name := "fnSampleWhole", fn := fun _ => fun
  | [d] => { results := [.lit (.bool false)], args := [d] }
  | _ => none }
def FnSampleWholeWrongFalsely : Prop := fnSampleWholeRow.holds Try.pinned (OpenSpec.ofChange fnSampleWholeWrong)

/-- 'laws.FnSample': WHATEVER THE INPUT: true; the input reads as it did. -/
def fnSampleSpec : ChangeSpec := { name := "fnSample", fn := fun _ => fun
  | [d] => { results := [.lit (.bool true)], args := [d] }
  | _ => none }
def fnSampleRow : OpenClaim := { program := "ytgicdfpcegaooaa", sum := "ce56a2b16321d60c49aa926e9957291e79746cabf5ce65afe1afe8cb72469a98", func := "loop.example/feedswarm/laws.FnSample", spec := "fnSample", apart := false }
def FnSampleSaid : Prop := fnSampleRow.holds Try.pinned (OpenSpec.ofChange fnSampleSpec)

/-- ITS FALSE NEIGHBOUR: 'it returns false'. Refute it at one input. -/
def fnSampleWrong : ChangeSpec := { name := "fnSample", fn := fun _ => fun
  | [d] => { results := [.lit (.bool false)], args := [d] }
  | _ => none }
def FnSampleWrongFalsely : Prop := fnSampleRow.holds Try.pinned (OpenSpec.ofChange fnSampleWrong)

/-- 'laws.FnSweepTwice': WHATEVER THE INPUT: true; the input reads as it did. -/
def fnSweepTwiceSpec : ChangeSpec := { name := "fnSweepTwice", fn := fun _ => fun
  | [d] => { results := [.lit (.bool true)], args := [d] }
  | _ => none }
def fnSweepTwiceRow : OpenClaim := { program := "ytgicdfpcegaooaa", sum := "ce56a2b16321d60c49aa926e9957291e79746cabf5ce65afe1afe8cb72469a98", func := "loop.example/feedswarm/laws.FnSweepTwice", spec := "fnSweepTwice", unfollowed := true, recurses := true, apart := false }
def FnSweepTwiceSaid : Prop := fnSweepTwiceRow.holds Try.pinned (OpenSpec.ofChange fnSweepTwiceSpec)

/-- ITS FALSE NEIGHBOUR: 'it returns false'. Refute it at one input. -/
def fnSweepTwiceWrong : ChangeSpec := { name := "fnSweepTwice", fn := fun _ => fun
  | [d] => { results := [.lit (.bool false)], args := [d] }
  | _ => none }
def FnSweepTwiceWrongFalsely : Prop := fnSweepTwiceRow.holds Try.pinned (OpenSpec.ofChange fnSweepTwiceWrong)

/-- 'laws.FnSweep': WHATEVER THE INPUT: true; the input reads as it did. -/
def fnSweepSpec : ChangeSpec := { name := "fnSweep", fn := fun _ => fun
  | [d] => { results := [.lit (.bool true)], args := [d] }
  | _ => none }
def fnSweepRow : OpenClaim := { program := "ytgicdfpcegaooaa", sum := "ce56a2b16321d60c49aa926e9957291e79746cabf5ce65afe1afe8cb72469a98", func := "loop.example/feedswarm/laws.FnSweep", spec := "fnSweep", unfollowed := true, recurses := true, apart := false }
def FnSweepSaid : Prop := fnSweepRow.holds Try.pinned (OpenSpec.ofChange fnSweepSpec)

/-- ITS FALSE NEIGHBOUR: 'it returns false'. Refute it at one input. -/
def fnSweepWrong : ChangeSpec := { name := "fnSweep", fn := fun _ => fun
  | [d] => { results := [.lit (.bool false)], args := [d] }
  | _ => none }
def FnSweepWrongFalsely : Prop := fnSweepRow.holds Try.pinned (OpenSpec.ofChange fnSweepWrong)

/-- 'laws.FnListedFull': WHATEVER THE INPUT: true; the input reads as it did. -/
def fnListedFullSpec : ChangeSpec := { name := "fnListedFull", fn := fun _ => fun
  | [d] => { results := [.lit (.bool true)], args := [d] }
  | _ => none }
def fnListedFullRow : OpenClaim := { program := "ytgicdfpcegaooaa", sum := "ce56a2b16321d60c49aa926e9957291e79746cabf5ce65afe1afe8cb72469a98", func := "loop.example/feedswarm/laws.FnListedFull", spec := "fnListedFull", inPlace := ["slices.overlaps[loop.example/feedswarm/impl.Listed]"], unfollowed := true, recurses := true, apart := false }
def FnListedFullSaid : Prop := fnListedFullRow.holds Try.pinned (OpenSpec.ofChange fnListedFullSpec)

/-- ITS FALSE NEIGHBOUR: 'it returns false'. Refute it at one input. -/
def fnListedFullWrong : ChangeSpec := { name := "fnListedFull", fn := fun _ => fun
  | [d] => { results := [.lit (.bool false)], args := [d] }
  | _ => none }
def FnListedFullWrongFalsely : Prop := fnListedFullRow.holds Try.pinned (OpenSpec.ofChange fnListedFullWrong)

/-- 'laws.FnListedSize': WHATEVER THE INPUT: true; the input reads as it did. -/
def fnListedSizeSpec : ChangeSpec := { name := "fnListedSize", fn := fun _ => fun
  | [d] => { results := [.lit (.bool true)], args := [d] }
  | _ => none }
def fnListedSizeRow : OpenClaim := { program := "ytgicdfpcegaooaa", sum := "ce56a2b16321d60c49aa926e9957291e79746cabf5ce65afe1afe8cb72469a98", func := "loop.example/feedswarm/laws.FnListedSize", spec := "fnListedSize", inPlace := ["slices.overlaps[loop.example/feedswarm/impl.Listed]"], unfollowed := true, recurses := true, apart := false }
def FnListedSizeSaid : Prop := fnListedSizeRow.holds Try.pinned (OpenSpec.ofChange fnListedSizeSpec)

/-- ITS FALSE NEIGHBOUR: 'it returns false'. Refute it at one input. -/
def fnListedSizeWrong : ChangeSpec := { name := "fnListedSize", fn := fun _ => fun
  | [d] => { results := [.lit (.bool false)], args := [d] }
  | _ => none }
def FnListedSizeWrongFalsely : Prop := fnListedSizeRow.holds Try.pinned (OpenSpec.ofChange fnListedSizeWrong)

/-- 'laws.FnListedTwice': WHATEVER THE INPUT: true; the input reads as it did. -/
def fnListedTwiceSpec : ChangeSpec := { name := "fnListedTwice", fn := fun _ => fun
  | [d] => { results := [.lit (.bool true)], args := [d] }
  | _ => none }
def fnListedTwiceRow : OpenClaim := { program := "ytgicdfpcegaooaa", sum := "ce56a2b16321d60c49aa926e9957291e79746cabf5ce65afe1afe8cb72469a98", func := "loop.example/feedswarm/laws.FnListedTwice", spec := "fnListedTwice", inPlace := ["slices.overlaps[loop.example/feedswarm/impl.Listed]"], unfollowed := true, recurses := true, apart := false }
def FnListedTwiceSaid : Prop := fnListedTwiceRow.holds Try.pinned (OpenSpec.ofChange fnListedTwiceSpec)

/-- ITS FALSE NEIGHBOUR: 'it returns false'. Refute it at one input. -/
def fnListedTwiceWrong : ChangeSpec := { name := "fnListedTwice", fn := fun _ => fun
  | [d] => { results := [.lit (.bool false)], args := [d] }
  | _ => none }
def FnListedTwiceWrongFalsely : Prop := fnListedTwiceRow.holds Try.pinned (OpenSpec.ofChange fnListedTwiceWrong)

/-- 'laws.FnExactDirectoryPut': WHATEVER THE INPUT: true; the input reads as it did. -/
def fnExactDirectoryPutSpec : ChangeSpec := { name := "fnExactDirectoryPut", fn := fun _ => fun
  | [d1, d2, d3] => { results := [.lit (.bool true)], args := [d1, d2, d3] }
  | _ => none }
def fnExactDirectoryPutRow : OpenClaim := { program := "ytgicdfpcegaooaa", sum := "ce56a2b16321d60c49aa926e9957291e79746cabf5ce65afe1afe8cb72469a98", func := "loop.example/feedswarm/laws.FnExactDirectoryPut", spec := "fnExactDirectoryPut", inPlace := ["slices.overlaps[loop.example/feedswarm/impl.Listed]"], unfollowed := true, recurses := true, apart := false }
def FnExactDirectoryPutSaid : Prop := fnExactDirectoryPutRow.holds Try.pinned (OpenSpec.ofChange fnExactDirectoryPutSpec)

/-- ITS FALSE NEIGHBOUR: 'it returns false'. Refute it at one input. -/
def fnExactDirectoryPutWrong : ChangeSpec := { name := "fnExactDirectoryPut", fn := fun _ => fun
  | [d1, d2, d3] => { results := [.lit (.bool false)], args := [d1, d2, d3] }
  | _ => none }
def FnExactDirectoryPutWrongFalsely : Prop := fnExactDirectoryPutRow.holds Try.pinned (OpenSpec.ofChange fnExactDirectoryPutWrong)

/-- 'laws.FnListed': WHATEVER THE INPUT: true; the input reads as it did. -/
def fnListedSpec : ChangeSpec := { name := "fnListed", fn := fun _ => fun
  | [d] => { results := [.lit (.bool true)], args := [d] }
  | _ => none }
def fnListedRow : OpenClaim := { program := "ytgicdfpcegaooaa", sum := "ce56a2b16321d60c49aa926e9957291e79746cabf5ce65afe1afe8cb72469a98", func := "loop.example/feedswarm/laws.FnListed", spec := "fnListed", inPlace := ["slices.overlaps[loop.example/feedswarm/impl.Listed]"], unfollowed := true, recurses := true, apart := false }
def FnListedSaid : Prop := fnListedRow.holds Try.pinned (OpenSpec.ofChange fnListedSpec)

/-- ITS FALSE NEIGHBOUR: 'it returns false'. Refute it at one input. -/
def fnListedWrong : ChangeSpec := { name := "fnListed", fn := fun _ => fun
  | [d] => { results := [.lit (.bool false)], args := [d] }
  | _ => none }
def FnListedWrongFalsely : Prop := fnListedRow.holds Try.pinned (OpenSpec.ofChange fnListedWrong)

/-- 'laws.FnListedOthers': WHATEVER THE INPUT: true; the input reads as it did. -/
def fnListedOthersSpec : ChangeSpec := { name := "fnListedOthers", fn := fun _ => fun
  | [d] => { results := [.lit (.bool true)], args := [d] }
  | _ => none }
def fnListedOthersRow : OpenClaim := { program := "ytgicdfpcegaooaa", sum := "ce56a2b16321d60c49aa926e9957291e79746cabf5ce65afe1afe8cb72469a98", func := "loop.example/feedswarm/laws.FnListedOthers", spec := "fnListedOthers", inPlace := ["slices.overlaps[loop.example/feedswarm/impl.Listed]"], unfollowed := true, recurses := true, apart := false }
def FnListedOthersSaid : Prop := fnListedOthersRow.holds Try.pinned (OpenSpec.ofChange fnListedOthersSpec)

/-- ITS FALSE NEIGHBOUR: 'it returns false'. Refute it at one input. -/
def fnListedOthersWrong : ChangeSpec := { name := "fnListedOthers", fn := fun _ => fun
  | [d] => { results := [.lit (.bool false)], args := [d] }
  | _ => none }
def FnListedOthersWrongFalsely : Prop := fnListedOthersRow.holds Try.pinned (OpenSpec.ofChange fnListedOthersWrong)

/- THE SECOND FORM. 'bulk': how many values and letters a reading holds, each counted each time it is reached (what is shared counts as often as it is met; a slice's spare places count too). A statement '..UptoSaid' is the law's where the arguments, and the package variables that the reading takes, are together of bulk at most 1048576: NARROWER than '..Said'. Prove '..Said' where nothing that the law and all that it calls make is longer than what came in: it says more and counts as full. Else prove '..UptoSaid'. A law counts once. -/
mutual
def uptoBulk {H : Type} : DataW H → Nat
  | .lit (.string bytes) => bytes.length + 1
  | .lit _ => 1
  | .nil => 1
  | .ptr d => uptoBulk d + 1
  | .slice elems spare => uptoBulkAll elems + uptoBulkAll spare + 1
  | .agg parts => uptoBulkAll parts + 1
  | .iface _ d => uptoBulk d + 1
  | .map entries => uptoBulkEntries entries + 1
  | .held _ => 1
def uptoBulkAll {H : Type} : List (DataW H) → Nat
  | [] => 0
  | d :: r => uptoBulk d + uptoBulkAll r
def uptoBulkEntries {H : Type} : List (Lit × DataW H) → Nat
  | [] => 0
  | x :: r => uptoBulkEntry x + uptoBulkEntries r
def uptoBulkEntry {H : Type} : Lit × DataW H → Nat
  | (.string bytes, d) => bytes.length + uptoBulk d + 1
  | (_, d) => uptoBulk d + 1
 end
def uptoSmall : (H : Type) → List (DataW H) → Bool := fun _ ds => decide (uptoBulkAll ds ≤ 1048576)
def OpenSpec.upto (s : _root_.Go.ChangeSpec) : _root_.Go.OpenSpec := { _root_.Go.OpenSpec.ofChange s with cond := some uptoSmall }

/-- 'laws.FnViewGet', WHERE WHAT IT READS IS OF BULK AT MOST 1048576: true; the input reads as it did. -/
def fnViewGetUptoRow : OpenClaim := { program := "ytgicdfpcegaooaa", sum := "ce56a2b16321d60c49aa926e9957291e79746cabf5ce65afe1afe8cb72469a98", func := "loop.example/feedswarm/laws.FnViewGet", spec := "fnViewGet", apart := false, narrowed := true }
def FnViewGetUptoSaid : Prop := fnViewGetUptoRow.holds Try.pinned (OpenSpec.upto fnViewGetSpec)

/-- 'laws.FnViewGetNone', WHERE WHAT IT READS IS OF BULK AT MOST 1048576: true; the input reads as it did. -/
def fnViewGetNoneUptoRow : OpenClaim := { program := "ytgicdfpcegaooaa", sum := "ce56a2b16321d60c49aa926e9957291e79746cabf5ce65afe1afe8cb72469a98", func := "loop.example/feedswarm/laws.FnViewGetNone", spec := "fnViewGetNone", apart := false, narrowed := true }
def FnViewGetNoneUptoSaid : Prop := fnViewGetNoneUptoRow.holds Try.pinned (OpenSpec.upto fnViewGetNoneSpec)

/-- 'laws.FnExactDirectoryValid', WHERE WHAT IT READS IS OF BULK AT MOST 1048576: true; the input reads as it did. -/
def fnExactDirectoryValidUptoRow : OpenClaim := { program := "ytgicdfpcegaooaa", sum := "ce56a2b16321d60c49aa926e9957291e79746cabf5ce65afe1afe8cb72469a98", func := "loop.example/feedswarm/laws.FnExactDirectoryValid", spec := "fnExactDirectoryValid", apart := false, narrowed := true }
def FnExactDirectoryValidUptoSaid : Prop := fnExactDirectoryValidUptoRow.holds Try.pinned (OpenSpec.upto fnExactDirectoryValidSpec)

/-- 'laws.FnExactViewGet', WHERE WHAT IT READS IS OF BULK AT MOST 1048576: true; the input reads as it did. -/
def fnExactViewGetUptoRow : OpenClaim := { program := "ytgicdfpcegaooaa", sum := "ce56a2b16321d60c49aa926e9957291e79746cabf5ce65afe1afe8cb72469a98", func := "loop.example/feedswarm/laws.FnExactViewGet", spec := "fnExactViewGet", apart := false, narrowed := true }
def FnExactViewGetUptoSaid : Prop := fnExactViewGetUptoRow.holds Try.pinned (OpenSpec.upto fnExactViewGetSpec)

/-- 'laws.FnExactDirectorySample', WHERE WHAT IT READS IS OF BULK AT MOST 1048576: true; the input reads as it did. -/
def fnExactDirectorySampleUptoRow : OpenClaim := { program := "ytgicdfpcegaooaa", sum := "ce56a2b16321d60c49aa926e9957291e79746cabf5ce65afe1afe8cb72469a98", func := "loop.example/feedswarm/laws.FnExactDirectorySample", spec := "fnExactDirectorySample", apart := false, narrowed := true }
def FnExactDirectorySampleUptoSaid : Prop := fnExactDirectorySampleUptoRow.holds Try.pinned (OpenSpec.upto fnExactDirectorySampleSpec)

/-- 'laws.FnSampleAll', WHERE WHAT IT READS IS OF BULK AT MOST 1048576: true; the input reads as it did. -/
def fnSampleAllUptoRow : OpenClaim := { program := "ytgicdfpcegaooaa", sum := "ce56a2b16321d60c49aa926e9957291e79746cabf5ce65afe1afe8cb72469a98", func := "loop.example/feedswarm/laws.FnSampleAll", spec := "fnSampleAll", apart := false, narrowed := true }
def FnSampleAllUptoSaid : Prop := fnSampleAllUptoRow.holds Try.pinned (OpenSpec.upto fnSampleAllSpec)

/-- 'laws.FnSampleMore', WHERE WHAT IT READS IS OF BULK AT MOST 1048576: true; the input reads as it did. -/
def fnSampleMoreUptoRow : OpenClaim := { program := "ytgicdfpcegaooaa", sum := "ce56a2b16321d60c49aa926e9957291e79746cabf5ce65afe1afe8cb72469a98", func := "loop.example/feedswarm/laws.FnSampleMore", spec := "fnSampleMore", apart := false, narrowed := true }
def FnSampleMoreUptoSaid : Prop := fnSampleMoreUptoRow.holds Try.pinned (OpenSpec.upto fnSampleMoreSpec)

/-- 'laws.FnSampleShift', WHERE WHAT IT READS IS OF BULK AT MOST 1048576: true; the input reads as it did. -/
def fnSampleShiftUptoRow : OpenClaim := { program := "ytgicdfpcegaooaa", sum := "ce56a2b16321d60c49aa926e9957291e79746cabf5ce65afe1afe8cb72469a98", func := "loop.example/feedswarm/laws.FnSampleShift", spec := "fnSampleShift", apart := false, narrowed := true }
def FnSampleShiftUptoSaid : Prop := fnSampleShiftUptoRow.holds Try.pinned (OpenSpec.upto fnSampleShiftSpec)

/-- 'laws.FnExactDirectorySweep', WHERE WHAT IT READS IS OF BULK AT MOST 1048576: true; the input reads as it did. -/
def fnExactDirectorySweepUptoRow : OpenClaim := { program := "ytgicdfpcegaooaa", sum := "ce56a2b16321d60c49aa926e9957291e79746cabf5ce65afe1afe8cb72469a98", func := "loop.example/feedswarm/laws.FnExactDirectorySweep", spec := "fnExactDirectorySweep", unfollowed := true, recurses := true, apart := false, narrowed := true }
def FnExactDirectorySweepUptoSaid : Prop := fnExactDirectorySweepUptoRow.holds Try.pinned (OpenSpec.upto fnExactDirectorySweepSpec)

/-- 'laws.FnSampleWhole', WHERE WHAT IT READS IS OF BULK AT MOST 1048576: true; the input reads as it did. -/
def fnSampleWholeUptoRow : OpenClaim := { program := "ytgicdfpcegaooaa", sum := "ce56a2b16321d60c49aa926e9957291e79746cabf5ce65afe1afe8cb72469a98", func := "loop.example/feedswarm/laws.FnSampleWhole", spec := "fnSampleWhole", apart := false, narrowed := true }
def FnSampleWholeUptoSaid : Prop := fnSampleWholeUptoRow.holds Try.pinned (OpenSpec.upto fnSampleWholeSpec)

/-- 'laws.FnSample', WHERE WHAT IT READS IS OF BULK AT MOST 1048576: true; the input reads as it did. -/
def fnSampleUptoRow : OpenClaim := { program := "ytgicdfpcegaooaa", sum := "ce56a2b16321d60c49aa926e9957291e79746cabf5ce65afe1afe8cb72469a98", func := "loop.example/feedswarm/laws.FnSample", spec := "fnSample", apart := false, narrowed := true }
def FnSampleUptoSaid : Prop := fnSampleUptoRow.holds Try.pinned (OpenSpec.upto fnSampleSpec)

/-- 'laws.FnSweepTwice', WHERE WHAT IT READS IS OF BULK AT MOST 1048576: true; the input reads as it did. -/
def fnSweepTwiceUptoRow : OpenClaim := { program := "ytgicdfpcegaooaa", sum := "ce56a2b16321d60c49aa926e9957291e79746cabf5ce65afe1afe8cb72469a98", func := "loop.example/feedswarm/laws.FnSweepTwice", spec := "fnSweepTwice", unfollowed := true, recurses := true, apart := false, narrowed := true }
def FnSweepTwiceUptoSaid : Prop := fnSweepTwiceUptoRow.holds Try.pinned (OpenSpec.upto fnSweepTwiceSpec)

/-- 'laws.FnSweep', WHERE WHAT IT READS IS OF BULK AT MOST 1048576: true; the input reads as it did. -/
def fnSweepUptoRow : OpenClaim := { program := "ytgicdfpcegaooaa", sum := "ce56a2b16321d60c49aa926e9957291e79746cabf5ce65afe1afe8cb72469a98", func := "loop.example/feedswarm/laws.FnSweep", spec := "fnSweep", unfollowed := true, recurses := true, apart := false, narrowed := true }
def FnSweepUptoSaid : Prop := fnSweepUptoRow.holds Try.pinned (OpenSpec.upto fnSweepSpec)

/-- 'laws.FnListedFull', WHERE WHAT IT READS IS OF BULK AT MOST 1048576: true; the input reads as it did. -/
def fnListedFullUptoRow : OpenClaim := { program := "ytgicdfpcegaooaa", sum := "ce56a2b16321d60c49aa926e9957291e79746cabf5ce65afe1afe8cb72469a98", func := "loop.example/feedswarm/laws.FnListedFull", spec := "fnListedFull", inPlace := ["slices.overlaps[loop.example/feedswarm/impl.Listed]"], unfollowed := true, recurses := true, apart := false, narrowed := true }
def FnListedFullUptoSaid : Prop := fnListedFullUptoRow.holds Try.pinned (OpenSpec.upto fnListedFullSpec)

/-- 'laws.FnListedSize', WHERE WHAT IT READS IS OF BULK AT MOST 1048576: true; the input reads as it did. -/
def fnListedSizeUptoRow : OpenClaim := { program := "ytgicdfpcegaooaa", sum := "ce56a2b16321d60c49aa926e9957291e79746cabf5ce65afe1afe8cb72469a98", func := "loop.example/feedswarm/laws.FnListedSize", spec := "fnListedSize", inPlace := ["slices.overlaps[loop.example/feedswarm/impl.Listed]"], unfollowed := true, recurses := true, apart := false, narrowed := true }
def FnListedSizeUptoSaid : Prop := fnListedSizeUptoRow.holds Try.pinned (OpenSpec.upto fnListedSizeSpec)

/-- 'laws.FnListedTwice', WHERE WHAT IT READS IS OF BULK AT MOST 1048576: true; the input reads as it did. -/
def fnListedTwiceUptoRow : OpenClaim := { program := "ytgicdfpcegaooaa", sum := "ce56a2b16321d60c49aa926e9957291e79746cabf5ce65afe1afe8cb72469a98", func := "loop.example/feedswarm/laws.FnListedTwice", spec := "fnListedTwice", inPlace := ["slices.overlaps[loop.example/feedswarm/impl.Listed]"], unfollowed := true, recurses := true, apart := false, narrowed := true }
def FnListedTwiceUptoSaid : Prop := fnListedTwiceUptoRow.holds Try.pinned (OpenSpec.upto fnListedTwiceSpec)

/-- 'laws.FnExactDirectoryPut', WHERE WHAT IT READS IS OF BULK AT MOST 1048576: true; the input reads as it did. -/
def fnExactDirectoryPutUptoRow : OpenClaim := { program := "ytgicdfpcegaooaa", sum := "ce56a2b16321d60c49aa926e9957291e79746cabf5ce65afe1afe8cb72469a98", func := "loop.example/feedswarm/laws.FnExactDirectoryPut", spec := "fnExactDirectoryPut", inPlace := ["slices.overlaps[loop.example/feedswarm/impl.Listed]"], unfollowed := true, recurses := true, apart := false, narrowed := true }
def FnExactDirectoryPutUptoSaid : Prop := fnExactDirectoryPutUptoRow.holds Try.pinned (OpenSpec.upto fnExactDirectoryPutSpec)

/-- 'laws.FnListed', WHERE WHAT IT READS IS OF BULK AT MOST 1048576: true; the input reads as it did. -/
def fnListedUptoRow : OpenClaim := { program := "ytgicdfpcegaooaa", sum := "ce56a2b16321d60c49aa926e9957291e79746cabf5ce65afe1afe8cb72469a98", func := "loop.example/feedswarm/laws.FnListed", spec := "fnListed", inPlace := ["slices.overlaps[loop.example/feedswarm/impl.Listed]"], unfollowed := true, recurses := true, apart := false, narrowed := true }
def FnListedUptoSaid : Prop := fnListedUptoRow.holds Try.pinned (OpenSpec.upto fnListedSpec)

/-- 'laws.FnListedOthers', WHERE WHAT IT READS IS OF BULK AT MOST 1048576: true; the input reads as it did. -/
def fnListedOthersUptoRow : OpenClaim := { program := "ytgicdfpcegaooaa", sum := "ce56a2b16321d60c49aa926e9957291e79746cabf5ce65afe1afe8cb72469a98", func := "loop.example/feedswarm/laws.FnListedOthers", spec := "fnListedOthers", inPlace := ["slices.overlaps[loop.example/feedswarm/impl.Listed]"], unfollowed := true, recurses := true, apart := false, narrowed := true }
def FnListedOthersUptoSaid : Prop := fnListedOthersUptoRow.holds Try.pinned (OpenSpec.upto fnListedOthersSpec)

end Rows
end Go.Proofs.Ytgicdfpcegaooaa
