/- Closed facts on the translation's head. No condition. -/
import Derived.Test.YtbjndbaljenlgaaRows
import Derived.ProofKit
namespace Go.Proofs.Ytbjndbaljenlgaa
theorem io : Try.prog.initOrder = "harness 32fb42b4dbdcd4fb50dd1db1dff2972a75ce2a995d68c9daddab348b6b7c3859 cut at loop.example/feedswarm/laws.FnWorldNew loop.example/feedswarm/laws.FnFeedNew loop.example/feedswarm/laws.FnServedBest loop.example/feedswarm/laws.FnServedTurn loop.example/feedswarm/laws.FnExactFeedValid loop.example/feedswarm/laws.FnFeedPart loop.example/feedswarm/laws.FnExactForkMeet loop.example/feedswarm/laws.FnFeedValidWhole loop.example/feedswarm/laws.FnForkHonest loop.example/feedswarm/laws.FnForkMeet" := by kernel_rfl
set_option maxRecDepth 100000 in
theorem hd0 : ∃ l, ("harness 32fb42b4dbdcd4fb50dd1db1dff2972a75ce2a995d68c9daddab348b6b7c3859 cut at loop.example/feedswarm/laws.FnWorldNew loop.example/feedswarm/laws.FnFeedNew loop.example/feedswarm/laws.FnServedBest loop.example/feedswarm/laws.FnServedTurn loop.example/feedswarm/laws.FnExactFeedValid loop.example/feedswarm/laws.FnFeedPart loop.example/feedswarm/laws.FnExactForkMeet loop.example/feedswarm/laws.FnFeedValidWhole loop.example/feedswarm/laws.FnForkHonest loop.example/feedswarm/laws.FnForkMeet" : String) = String.ofList l ∧ ((behindMainWord (wordsSigns l)).head? == some "cut".toList) = true := ⟨_, rfl, by kernel_rfl⟩
theorem hd1 : ((behindMainWord (wordsSigns Try.prog.initOrder.toList)).head? == some "cut".toList) = true := by
  rw [io]
  obtain ⟨l, e, h⟩ := hd0
  rw [e, String.toList_ofList]
  exact h
theorem hd2 : ∃ rest, behindMainWord (wordsSigns Try.prog.initOrder.toList) = "cut".toList :: rest := by
  have h := hd1
  cases hb : behindMainWord (wordsSigns Try.prog.initOrder.toList) with
  | nil => rw [hb] at h; cases h
  | cons c rest =>
    rw [hb] at h
    simp only [List.head?_cons, beq_iff_eq, Option.some.injEq] at h
    exact ⟨rest, by rw [h]⟩
theorem strip : ∀ rest, (stripLifts liftWords ("cut".toList :: rest)) = ([], "cut".toList :: rest) := fun rest => by kernel_rfl
theorem lays : Try.prog.laysLater = false := by kernel_rfl
theorem bears : Try.prog.bearsReflect = false := by kernel_rfl
theorem door : Try.prog.doorFits [] = true := by kernel_rfl
theorem cutgc : ("cut".toList == "gc".toList) = false := by kernel_rfl
theorem cutspec : ("cut".toList == "spec".toList) = false := by kernel_rfl
theorem cutcar : (some "cut".toList == some "carried".toList) = false := by kernel_rfl
theorem mayOf {P : Program} {rest : List (List Char)} (h : behindMainWord (wordsSigns P.initOrder.toList) = "cut".toList :: rest) (hl : P.laysLater = false) (hb : P.bearsReflect = false) (hd : P.doorFits [] = true) : P.mayEnter = true := by
  simp only [Program.mayEnter, h, strip, hl, hb, hd, List.head?_cons, beq_self_eq_true, Bool.not_false, Bool.or_true, Bool.and_true, List.contains_nil]
theorem makeOf {P : Program} {rest : List (List Char)} (h : behindMainWord (wordsSigns P.initOrder.toList) = "cut".toList :: rest) : P.make = some .cut := by
  simp only [Program.make, h, cutgc, cutspec, beq_self_eq_true, Bool.true_or, Bool.or_false, if_true, Bool.false_eq_true, if_false]
theorem liftsOf {P : Program} {rest : List (List Char)} (h : behindMainWord (wordsSigns P.initOrder.toList) = "cut".toList :: rest) : P.liftsFinal = false := by
  simp only [Program.liftsFinal, Program.headLifts, h, strip, List.head?_cons, cutcar, Bool.false_and, Bool.false_or, beq_self_eq_true, if_true, List.contains_nil]
end Go.Proofs.Ytbjndbaljenlgaa
