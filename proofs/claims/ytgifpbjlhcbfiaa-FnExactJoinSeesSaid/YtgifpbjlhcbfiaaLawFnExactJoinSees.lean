/- The law FnExactJoinSees: whatever the input, the call returns true, and what was in memory before stands. No condition. -/
import Derived.Test.YtgifpbjlhcbfiaaRows
import Derived.Test.YtgifpbjlhcbfiaaLEJ
import Derived.Lib.SmallJoins
import Derived.Test.YtgifpbjlhcbfiaaOpenF
import Derived.Test.YtgifpbjlhcbfiaaOpenI
import Derived.Test.YtgifpbjlhcbfiaaClosed
namespace Go.Proofs.Ytgifpbjlhcbfiaa.fnExactJoinSees
open Go.ChangeShapes Go.WideShapes Go.ChangeAt Go.RowKit
open Go.ChangeMaps (open_string shut_string)
set_option linter.unusedVariables false
theorem own : ownKnob Try.prog.godebug = none := by kernel_rfl
theorem laidOut : laidOutB Try.prog = true := by kernel_rfl
set_option maxRecDepth 100000 in
theorem lifted (os : Os) (started : os.Started) (H : Type) (enc : TypeId × Value → H) :
    ReturnsInHanded {} Try.checked os 4 .any (Rows.fnExactJoinSeesSpec.pre6 enc Try.prog Try.f4 Rows.fnExactJoinSeesRow.domain false) (Rows.fnExactJoinSeesSpec.post enc Try.prog Try.f4 false true false false) := by
  refine returnsInHanded_of_change (C := Try.checked) own started (by kernel_rfl) Try.func4
    (ChangeSpec.witness6 (enc := enc) (C := Try.checked) false ⟨#[], #[.slice none 0 0, .agg #[.int .i64 0, .int .i64 0], .agg #[.int .i64 0, .int .i64 0]], []⟩ 8 (by kernel_rfl) (by kernel_rfl) (by kernel_rfl) (by kernel_rfl)) ?_
  intro W base args ds gs before hval0 hW hcnd _
  have hval : ∀ (j : Nat) t v, Try.f4.params[j]? = some t → args[j]? = some v → Value.okWide Try.prog W .any base t v := hval0
  have hW' := hW
  obtain ⟨p, q, hA0, hV, rfl, hfz, hnd⟩ := hW
  have hA : DataW.TrodAll enc Try.prog W 0 (fun _ => true) true Try.f4.params.toList args.toList ds p := hA0
  rw [Try.params4] at hA hval
  obtain ⟨v0, vs0, d0, ds0, p0, q0, hargs, rfl, rfl, h0, r0⟩ := trodAll_cons hA
  obtain ⟨v1, vs1, d1, ds1, p1, q1, rfl, rfl, rfl, h1, r1⟩ := trodAll_cons r0
  obtain ⟨v2, vs2, d2, ds2, p2, q2, rfl, rfl, rfl, h2, r2⟩ := trodAll_cons r1
  obtain ⟨rfl, rfl, rfl⟩ := trodAll_nil r2
  obtain rfl : args = #[v0, v1, v2] := by cases args; simp_all
  obtain ⟨rfl, rfl⟩ := trodVars_none hV
  obtain ⟨a0, len0, cap0, rfl⟩ := okWide_slice Try.underlying22 (hval 0 22 v0 rfl rfl)
  have k0 := h0
  have lt0 : ∀ x ∈ p0, x.block < W.heap.size := by obtain ⟨m, hm⟩ := k0; exact DataW.trod_lt m _ _ _ hm
  obtain ⟨x0, w0⟩ := openFd Try.underlying22 (by kernel_rfl) Try.underlying53 Try.underlying69 (by kernel_rfl) rfl rfl rfl Try.underlying40 Try.underlying3 Try.underlying3 (by kernel_rfl) (by kernel_rfl) (by kernel_rfl) Try.underlying3 (by kernel_rfl) h0
  obtain ⟨c1a, c1b, y1a, y1b, m1, rfl, rfl, rfl, hy1a, hy1b⟩ := Joins.open_agg2 Try.underlying30 (by kernel_rfl) (by kernel_rfl) (hval 1 30 v1 rfl rfl) h1
  obtain ⟨n1a, e1a, rfl, g1a⟩ := DataW.trod_int Try.underlying3 hy1a
  obtain ⟨n1b, e1b, rfl, g1b⟩ := DataW.trod_int Try.underlying3 hy1b
  simp at e1a e1b
  subst e1a e1b
  obtain ⟨c2a, c2b, y2a, y2b, m2, rfl, rfl, rfl, hy2a, hy2b⟩ := Joins.open_agg2 Try.underlying30 (by kernel_rfl) (by kernel_rfl) (hval 2 30 v2 rfl rfl) h2
  obtain ⟨n2a, e2a, rfl, g2a⟩ := DataW.trod_int Try.underlying3 hy2a
  obtain ⟨n2b, e2b, rfl, g2b⟩ := DataW.trod_int Try.underlying3 hy2b
  simp at e2a e2b
  subst e2a e2b
  clear hA0 hval0
  refine (lawFnExactJoinSees_c W (.slice a0 len0 cap0) x0 w0 n1a n1b n2a n2b).mono fun e W' ⟨he, bel⟩ => ?_
  subst he
  exact ⟨_, rfl, _, _, _, [], _, [], hW', trodAll_mk1 (shut_bool Try.underlying4 _), (trodAll_cons_mk (Below.trod laidOut (by kernel_rfl) (of_decide_eq_true (by kernel_rfl)) k0 bel lt0) (trodAll_cons_mk (Joins.shut_agg2 (y0 := (.lit (.int .i64 n1a), [])) (y1 := (.lit (.int .i64 n1b), [])) Try.underlying30 (by kernel_rfl) (by kernel_rfl) (shut_int Try.underlying3 g1a) (shut_int Try.underlying3 g1b)) (trodAll_cons_mk (Joins.shut_agg2 (y0 := (.lit (.int .i64 n2a), [])) (y1 := (.lit (.int .i64 n2b), [])) Try.underlying30 (by kernel_rfl) (by kernel_rfl) (shut_int Try.underlying3 g2a) (shut_int Try.underlying3 g2b)) trodAll_mk0))), rfl, bel.frame _, fun h => by cases h⟩
set_option maxRecDepth 100000 in
theorem closed : joinedFacts Try.prog 4 Try.f4 Rows.fnExactJoinSeesSpec Rows.fnExactJoinSeesRow = true := by
  obtain ⟨rest, h⟩ := hd2
  unfold joinedFacts
  simp only [Bool.and_eq_true]
  repeat' apply And.intro
  iterate 25 (· as_aux_lemma => kernel_rfl)
  · exact mayOf h lays bears door
  · rw [liftsOf h]; rfl
  · rw [makeOf h]; rfl
  all_goals (as_aux_lemma => kernel_rfl)
theorem over : Rows.fnExactJoinSeesRow.holds Try.pinned (OpenSpec.ofChange Rows.fnExactJoinSeesSpec) :=
  OpenClaim.holds_of_wide 4 Try.f4 rfl rfl rfl rfl rfl rfl rfl ⟨rfl, rfl, rfl, rfl, rfl⟩ rfl rfl rfl rfl rfl (by kernel_rfl) Try.func4 closed
    (of_decide_eq_true (by kernel_rfl)) (by unfold Func.isWrapper; first | (rw [if_pos (by decide +kernel)]; kernel_rfl) | (rw [if_neg (by decide +kernel)]; exact ⟨rfl, rfl⟩))
    (fun os started H enc _ => lifted os started H enc)
theorem proved : Rows.FnExactJoinSeesSaid := over
end Go.Proofs.Ytgifpbjlhcbfiaa.fnExactJoinSees
