/- A call of a Go function as one step of a region that draws its order. No condition. -/
import Derived.Test.YthnepmhkeceadaaFd
import Derived.Deep.RegionLaw
import Derived.Test.YthnepmhkeceadaaProg
namespace Go.Proofs.Ythnepmhkeceadaa
open Go.RowKit
theorem step_call {P : Program} {ops : Array Oper} {o : Oper} {a : Act} {w : World} {K : Act → World → Prop} {Q : Exit → Act → World → Prop} {E : Prop} {R : Ending → World → Prop} {vs : Array Value} (hgd : o.guard = none) (f : FuncId) (eg : ∀ args w, (callFunc f args).run P w = .ok (.enter f args) w) (xs : Array Operand) (ts : Array TypeId)
    (ho : o.op = .call { callee := .value (.func f), args := xs, argTypes := ts }) (hvs : xs.map a.eval = vs) (hc : Calls P f vs w R) (h : ∀ e w', R e w' → ∃ v, e = .returned v ∧ K (a.put o.dst v) w') :
    if Region.wanted o (yielded ops a.tmps) = true then Oper.wp P o a w K Q else E := by
  have hw : Region.wanted o (yielded ops a.tmps) = true := by simp [Region.wanted, hgd]
  rw [if_pos hw]
  subst hvs
  unfold Oper.wp
  simp [execOp, ho, resolve, invoke, go_sem]
  rw [eg, Oper.upon_enter]
  refine hc.mono fun e w' hr => ?_
  obtain ⟨v, rfl, hk⟩ := h e w' hr
  exact hk
theorem eg37 : ∀ args w, (callFunc 37 args).run Try.prog w = .ok (.enter 37 args) w := fun _ _ => rfl
end Go.Proofs.Ythnepmhkeceadaa
