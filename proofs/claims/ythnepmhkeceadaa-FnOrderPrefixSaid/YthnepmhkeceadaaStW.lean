/- Steps of a region that draws its order, at operations that stand under a guard which is decided. No condition. -/
import Derived.Test.YthnepmhkeceadaaStep
import Derived.Test.YthnepmhkeceadaaBase
import Derived.Deep.AppendLies
namespace Go.Proofs.Ythnepmhkeceadaa
open Go.RowKit
theorem step_callW {P : Program} {ops : Array Oper} {o : Oper} {a : Act} {w : World} {K : Act → World → Prop} {Q : Exit → Act → World → Prop} {E : Prop} {R : Ending → World → Prop} {vs : Array Value} (hw : Region.wanted o (yielded ops a.tmps) = true) (f : FuncId) (eg : ∀ args w, (callFunc f args).run P w = .ok (.enter f args) w) (xs : Array Operand) (ts : Array TypeId)
    (ho : o.op = .call { callee := .value (.func f), args := xs, argTypes := ts }) (hvs : xs.map a.eval = vs) (hc : Calls P f vs w R) (h : ∀ e w', R e w' → ∃ v, e = .returned v ∧ K (a.put o.dst v) w') :
    if Region.wanted o (yielded ops a.tmps) = true then Oper.wp P o a w K Q else E := by
  rw [if_pos hw]
  subst hvs
  unfold Oper.wp
  simp [execOp, ho, resolve, invoke, go_sem]
  rw [eg, Oper.upon_enter]
  refine hc.mono fun e w' hr => ?_
  obtain ⟨v, rfl, hk⟩ := h e w' hr
  exact hk
/-- append of some structs of two ints onto a slice of the call's own; where the new slice lies -/
theorem step_appW {P : Program} (w : World) {ops : Array Oper} {o : Oper} {a : Act} {K : Act → World → Prop} {Q : Exit → Act → World → Prop} {E : Prop} (hw : Region.wanted o (yielded ops a.tmps) = true) (s x : Operand) (t : TypeId)
    (ho : o.op = .call { callee := .builtin .append, args := #[s, x], argTypes := #[t, t] }) (base : Nat) (e : TypeId) (hu : P.underlying t = some (.slice e))
    (hinfo : (P.info? e).map (fun i => (i.zero, i.size, i.bytes)) = some (some zero2, 2, 16)) (v : Value) (ps : List P2) (hs : a.eval s = v) (hown : w.ownsRow base e 2 v ps.length (enc2 ps))
    (b off m cap : Nat) (qs : List P2) (hm : qs.length = m) (hm0 : 0 < m) (hx : a.eval x = .slice (some ⟨b, off, none⟩) m cap) (hrd : ∀ j u, (enc2 qs)[j]? = some u → w.cell? ⟨b, off + j, none⟩ = some u) (hn : ps.length + m ≤ 1099511627776) (hb : base ≤ w.heap.size)
    (h : ∀ g cap' w' rs, Hid (rs = ps ++ qs) → w'.ownsRow base e 2 (.slice (some ⟨g, 0, none⟩) (ps.length + m) cap') (ps.length + m) (enc2 rs) → w.grownBy w' v.ownBlock → (v.ownBlock = some g ∨ g = w.heap.size) → g < w'.heap.size → K (a.put o.dst (.slice (some ⟨g, 0, none⟩) (ps.length + m) cap')) w') :
    if Region.wanted o (yielded ops a.tmps) = true then Oper.wp P o a w K Q else E := by
  subst hm
  rw [if_pos hw]
  obtain ⟨i0, hi, hz0, hz1, hz2⟩ := info_parts hinfo
  refine wp_append_lies w s x t ho base e i0 zero2 2 16 hu hi hz0 hz1 hz2 rfl (by decide) v ps.length (enc2 ps) hs hown ⟨b, off, none⟩ qs.length cap (enc2 qs) hx (enc2_len qs) ?_ (enc2_one qs) hm0 ?_ ?_ hb w.heap.size rfl ?_
  · intro j u hj
    have hadd : (⟨b, off, none⟩ : Addr).add j = ⟨b, off + j, none⟩ := by unfold Addr.add; split <;> simp_all
    rw [hadd]
    exact hrd j u hj
  · unfold maxLen; omega
  · omega
  · intro g cap' w' g1 g2 g3 g4
    refine h g cap' w' _ rfl ?_ g2 g3 g4
    rw [enc2_app]
    exact g1
end Go.Proofs.Ythnepmhkeceadaa
