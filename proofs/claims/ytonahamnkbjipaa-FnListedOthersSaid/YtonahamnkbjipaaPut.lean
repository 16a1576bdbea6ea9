/- The plain law of DirectoryPut, and the walk of the reference's. -/
import Derived.Test.YtonahamnkbjipaaSweep2
import Derived.WalkLawsBesides
import Derived.Deep.RegionLaw
namespace Go.Proofs.Ytonahamnkbjipaa
open Go.RowKit
def lbd (node : Int) (ps : List P2) : Nat := ps.findIdx (fun p => decide (node ≤ p.1))
def ins (node now : Int) (ps : List P2) : List P2 := ps.take (lbd node ps) ++ ([(node, now)] ++ ps.drop (lbd node ps))
def upd (now : Int) (i : Nat) (ps : List P2) : List P2 := ps.set i ((ps.getD i (0, 0)).1, max (ps.getD i (0, 0)).2 now)
def PutArgs (ps : List P2) (node now : Int) : Prop := DV ps ∧ (0 ≤ node ∧ node ≤ 99) ∧ 0 ≤ now ∧ now ≤ 999
instance (ps : List P2) (node now : Int) : Decidable (PutArgs ps node now) := inferInstanceAs (Decidable (_ ∧ _ ∧ _))
def room (now : Int) (ps : List P2) : List P2 := if 8 ≤ ps.length then sw now ps else ps
def dput (ps : List P2) (node now : Int) : List P2 × Bool :=
  if PutArgs ps node now then
    match ps.findIdx? (fun p => p.1 == node) with
    | some i => (upd now i ps, true)
    | none => if 8 ≤ (room now ps).length then (room now ps, false) else (ins node now (room now ps), true)
  else ([], false)
theorem dput_no {ps : List P2} {node now : Int} (h : ¬ PutArgs ps node now) : dput ps node now = ([], false) := by unfold dput; rw [if_neg h]
theorem dput_at {ps : List P2} {node now : Int} (h : PutArgs ps node now) (i : Nat) (hi : i < ps.length) (hk : (ps.getD i (0, 0)).1 = node) (hn : ∀ j, j < i → (ps.getD j (0, 0)).1 ≠ node) : dput ps node now = (upd now i ps, true) := by
  unfold dput
  rw [if_pos h]
  have e : ps.findIdx? (fun p => p.1 == node) = some i := by
    rw [List.findIdx?_eq_some_iff_getElem]
    refine ⟨hi, ?_, fun j hj => ?_⟩
    · rw [List.getD_eq_getElem?_getD, List.getElem?_eq_getElem hi] at hk
      simpa using hk
    · have := hn j hj
      rw [List.getD_eq_getElem?_getD, List.getElem?_eq_getElem (Nat.lt_trans hj hi)] at this
      simpa using this
  rw [e]
theorem dput_none {ps : List P2} {node now : Int} (h : PutArgs ps node now) (hn : ∀ j, j < ps.length → (ps.getD j (0, 0)).1 ≠ node) :
    dput ps node now = if 8 ≤ (room now ps).length then (room now ps, false) else (ins node now (room now ps), true) := by
  unfold dput
  rw [if_pos h]
  have e : ps.findIdx? (fun p => p.1 == node) = none := by
    rw [List.findIdx?_eq_none_iff]
    intro p hp
    obtain ⟨k, hk, rfl⟩ := List.getElem_of_mem hp
    have := hn k hk
    rw [List.getD_eq_getElem?_getD, List.getElem?_eq_getElem hk] at this
    simpa using this
  rw [e]
theorem lbd_at {node : Int} {ps : List P2} {k : Nat} (hk : k ≤ ps.length) (h1 : ∀ j, j < k → (ps.getD j (0, 0)).1 < node) (h2 : k < ps.length → node ≤ (ps.getD k (0, 0)).1) : lbd node ps = k := by
  unfold lbd
  rcases Nat.lt_or_ge k ps.length with h | h
  · rw [List.findIdx_eq h]
    refine ⟨?_, fun j hj => ?_⟩
    · have := h2 h
      rw [List.getD_eq_getElem?_getD, List.getElem?_eq_getElem h] at this
      simpa using this
    · have := h1 j hj
      rw [List.getD_eq_getElem?_getD, List.getElem?_eq_getElem (Nat.lt_trans hj h)] at this
      simpa using this
  · obtain rfl : k = ps.length := by omega
    rw [List.findIdx_eq_length]
    intro p hp
    obtain ⟨j, hj, rfl⟩ := List.getElem_of_mem hp
    have := h1 j hj
    rw [List.getD_eq_getElem?_getD, List.getElem?_eq_getElem hj] at this
    simpa using this
/-- one step of a region that draws: append(out, xs...), elements of two ints, out a slice of the call's own -/
theorem step_apps2 {P : Program} (w : World) {ops : Array Oper} {o : Oper} {a : Act} {K : Act → World → Prop} {Q : Exit → Act → World → Prop} {E : Prop} (hgd : o.guard = none) (s x : Operand) (t : TypeId)
    (ho : o.op = .call { callee := .builtin .append, args := #[s, x], argTypes := #[t, t] }) (base : Nat) (e : TypeId) (hu : P.underlying t = some (.slice e))
    (hinfo : (P.info? e).map (fun i => (i.zero, i.size, i.bytes)) = some (some zero2, 2, 16)) (v : Value) (ps : List P2) (hs : a.eval s = v) (hown : w.ownsRow base e 2 v ps.length (enc2 ps))
    (b off cap : Nat) (qs : List P2) (hx : a.eval x = .slice (some ⟨b, off, none⟩) qs.length cap) (hrd : ∀ j u, (enc2 qs)[j]? = some u → w.cell? ⟨b, off + j, none⟩ = some u) (hn : ps.length + qs.length ≤ 1099511627776) (hb : base ≤ w.heap.size)
    (h : ∀ v' w' rs, Hid (rs = ps ++ qs) → rs.length ≤ ps.length + qs.length → w'.ownsRow base e 2 v' rs.length (enc2 rs) → w.grownBy w' v.ownBlock → K (a.put o.dst v') w') :
    if Region.wanted o (yielded ops a.tmps) = true then Oper.wp P o a w K Q else E := by
  have hw : Region.wanted o (yielded ops a.tmps) = true := by simp [Region.wanted, hgd]
  rw [if_pos hw]
  obtain ⟨i0, hi, hz0, hz1, hz2⟩ := info_parts hinfo
  refine wp_append_own _ s x t ho base e i0 zero2 2 16 hu hi hz0 hz1 hz2 rfl (by decide) v ps.length (enc2 ps) hs hown ⟨b, off, none⟩ qs.length cap (enc2 qs) hx (enc2_len qs) ?_ (enc2_one qs) ?_ ?_ hb ?_
  · intro j u hj
    have hadd : (⟨b, off, none⟩ : Addr).add j = ⟨b, off + j, none⟩ := by unfold Addr.add; split <;> simp_all
    rw [hadd]
    exact hrd j u hj
  · unfold maxLen; omega
  · omega
  · intro v' w' g1 g2 _
    refine h v' w' _ rfl (by simp) ?_ g2
    rw [List.length_append, enc2_app]
    exact g1
end Go.Proofs.Ytonahamnkbjipaa
