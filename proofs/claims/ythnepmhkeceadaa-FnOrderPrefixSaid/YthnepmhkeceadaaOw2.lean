/- Entries in memory of the call's own: one row, one entry opened, changed and put back. No condition. -/
import Derived.Test.YthnepmhkeceadaaJwK
namespace Go.Proofs.Ythnepmhkeceadaa
open Go.RowKit
theorem getD_set {α : Type} (l : List α) (i j : Nat) (x d : α) (hi : i < l.length) : (l.set i x).getD j d = if j = i then x else l.getD j d := by
  by_cases e : j = i
  · subst e; simp [List.getD, hi]
  · rw [if_neg e]; simp [List.getD, Ne.symm e]
/-- One row of the own entries: opened, and the ways back. -/
theorem OwnF.row {S : Nat → Prop} {w : World} {v : Value} {F : Fd} (h : OwnF S w v F) {j : Nat} (hj : j < F.length) :
    ∃ (g cap : Nat) (rv : Value) (T : Nat → Prop), v = .slice (some ⟨g, 0, none⟩) F.length cap ∧ F.length ≤ cap ∧ cap ≤ maxLen ∧ g < w.heap.size ∧ S g ∧ w.cell? ⟨g, j, none⟩ = some rv ∧ w.frozen? ⟨g, j, none⟩ = false ∧
      OwnR T w rv (F.getD j []) ∧ (∀ b, T b → S b ∧ b ≠ g) ∧
      (∀ w' es', Chg T w w' → OwnR T w' rv es' → OwnF S w' v (F.set j es')) ∧
      (∀ w' rv' es' (U : Nat → Prop), Chg T w w' → OwnR (fun b => T b ∨ U b) w' rv' es' → (∀ b, U b → ¬ (S b ∧ b < w.heap.size)) → OwnF (fun b => S b ∨ U b) (w'.setCell ⟨g, j, none⟩ rv') v (F.set j es')) := by
  obtain ⟨lab, rvs, h1, h2, h3, h4⟩ := h
  obtain ⟨g, cap, rfl, hg, hle, hcm⟩ : ∃ g cap, v = .slice (some ⟨g, 0, none⟩) F.length cap ∧ g < w.heap.size ∧ F.length ≤ cap ∧ cap ≤ maxLen := by
    rcases own_cases h2 with ⟨-, h0, -⟩ | ⟨g, cap, rfl, -, a, b, c⟩
    · omega
    · exact ⟨g, cap, rfl, a, b, c⟩
  have hgl := h3 g rfl
  have hl : rvs.length = F.length * 1 := h2.1
  have hcell : w.cell? ⟨g, j, none⟩ = some (rvs.getD j undef) := by
    rw [h2.cellAt j (by omega), List.getD_eq_getElem?_getD, List.getElem?_eq_getElem (by omega)]; rfl
  refine ⟨g, cap, rvs.getD j undef, fun b => S b ∧ lab b = j + 1, rfl, hle, hcm, hg, hgl.1, hcell, h2.frozenAt j, h4 j hj, fun b hb => ⟨hb.1, fun e => by have := hgl.2; rw [← e] at this; have := hb.2; omega⟩, fun w' es' hc ho => ?_, fun w' rv' es' U hc ho hU => ?_⟩
  · refine ⟨lab, rvs, by rw [h1, List.length_set], by rw [List.length_set]; exact own_chg h2 hc (fun k hk e => by have := (h3 k hk).2; have := e.2; omega), h3, fun i hi => ?_⟩
    rw [List.length_set] at hi
    rw [getD_set F j i es' [] hj]
    by_cases e : i = j
    · subst e; rw [if_pos rfl]; exact ho
    · rw [if_neg e]
      exact (h4 i hi).chg hc fun k hk hh => by have := hk.2; have := hh.2; omega
  · have hsz := hc.size
    have h2' := own_chg h2 hc (fun k hk e => by have := (h3 k hk).2; have := e.2; omega)
    have hset : Chg (fun b => b = g) w' (w'.setCell ⟨g, j, none⟩ rv') := Chg.setC (Chg.refl _ _) rfl
    classical
    refine ⟨fun b => if S b ∧ b < w.heap.size then lab b else j + 1, rvs.set j rv', by simp [h1], by rw [List.length_set]; exact (h2'.stored j rv').1, fun b hb => ?_, fun i hi => ?_⟩
    · obtain rfl : g = b := by simpa [Value.ownBlock] using hb
      refine ⟨.inl hgl.1, ?_⟩
      dsimp only
      rw [if_pos ⟨hgl.1, hg⟩]
      exact hgl.2
    · rw [List.length_set] at hi
      rw [getD_set F j i es' [] hj, getD_set rvs j i rv' undef (by omega)]
      by_cases e : i = j
      · subst e
        rw [if_pos rfl, if_pos rfl]
        refine (ho.chg hset fun b hb e => ?_).sub fun b _ hb => ?_
        · rcases hb with hb | hb
          · have := hgl.2; rw [← e] at this; have := hb.2; omega
          · exact hU b hb (by rw [e]; exact ⟨hgl.1, hg⟩)
        · rcases hb with hb | hb
          · refine ⟨.inl hb.1, ?_⟩
            dsimp only
            split
            · exact hb.2
            · rfl
          · refine ⟨.inr hb, ?_⟩
            dsimp only
            rw [if_neg (hU b hb)]
      · rw [if_neg e, if_neg e]
        have k1 : OwnR (fun b => (S b ∧ lab b = i + 1) ∧ b < w.heap.size) w (rvs.getD i undef) (F.getD i []) := (h4 i hi).sub fun b hb hh => ⟨hh, hb⟩
        refine ((k1.chg hc fun b hb hh => by have := hb.1.2; have := hh.2; omega).chg hset fun b hb e => ?_).sub fun b _ hb => ⟨.inl hb.1.1, ?_⟩
        · have := hgl.2; rw [← e] at this; have := hb.1.2; omega
        · dsimp only
          rw [if_pos ⟨hb.1.1, hb.2⟩]; exact hb.1.2
theorem encE_set0 : ∀ (cvs : List Value) (es : List Ent), cvs.length = es.length → ∀ k, k < es.length → ∀ cv' e', encE (cvs.set k cv') (es.set k e') = (((encE cvs es).set (k * 3) cv').set (k * 3 + 1) (.int .i64 e'.2.1)).set (k * 3 + 2) (.int .i64 e'.2.2)
  | [], [], _, _, hk, _, _ => by simp at hk
  | [], _ :: _, h, _, _, _, _ => by simp at h
  | _ :: _, [], h, _, _, _, _ => by simp at h
  | c :: cvs, x :: es, h, 0, _, cv', e' => by simp [encE]
  | c :: cvs, x :: es, h, k + 1, hk, cv', e' => by
    have := encE_set0 cvs es (by simpa using h) k (by simpa using hk) cv' e'
    have e1 : (k + 1) * 3 = k * 3 + 1 + 1 + 1 := by omega
    rw [e1]
    simp only [List.set_cons_succ, encE, this]
theorem set_get_id {α : Type} (l : List α) (k : Nat) (x : α) (h : l[k]? = some x) : l.set k x = l := by
  obtain ⟨hl, e⟩ := List.getElem?_eq_some_iff.1 h
  rw [← e]; exact List.set_getElem_self hl
/-- One entry of an own row: opened, and the ways back. -/
theorem OwnR.entry {S : Nat → Prop} {w : World} {v : Value} {es : List Ent} (h : OwnR S w v es) {i : Nat} (hi : i < es.length) :
    ∃ (g cap : Nat) (cv : Value), v = .slice (some ⟨g, 0, none⟩) es.length cap ∧ es.length ≤ cap ∧ cap ≤ maxLen ∧ S g ∧
      w.cell? ⟨g, i * 3, none⟩ = some cv ∧ w.cell? ⟨g, i * 3 + 1, none⟩ = some (.int .i64 (es.getD i e0).2.1) ∧ w.cell? ⟨g, i * 3 + 2, none⟩ = some (.int .i64 (es.getD i e0).2.2) ∧ (∀ o, w.frozen? ⟨g, o, none⟩ = false) ∧
      w.ownsRow 0 3 1 cv (es.getD i e0).1.length (enc1 (es.getD i e0).1) ∧ (∀ b, cv.ownBlock = some b → S b ∧ b ≠ g) ∧
      (∀ k', OwnR S (w.setCell ⟨g, i * 3 + 1, none⟩ (.int .i64 k')) v (es.set i ((es.getD i e0).1, k', (es.getD i e0).2.2))) ∧
      (∀ gc j z, cv.ownBlock = some gc → OwnR S (w.setCell ⟨gc, j, none⟩ (.int .i64 z)) v (es.set i ((es.getD i e0).1.set j z, (es.getD i e0).2.1, (es.getD i e0).2.2))) ∧
      (∀ cv' c', w.ownsRow 0 3 1 cv' c'.length (enc1 c') → cv'.ownBlock = cv.ownBlock → OwnR S (w.setCell ⟨g, i * 3, none⟩ cv') v (es.set i (c', (es.getD i e0).2.1, (es.getD i e0).2.2))) := by
  obtain ⟨lab, cvs, h1, h2, h3, h4⟩ := h
  obtain ⟨g, cap, rfl, hg, hle, hcm⟩ : ∃ g cap, v = .slice (some ⟨g, 0, none⟩) es.length cap ∧ g < w.heap.size ∧ es.length ≤ cap ∧ cap ≤ maxLen := by
    rcases own_cases h2 with ⟨-, h0, -⟩ | ⟨g, cap, rfl, -, a, b, c⟩
    · omega
    · exact ⟨g, cap, rfl, a, b, c⟩
  have hgl := h3 g rfl
  obtain ⟨c1, c2, c3⟩ := encE_at cvs es h1 i hi
  have hl := encE_len cvs es h1
  obtain ⟨o1, o2⟩ := h4 i hi
  have hcg : ∀ b, (cvs.getD i undef).ownBlock = some b → S b ∧ b ≠ g := fun b hb => ⟨(o2 b hb).1, fun e => by have := (o2 b hb).2; have := hgl.2; rw [← e] at this; omega⟩
  -- what a store into the row's own block leaves of the clocks
  have keep : ∀ (o : Nat) (u : Value) (k : Nat), k < es.length → (w.setCell ⟨g, o, none⟩ u).ownsRow 0 3 1 (cvs.getD k undef) (es.getD k e0).1.length (enc1 (es.getD k e0).1) := fun o u k hk =>
    own_chg (T := fun b => b = g) (h4 k hk).1 (Chg.setC (Chg.refl _ _) rfl) (fun b hb e => by have := ((h4 k hk).2 b hb).2; have := hgl.2; rw [← e] at this; omega)
  have hrowb : ∀ b, (Value.slice (some ⟨g, 0, none⟩) es.length cap).ownBlock = some b → S b ∧ lab b = 0 := h3
  refine ⟨g, cap, cvs.getD i undef, rfl, hle, hcm, hgl.1, (h2.cellAt (i * 3) (by omega)).trans c1, (h2.cellAt (i * 3 + 1) (by omega)).trans c2, (h2.cellAt (i * 3 + 2) (by omega)).trans c3, fun o => h2.frozenAt o, o1, hcg, fun k' => ?_, fun gc j z hgc => ?_, fun cv' c' ho hcb => ?_⟩
  · refine ⟨lab, cvs, by rw [h1, List.length_set], ?_, hrowb, fun k hk => ?_⟩
    · rw [List.length_set]
      have := (h2.stored (i * 3 + 1) (.int .i64 k')).1
      have e : encE cvs (es.set i ((es.getD i e0).1, k', (es.getD i e0).2.2)) = (encE cvs es).set (i * 3 + 1) (.int .i64 k') := by
        have := encE_set0 cvs es h1 i hi (cvs.getD i undef) ((es.getD i e0).1, k', (es.getD i e0).2.2)
        rw [set_get_id cvs i _ (by rw [List.getD_eq_getElem?_getD, List.getElem?_eq_getElem (by omega)]; rfl), set_get_id (encE cvs es) _ _ c1] at this
        rw [this]
        refine set_get_id _ _ _ ?_
        rw [List.getElem?_set_ne (by omega)]
        exact c3
      rw [e]
      exact this
    · rw [List.length_set] at hk
      rw [getD_set es i k _ e0 hi]
      by_cases e : k = i
      · subst e; rw [if_pos rfl]; exact ⟨keep _ _ k hk, (h4 k hk).2⟩
      · rw [if_neg e]; exact ⟨keep _ _ k hk, (h4 k hk).2⟩
  · have hb := o2 gc hgc
    refine ⟨lab, cvs, by rw [h1, List.length_set], ?_, hrowb, fun k hk => ?_⟩
    · rw [List.length_set]
      have e : encE cvs (es.set i ((es.getD i e0).1.set j z, (es.getD i e0).2.1, (es.getD i e0).2.2)) = encE cvs es := by
        have := encE_set0 cvs es h1 i hi (cvs.getD i undef) ((es.getD i e0).1.set j z, (es.getD i e0).2.1, (es.getD i e0).2.2)
        rw [set_get_id cvs i _ (by rw [List.getD_eq_getElem?_getD, List.getElem?_eq_getElem (by omega)]; rfl), set_get_id (encE cvs es) _ _ c1, set_get_id (encE cvs es) _ _ c2, set_get_id (encE cvs es) _ _ c3] at this
        exact this
      rw [e]
      exact own_chg (T := fun b => b = gc) h2 (Chg.setC (Chg.refl _ _) rfl) (fun b hb' e => by have := (h3 b hb').2; rw [e] at this; have := hb.2; omega)
    · rw [List.length_set] at hk
      rw [getD_set es i k _ e0 hi]
      by_cases e : k = i
      · subst e
        rw [if_pos rfl]
        refine ⟨?_, (h4 k hk).2⟩
        rcases own_cases o1 with ⟨hv, -, -⟩ | ⟨g2, cap2, hv, -⟩
        · rw [hv] at hgc; simp [Value.ownBlock] at hgc
        · rw [hv] at hgc o1 ⊢
          obtain rfl : g2 = gc := by simpa [Value.ownBlock] using hgc
          have := (o1.stored j (.int .i64 z)).1
          simp only [List.length_set]
          rw [show enc1 ((es.getD k e0).1.set j z) = (enc1 (es.getD k e0).1).set j (.int .i64 z) by simp [enc1, List.map_set]]
          exact this
      · rw [if_neg e]
        refine ⟨own_chg (T := fun b => b = gc) (h4 k hk).1 (Chg.setC (Chg.refl _ _) rfl) (fun b hb' e' => ?_), (h4 k hk).2⟩
        have := ((h4 k hk).2 b hb').2
        rw [e'] at this
        have := hb.2
        omega
  · refine ⟨lab, cvs.set i cv', by rw [List.length_set, h1, List.length_set], ?_, hrowb, fun k hk => ?_⟩
    · rw [List.length_set]
      have := (h2.stored (i * 3) cv').1
      have e : encE (cvs.set i cv') (es.set i (c', (es.getD i e0).2.1, (es.getD i e0).2.2)) = (encE cvs es).set (i * 3) cv' := by
        rw [encE_set0 cvs es h1 i hi cv' (c', (es.getD i e0).2.1, (es.getD i e0).2.2)]
        rw [set_get_id ((encE cvs es).set (i * 3) cv') (i * 3 + 1) _ (by rw [List.getElem?_set_ne (by omega)]; exact c2)]
        exact set_get_id _ _ _ (by rw [List.getElem?_set_ne (by omega)]; exact c3)
      rw [e]
      exact this
    · rw [List.length_set] at hk
      rw [getD_set es i k _ e0 hi, getD_set cvs i k cv' undef (by omega)]
      by_cases e : k = i
      · subst e
        rw [if_pos rfl, if_pos rfl]
        refine ⟨own_chg (T := fun b => b = g) ho (Chg.setC (Chg.refl _ _) rfl) (fun b hb' e => ?_), fun b hb' => by rw [hcb] at hb'; exact (h4 k hk).2 b hb'⟩
        rw [hcb] at hb'
        exact (hcg b hb').2 e
      · rw [if_neg e, if_neg e]
        exact ⟨keep _ _ k hk, (h4 k hk).2⟩
end Go.Proofs.Ythnepmhkeceadaa
