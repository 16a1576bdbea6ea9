/- Contracts of the draws of entries: bent ones. -/
import Derived.Test.YthnepmhkeceadaaJwN
import Derived.Deep.RegionHeld3
import Derived.Deep.DrawnRows
namespace Go.Proofs.Ythnepmhkeceadaa
open Go.RowKit
attribute [local go_sem ↓] Go.wp_at_zero Go.wp_at_succ
/-- a row without its first entry -/
theorem RdR.tail {S : Nat → Prop} {w : World} {b off n cap : Nat} {es : List Ent} (h : RdR S w (.slice (some ⟨b, off, none⟩) n cap) es) (hn : 1 ≤ n) : RdR S w (.slice (some ⟨b, off + 3, none⟩) (n - 1) (cap - 1)) (es.drop 1) := by
  obtain ⟨-, a, c, e, h1, h2, h3⟩ := h
  simp only [Value.slice.injEq] at e
  obtain ⟨rfl, rfl, rfl⟩ := e
  obtain ⟨b', off', e, h4⟩ := h3 (by omega)
  simp only [Option.some.injEq, Addr.mk.injEq, and_true] at e
  obtain ⟨rfl, rfl⟩ := e
  refine ⟨.inr ⟨_, _, _, rfl⟩, _, cap - 1, by rw [List.length_drop], by rw [List.length_drop]; omega, by omega, fun _ => ⟨b, off + 3, rfl, fun i hi => ?_⟩⟩
  rw [List.length_drop] at hi
  have := h4 (i + 1) (by omega)
  rw [show off + 3 + i * 3 = off + (i + 1) * 3 by omega, show (es.drop 1).getD i e0 = es.getD (i + 1) e0 by simp [List.getD, Nat.add_comm]]
  exact this
/-- the first two rows -/
theorem RdF.take2 {S : Nat → Prop} {w : World} {b off cap : Nat} {F : Fd} (h : RdF S w (.slice (some ⟨b, off, none⟩) 3 cap) F) : RdF S w (.slice (some ⟨b, off, none⟩) 2 cap) (F.take 2) := by
  obtain ⟨-, a, c, e, h1, h2, h3⟩ := h
  simp only [Value.slice.injEq] at e
  obtain ⟨rfl, hl, rfl⟩ := e
  have hl2 : (F.take 2).length = 2 := by rw [List.length_take]; omega
  refine ⟨.inr ⟨_, _, _, rfl⟩, _, cap, by rw [hl2], by omega, h2, fun _ => ?_⟩
  obtain ⟨b', off', e, h4⟩ := h3 (by omega)
  refine ⟨b', off', e, fun j hj => ?_⟩
  rw [hl2] at hj
  have := h4 j (by omega)
  rw [show (F.take 2).getD j [] = F.getD j [] by simp [List.getD, List.getElem?_take, hj]]
  exact this
/-- One row of own entries replaced by one that can be read. -/
theorem OwnF.setRd {S : Nat → Prop} {w : World} {g n cap : Nat} {F : Fd} (h : OwnF S w (.slice (some ⟨g, 0, none⟩) n cap) F) {j : Nat} (hj : j < F.length) (rv' : Value) (es' : List Ent) (hr : RdR (fun b => S b ∧ b ≠ g) w rv' es') :
    RdF S (w.setCell ⟨g, j, none⟩ rv') (.slice (some ⟨g, 0, none⟩) n cap) (F.set j es') := by
  obtain ⟨lab, rvs, h1, h2, h3, h4⟩ := h
  have hgl := h3 g rfl
  obtain ⟨hn, hle, hcm⟩ : F.length = n ∧ n ≤ cap ∧ cap ≤ maxLen := by
    rcases own_cases h2 with ⟨hv, -⟩ | ⟨g', cap', hv, -, -, a, b⟩
    · simp at hv
    · simp at hv; obtain ⟨-, rfl, rfl⟩ := hv; exact ⟨rfl, a, b⟩
  have hl : rvs.length = F.length * 1 := h2.1
  have hcell : ∀ i, i < F.length → w.cell? ⟨g, i, none⟩ = some (rvs.getD i undef) := fun i hi => by
    have h2' := h2
    rw [hn] at h2'
    rw [h2'.cellAt i (by omega), List.getD_eq_getElem?_getD, List.getElem?_eq_getElem (by omega)]; rfl
  have keep : ∀ {T : Nat → Prop} {v : Value} {es : List Ent}, RdR T w v es → (∀ b, T b → b ≠ g) → RdR T (w.setCell ⟨g, j, none⟩ rv') v es := fun hh ht => hh.chg (T := fun b => b = g) (Chg.setC (Chg.refl _ _) rfl) (fun k hk e => ht k hk e)
  refine ⟨.inr ⟨_, _, _, rfl⟩, _, cap, by rw [List.length_set, hn], by rw [List.length_set]; omega, hcm, fun _ => ⟨g, 0, rfl, fun i hi => ?_⟩⟩
  rw [List.length_set] at hi
  rw [getD_set F j i es' [] hj, Nat.zero_add]
  by_cases e : i = j
  · subst e
    rw [if_pos rfl]
    exact ⟨rv', ⟨hgl.1, World.cell?_setCell_same _ _ _ (hcell i hi)⟩, (keep hr (fun b hb => hb.2)).sub fun b _ hb => hb.1⟩
  · rw [if_neg e]
    refine ⟨rvs.getD i undef, ⟨hgl.1, (World.cell?_setCell_other _ _ _ _ (by intro h'; simp at h' <;> omega)).trans (hcell i hi)⟩, (keep (h4 i hi).rd (fun b hb e' => ?_)).sub fun b _ hb => hb.1⟩
    have := hb.2; rw [e'] at this; have := hgl.2; omega
/-- One entry of the own entries, opened to its cells, and the ways back. -/
theorem OwnF.openE {S : Nat → Prop} {w : World} {v : Value} {F : Fd} (h : OwnF S w v F) {j i : Nat} (hj : j < F.length) (hi : i < ln F j) :
    ∃ (g cap gr capr : Nat) (cv : Value), v = .slice (some ⟨g, 0, none⟩) F.length cap ∧ F.length ≤ cap ∧ cap ≤ maxLen ∧ S g ∧ w.cell? ⟨g, j, none⟩ = some (.slice (some ⟨gr, 0, none⟩) (ln F j) capr) ∧ w.frozen? ⟨g, j, none⟩ = false ∧
      ln F j ≤ capr ∧ capr ≤ maxLen ∧ S gr ∧ gr ≠ g ∧ (∀ o, w.frozen? ⟨gr, o, none⟩ = false) ∧
      w.cell? ⟨gr, i * 3, none⟩ = some cv ∧ w.cell? ⟨gr, i * 3 + 1, none⟩ = some (.int .i64 (ent F j i).2.1) ∧ w.cell? ⟨gr, i * 3 + 2, none⟩ = some (.int .i64 (ent F j i).2.2) ∧
      w.ownsRow 0 3 1 cv (ent F j i).1.length (enc1 (ent F j i).1) ∧ (∀ b, cv.ownBlock = some b → S b ∧ b ≠ g ∧ b ≠ gr) ∧
      (∀ k', OwnF S (w.setCell ⟨gr, i * 3 + 1, none⟩ (.int .i64 k')) v (F.set j ((F.getD j []).set i ((ent F j i).1, k', (ent F j i).2.2)))) ∧
      (∀ gc x z, cv.ownBlock = some gc → OwnF S (w.setCell ⟨gc, x, none⟩ (.int .i64 z)) v (F.set j ((F.getD j []).set i ((ent F j i).1.set x z, (ent F j i).2.1, (ent F j i).2.2)))) ∧
      (∀ cv' c', w.ownsRow 0 3 1 cv' c'.length (enc1 c') → cv'.ownBlock = cv.ownBlock → OwnF S (w.setCell ⟨gr, i * 3, none⟩ cv') v (F.set j ((F.getD j []).set i (c', (ent F j i).2.1, (ent F j i).2.2)))) ∧
      RdR (fun b => S b ∧ b ≠ g) w (.slice (some ⟨gr, 0, none⟩) (ln F j) capr) (F.getD j []) := by
  obtain ⟨g, cap, rv, T, rfl, gle, gcm, gsz, hSg, crow, frow, hOR, hT, close, -⟩ := h.row hj
  obtain ⟨gr, capr, cv, rfl, rle, rcm, hTr, e0c, e1c, e2c, efr, hcv, hcb, setK, setC, setS⟩ := hOR.entry (show i < (F.getD j []).length from hi)
  refine ⟨g, cap, gr, capr, cv, rfl, gle, gcm, hSg, crow, frow, rle, rcm, (hT gr hTr).1, (hT gr hTr).2, efr, e0c, e1c, e2c, hcv, fun b hb => ⟨(hT b (hcb b hb).1).1, (hT b (hcb b hb).1).2, (hcb b hb).2⟩, fun k' => ?_, fun gc x z hgc => ?_, fun cv' c' ho hb => ?_, ?_⟩
  · exact close _ _ (Chg.setC (Chg.refl _ _) hTr) (setK k')
  · exact close _ _ (Chg.setC (Chg.refl _ _) (hcb gc hgc).1) (setC gc x z hgc)
  · exact close _ _ (Chg.setC (Chg.refl _ _) hTr) (setS cv' c' ho hb)
  · exact hOR.rd.sub fun b _ hb => hT b hb
/-- The ways back, the entry's cells being known. -/
theorem OwnF.close {S : Nat → Prop} {w : World} {g n cap : Nat} {F : Fd} (h : OwnF S w (.slice (some ⟨g, 0, none⟩) n cap) F) {j i : Nat} (hj : j < F.length) (hi : i < ln F j) {gr m capr : Nat}
    (c1 : w.cell? ⟨g, j, none⟩ = some (.slice (some ⟨gr, 0, none⟩) m capr)) {cv : Value} (c2 : w.cell? ⟨gr, i * 3, none⟩ = some cv) :
    w.ownsRow 0 3 1 cv (ent F j i).1.length (enc1 (ent F j i).1) ∧
      (∀ k', OwnF S (w.setCell ⟨gr, i * 3 + 1, none⟩ (.int .i64 k')) (.slice (some ⟨g, 0, none⟩) n cap) (F.set j ((F.getD j []).set i ((ent F j i).1, k', (ent F j i).2.2)))) ∧
      (∀ gc x z, cv.ownBlock = some gc → OwnF S (w.setCell ⟨gc, x, none⟩ (.int .i64 z)) (.slice (some ⟨g, 0, none⟩) n cap) (F.set j ((F.getD j []).set i ((ent F j i).1.set x z, (ent F j i).2.1, (ent F j i).2.2)))) ∧
      (∀ cv' c', w.ownsRow 0 3 1 cv' c'.length (enc1 c') → cv'.ownBlock = cv.ownBlock → OwnF S (w.setCell ⟨gr, i * 3, none⟩ cv') (.slice (some ⟨g, 0, none⟩) n cap) (F.set j ((F.getD j []).set i (c', (ent F j i).2.1, (ent F j i).2.2)))) ∧
      RdR (fun b => S b ∧ b ≠ g) w (.slice (some ⟨gr, 0, none⟩) m capr) (F.getD j []) := by
  obtain ⟨g', cap', gr', capr', cv', ev, -, -, -, d1, -, -, -, -, -, -, d2, -, -, hcv, -, a1, a2, a3, a4⟩ := h.openE hj hi
  simp only [Value.slice.injEq, Option.some.injEq, Addr.mk.injEq, and_true, true_and] at ev
  obtain ⟨rfl, rfl, rfl⟩ := ev
  rw [c1] at d1
  simp only [Option.some.injEq, Value.slice.injEq, Addr.mk.injEq, and_true] at d1
  obtain ⟨rfl, rfl, rfl⟩ := d1
  rw [c2] at d2
  simp only [Option.some.injEq] at d2
  subst d2
  exact ⟨hcv, a1, a2, a3, a4⟩
theorem own_take2 {w : World} {b cap : Nat} {c : List Int} (h : w.ownsRow 0 3 1 (.slice (some ⟨b, 0, none⟩) 3 cap) 3 (enc1 c)) (hc : c.length = 3) : w.ownsRow 0 3 1 (.slice (some ⟨b, 0, none⟩) 2 cap) 2 (enc1 (c.take 2)) := by
  obtain ⟨h1, h2⟩ := h
  rcases h2 with ⟨hv, -⟩ | ⟨g, cap', cur, hv, hb, hh, hn, hm, hs, ht⟩
  · simp at hv
  · simp at hv
    obtain ⟨rfl, rfl⟩ := hv
    refine ⟨by simp [enc1, hc], .inr ⟨b, cap, cur, rfl, hb, hh, by omega, hm, hs, ?_⟩⟩
    have e : enc1 (c.take 2) = (enc1 c).take 2 := by simp [enc1, List.map_take]
    rw [e, ← ht, List.take_take]
    simp
def BentPost (B r P : Nat) (w : World) (e : Ending) (w' : World) : Prop :=
  ∃ (v : Value) (F : Fd), e = .returned v ∧ RdF (fun b => w.heap.size ≤ b) w' v F ∧ (∀ w, ln F w ≤ 8) ∧ F.length ≤ 3 ∧ 2 ≤ F.length ∧ Reader B w' r P ∧ w.grownBy w' (some r)
theorem jv8 {F : Fd} (h : JV F) : ∀ w, ln F w ≤ 8 := fun w => by
  by_cases hw : w < 3
  · exact h.2.1 w hw
  · unfold ln
    rw [List.getD_eq_getElem?_getD, List.getElem?_eq_none (by rw [h.1]; omega)]
    exact Nat.zero_le _
theorem ln_set {F : Fd} {j : Nat} {es : List Ent} (hj : j < F.length) (h : ∀ w, ln F w ≤ 8) (he : es.length ≤ 8) : ∀ w, ln (F.set j es) w ≤ 8 := fun w => by
  unfold ln
  rw [getD_set F j w es [] hj]
  split
  · exact he
  · exact h w
theorem grown_drew {a b : World} {row : Option Nat} (h : a.grownBy b row) : a.grownBy b.drew row := ⟨h.os, h.tape, h.output, h.size, h.block⟩
theorem ln_take2 {F : Fd} (h : ∀ w, ln F w ≤ 8) : ∀ w, ln (F.take 2) w ≤ 8 := fun w => by
  by_cases hw : w < 2
  · have : ln (F.take 2) w = ln F w := by unfold ln; simp [List.getD, List.getElem?_take, hw]
    rw [this]; exact h w
  · have : ln (F.take 2) w = 0 := by unfold ln; simp [List.getD, List.getElem?_take, hw]
    rw [this]; exact Nat.zero_le _
theorem RdR.tail0 {S : Nat → Prop} {w : World} {b off cap : Nat} {es : List Ent} (h : es.length = 1) : RdR S w (.slice (some ⟨b, off, none⟩) 0 0) (es.drop 1) ∧ cap = cap := by
  have e : es.drop 1 = [] := List.drop_eq_nil_of_le (by omega)
  rw [e]
  exact ⟨⟨.inr ⟨_, _, _, rfl⟩, _, 0, rfl, Nat.le_refl _, by simp [maxLen], fun h => absurd rfl h⟩, rfl⟩
theorem BentPost.drew {B r P : Nat} {w w' : World} {e : Ending} (h : BentPost B r P w e w') : BentPost B r P w e w'.drew := by
  obtain ⟨v, F, h1, h2, h3, h4, h5, h6, h7⟩ := h
  exact ⟨v, F, h1, h2.below (Below.refl _ _).drew, h3, h4, h5, h6, grown_drew h7⟩
set_option maxRecDepth 100000 in
set_option maxHeartbeats 6400000 in
theorem l92Bent_c {S : Nat → Prop} (B r P : Nat) (F : Fd) (fv : Value) (W : World) (hR : Reader B W r P) (hP : P ≤ 4294967200) (h : RdF S W fv F) (hj : JV F) :
    Calls Try.prog 33 #[.pointer (some ⟨r, 0, none⟩), fv] W (BentPost B r (P + 8) W) := by
  have HJ := Lib.hid hj
  have H := Lib.hid h
  have hrB := hR.1
  have hBW := hR.2.1
  have hrW : r < W.heap.size := Nat.lt_of_lt_of_le hrB hBW
  have hrS : ¬ W.heap.size ≤ r := by omega
  clear h hj
  go_enter Try.func33, Try.ntmps33
  go_wp2_with fail
  refine (l31Copy_c F _ _ H.out HJ.out).mono ?_
  rintro e w1 ⟨vc, rfl, hF1, hb1⟩
  have HR1 := Lib.hid (hR.below hb1)
  have HG1 := Lib.hid (below_grown hb1 (some r))
  clear hR hb1
  go_wp2_with fail
  refine (pick_c B r _ 3 _ HR1.out (by omega)).mono ?_
  rintro e w2 ⟨m, rfl, hm0, hm1, hR2, hg2⟩
  obtain ⟨w, rfl⟩ := Int.eq_ofNat_of_zero_le hm0
  have hw : w < 3 := by have := hm1 (by omega); omega
  have HR2 := Lib.hid hR2
  have HG2 := Lib.hid (grown_trans HG1.out hg2)
  have hF2 := ownF_kept hF1 hg2 hrS
  clear hm0 hm1 hR2 hg2 hF1 HR1 HG1
  obtain ⟨g, cap, rv, T, rfl, gle, gcm, gsz, hSg, crow, frow, hOR, hT, -, -⟩ := hF2.row (j := w) (by rw [HJ.out.1]; exact hw)
  obtain ⟨es, hes⟩ : ∃ es, F.getD w [] = es := ⟨_, rfl⟩
  have hel : es.length = ln F w := by rw [← hes]; rfl
  rw [hes] at hOR
  obtain ⟨ar, capr, hrv⟩ := hOR.slice
  rw [hel] at hrv
  subst hrv
  rw [HJ.out.1] at gle hF2 ⊢
  unfold maxLen at gcm
  have hw3 : (w : Int) < 3 := by omega
  have h8 := HJ.out.2.1 w hw
  have HF2 := Lib.hid hF2
  have HES := Lib.hid (And.intro hes hel)
  clear hF2 hes hOR hT
  by_cases hz : ln F w = 0
  · have hz' : ((ln F w : Int) == 0) = true := by simp [hz]
    clear hz hel
    go_wp2
    go_ret
    exact ⟨_, F, rfl, HF2.out.rd, jv8 HJ.out, by rw [HJ.out.1]; omega, by rw [HJ.out.1]; omega, HR2.out.le (by omega), HG2.out⟩
  · have hz' : ((ln F w : Int) == 0) = false := by rw [beq_eq_false_iff_ne]; omega
    have hpos : 0 < ln F w := by omega
    clear hz hel
    go_wp2_with fail
    refine (pick_c B r _ (ln F w : Int) _ HR2.out (by omega)).mono ?_
    rintro e w3 ⟨m, rfl, hm0, hm1, hR3, hg3⟩
    obtain ⟨k, rfl⟩ := Int.eq_ofNat_of_zero_le hm0
    have hk : k < ln F w := by have := hm1 (by omega); omega
    have HR3 := Lib.hid hR3
    have HG3 := Lib.hid (grown_trans HG2.out hg3)
    have HF3 := Lib.hid (ownF_kept HF2.out hg3 hrS)
    clear hm0 hm1 hR3 hg3 HF2 HR2 HG2 crow frow
    go_wp2_with fail
    refine (pick_c B r _ 24 _ HR3.out (by omega)).mono ?_
    rintro e w4 ⟨q, rfl, hq0, hq1, hR4, hg4⟩
    have HR4 := Lib.hid hR4
    have HG4 := Lib.hid (grown_trans HG3.out hg4)
    have HF4 := Lib.hid (ownF_kept HF3.out hg4 hrS)
    clear hq0 hq1 hR4 hg4 HF3 HR3 HG3 hSg T
    -- the entry, opened
    obtain ⟨g', cap', gr, capr', cv, ev, -, -, hSg, crow, frow, rle, rcm, hSr, hgrg, efr, e0c, e1c, e2c, hcv, hcb, -, -, -, -⟩ := HF4.out.openE (j := w) (i := k) (by rw [HJ.out.1]; exact hw) hk
    rw [HJ.out.1] at ev
    simp only [Value.slice.injEq, Option.some.injEq, Addr.mk.injEq, and_true, true_and] at ev
    obtain ⟨rfl, rfl⟩ := ev
    have hLc := (HJ.out.2.2.1 w hw k hk).1
    obtain ⟨c, hc⟩ : ∃ c, (ent F w k).1 = c := ⟨_, rfl⟩
    rw [hc] at hLc hcv
    rw [hLc] at hcv
    obtain ⟨gc, capc, rfl, cle, ccm⟩ : ∃ gc capc, cv = .slice (some ⟨gc, 0, none⟩) 3 capc ∧ 3 ≤ capc ∧ capc ≤ maxLen := by
      rcases own_cases hcv with ⟨-, h0, -⟩ | ⟨b, c, rfl, -, a1, a2, a3⟩
      · omega
      · exact ⟨b, c, rfl, a2, a3⟩
    unfold maxLen at rcm ccm
    have hk' : (k : Int) < (ln F w : Int) := by omega
    obtain ⟨hcW, hcg, hcgr⟩ := hcb gc rfl
    have hgr : gr ≠ r := fun e => by subst e; omega
    have hgg : g ≠ r := fun e => by subst e; omega
    have hgc : gc ≠ r := fun e => by subst e; omega
    have HC := Lib.hid hc
    have HLC := Lib.hid hLc
    have CC : Hid (∀ j, j < 3 → w4.cell? ⟨gc, j, none⟩ = some (.int .i64 (c.getD j 0)) ∧ w4.frozen? ⟨gc, j, none⟩ = false) := fun j hj =>
      ⟨(hcv.cellAt j (by omega)).trans (enc1_at c j 0 (by rw [hLc]; exact hj)), hcv.frozenAt j⟩
    have HER : Hid ((F.getD w []).length = ln F w) := rfl
    -- what a store into own memory leaves
    have KP : ∀ (wx : World) (Q x j : Nat) (u : Value), W.heap.size ≤ x → Reader B wx r Q → W.grownBy wx (some r) → Q ≤ P + 8 → Reader B (wx.setCell ⟨x, j, none⟩ u) r (P + 8) ∧ W.grownBy (wx.setCell ⟨x, j, none⟩ u) (some r) := fun wx Q x j u hx h3 h4 hQ =>
      ⟨(h3.kept (grown_set (g := x) (World.grownBy.refl _ _)) (fun k hk => by cases hk; omega)).le hQ, h4.os, h4.tape, h4.output, by simpa using h4.size, fun k hk hne => by rw [heap_setCell_other wx ⟨x, j, none⟩ k u (by simp; omega)]; exact h4.block k hk hne⟩
    have FN : ∀ (wx : World) (Q x j : Nat) (u : Value) (e : Ent), W.heap.size ≤ x → Reader B wx r Q → W.grownBy wx (some r) → Q ≤ P + 8 → OwnF (fun b => W.heap.size ≤ b) (wx.setCell ⟨x, j, none⟩ u) (.slice (some ⟨g, 0, none⟩) 3 cap) (F.set w ((F.getD w []).set k e)) →
        BentPost B r (P + 8) W (.returned (.slice (some ⟨g, 0, none⟩) 3 cap)) (wx.setCell ⟨x, j, none⟩ u) := fun wx Q x j u e hx h3 h4 hQ h5 =>
      ⟨_, _, rfl, h5.rd, ln_set (by rw [HJ.out.1]; exact hw) (jv8 HJ.out) (by rw [List.length_set]; exact h8), by rw [List.length_set, HJ.out.1]; omega, by rw [List.length_set, HJ.out.1]; omega, (KP wx Q x j u hx h3 h4 hQ).1, (KP wx Q x j u hx h3 h4 hQ).2⟩
    have HKP := Lib.hid KP
    have HFN := Lib.hid FN
    have hF3 : w < F.length := by rw [HJ.out.1]; exact hw
    clear KP FN hc hLc hcv hcb
    by_cases q0 : q = 0
    · subst q0
      have HR4d : Reader B w4.drew r (P + 1 + 1 + 1) := HR4.out
      go_wp2
      go_region_held3 (fun w' => w'.cell? ⟨g, w, none⟩ = some (.slice (some ⟨gr, 0, none⟩) (ln F w) capr') ∧ w'.cell? ⟨gr, k * 3, none⟩ = some (.slice (some ⟨gc, 0, none⟩) 3 capc)) (first | go_keep | (refine ⟨?_, ?_⟩ <;> (first | (refine grown_cell hg7 ?_ (by simp; omega); simp [*]; done) | (refine grown_cell hg6 ?_ (by simp; omega); simp [*]; done)))) ((first | ((with_reducible refine (pick_c B r _ 3 _ HR4d (by omega)).mono ?_); rintro e w6 ⟨j, rfl, hj0, hj1, hR6, hg6⟩; obtain ⟨jn, rfl⟩ := Int.eq_ofNat_of_zero_le hj0; have hj3 : jn < 3 := (by have := hj1 (by omega); omega); have hj3' : (jn : Int) < 3 := (by omega); have hj0' : (0 : Int) ≤ (jn : Int) := (by omega); clear hj0 hj1) | ((with_reducible refine (pick_c B r _ 10 _ hR6 (by omega)).mono ?_); rintro e w7 ⟨z, rfl, hz0, hz1, hR7, hg7⟩; have c7 := grown_cell hg7 (grown_cell hg6 (show w4.drew.cell? _ = _ from (CC.out jn hj3).1) (by simp; omega)) (by simp; omega); have f7 : w7.frozen? ⟨gc, jn, none⟩ = false := (grown_frozen hg7 (by have := World.block_lt_of_cell? w6 _ (grown_cell hg6 (show w4.drew.cell? _ = _ from (CC.out jn hj3).1) (by simp; omega)); exact this) (by simp; omega)).trans ((grown_frozen hg6 (World.block_lt_of_cell? w4.drew _ (show w4.drew.cell? _ = _ from (CC.out jn hj3).1)) (by simp; omega)).trans (CC.out jn hj3).2); have r7 := grown_cell hg7 (grown_cell hg6 (show w4.drew.cell? _ = _ from crow) (by simp; omega)) (by simp; omega); have k7 := grown_cell hg7 (grown_cell hg6 (show w4.drew.cell? _ = _ from e0c) (by simp; omega)) (by simp; omega))))
      go_wp2
      go_ret
      have HF7 := ownF_kept (ownF_kept (show OwnF (fun b => W.heap.size ≤ b) w4.drew _ F from HF4.out) hg6 hrS) hg7 hrS
      have HG7 := grown_trans (grown_trans (grown_drew HG4.out) hg6) hg7
      exact HFN.out w7 _ gc jn _ _ hcW hR7 HG7 (by omega) ((HF7.close hF3 hk r7 k7).2.2.1 gc jn _ rfl)
    · have d0 : (q == 0) = false := by rw [beq_eq_false_iff_ne]; exact q0
      clear q0
      by_cases q1 : q = 1
      · subst q1
        have hl1 : (1 : Int) ≤ (ln F w : Int) := by omega
        have hcp : (1 : Int) ≤ (capr' : Int) := by omega
        have hlen : (F.getD w []).length = ln F w := rfl
        have FN1 : ∀ (rv' : Value), RdR (fun b => W.heap.size ≤ b ∧ b ≠ g) w4 rv' ((F.getD w []).drop 1) → BentPost B r (P + 8) W (.returned (.slice (some ⟨g, 0, none⟩) 3 cap)) (w4.setCell ⟨g, w, none⟩ rv') := fun rv' hh =>
          ⟨_, _, rfl, HF4.out.setRd hF3 rv' _ hh, ln_set hF3 (jv8 HJ.out) (by rw [List.length_drop]; omega), by rw [List.length_set, HJ.out.1]; omega, by rw [List.length_set, HJ.out.1]; omega, (HKP.out w4 _ g w rv' hSg HR4.out HG4.out (by omega)).1, (HKP.out w4 _ g w rv' hSg HR4.out HG4.out (by omega)).2⟩
        have HFN1 := Lib.hid FN1
        have HRR := Lib.hid ((HF4.out.close hF3 hk crow e0c).2.2.2.2)
        have HLEN := Lib.hid hlen
        clear FN1 hlen
        by_cases hc1 : capr' = 1
        · subst hc1
          have hln : ln F w = 1 := by omega
          go_wp2
          all_goals go_ret
          all_goals exact HFN1.out _ (RdR.tail0 (cap := 0) (HLEN.out.trans hln)).1
        · have hc1' : ¬ ((capr' : Int) - 1 = 0) := by omega
          go_wp2
          all_goals go_ret
          all_goals exact HFN1.out _ (HRR.out.tail hpos)
      · have d1 : (q == 1) = false := by rw [beq_eq_false_iff_ne]; exact q1
        clear q1
        by_cases q2 : q = 2
        · subst q2
          have HR4d : Reader B w4.drew r (P + 1 + 1 + 1) := HR4.out
          go_wp2
          go_region_held3 (fun w' => w'.cell? ⟨g, w, none⟩ = some (.slice (some ⟨gr, 0, none⟩) (ln F w) capr')) (first | go_keep | (refine grown_cell hg7 ?_ (by simp; omega); simp [*]; done)) (((with_reducible refine (pick_c B r _ 12 _ HR4d (by omega)).mono ?_); rintro e w7 ⟨z, rfl, hz0, hz1, hR7, hg7⟩; have c7 := grown_cell hg7 (show w4.drew.cell? _ = _ from e1c) (by simp; omega); have f7 : w7.frozen? ⟨gr, k * 3 + 1, none⟩ = false := ((grown_frozen hg7 (World.block_lt_of_cell? w4.drew _ (show w4.drew.cell? _ = _ from e1c)) (by simp; omega)).trans (efr _)); have r7 := grown_cell hg7 (show w4.drew.cell? _ = _ from crow) (by simp; omega); have k7 := grown_cell hg7 (show w4.drew.cell? _ = _ from e0c) (by simp; omega)))
          go_wp2
          go_ret
          have HF7 := ownF_kept (show OwnF (fun b => W.heap.size ≤ b) w4.drew _ F from HF4.out) hg7 hrS
          have HG7 := grown_trans (grown_drew HG4.out) hg7
          exact HFN.out w7 _ gr (k * 3 + 1) _ _ hSr hR7 HG7 (by omega) ((HF7.close hF3 hk r7 k7).2.1 _)
        · have d2 : (q == 2) = false := by rw [beq_eq_false_iff_ne]; exact q2
          clear q2
          by_cases q3 : q = 3
          · subst q3
            go_wp2
            go_ret
            have h3 := HF4.out.rd.take2
            exact ⟨_, _, rfl, h3, ln_take2 (jv8 HJ.out), by rw [List.length_take]; omega, by rw [List.length_take, HJ.out.1]; omega, HR4.out.le (by omega), HG4.out⟩
          · have d3 : (q == 3) = false := by rw [beq_eq_false_iff_ne]; exact q3
            clear q3
            by_cases q4 : q = 4
            · subst q4
              go_wp2
              have hcc2 : (2 : Int) ≤ (capc : Int) := by omega
              have hcc3 : 2 ≤ capc := by omega
              have hcc4 : ¬ capc = 2 ∨ capc = 2 := by omega
              go_still_tail 16, (by kernel_rfl)
              go_wp2
              go_ret
              have ho := (HF4.out.close hF3 hk crow e0c).1
              rw [HC.out, HLC.out] at ho
              have ho2 := own_take2 ho HLC.out
              have hl2 : (c.take 2).length = 2 := by rw [List.length_take, HLC.out]; rfl
              rw [← hl2] at ho2
              have hx := (HF4.out.close hF3 hk crow e0c).2.2.2.1 (.slice (some ⟨gc, 0, none⟩) 2 capc) (c.take 2) (by rw [hl2] at ho2 ⊢; exact ho2) rfl
              exact (HFN.out w4 _ gr (k * 3) _ _ hSr HR4.out HG4.out (by omega) hx).drew
            · have d4 : (q == 4) = false := by rw [beq_eq_false_iff_ne]; exact q4
              clear q4
              go_wp2
              go_ret
              exact ⟨_, F, rfl, HF4.out.rd, jv8 HJ.out, by rw [HJ.out.1]; omega, by rw [HJ.out.1]; omega, HR4.out.le (by omega), HG4.out⟩
end Go.Proofs.Ythnepmhkeceadaa
