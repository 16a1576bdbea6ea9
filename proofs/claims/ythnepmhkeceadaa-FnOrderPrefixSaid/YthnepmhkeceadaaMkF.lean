/- Contracts on entries: copies of the call's own. -/
import Derived.Test.YthnepmhkeceadaaMkE
namespace Go.Proofs.Ythnepmhkeceadaa
open Go.RowKit
theorem bcell {W w1 : World} (hb : Below W.heap.size W w1) : (∀ b o, b < W.heap.size → w1.cell? ⟨b, o, none⟩ = W.cell? ⟨b, o, none⟩) ∧ (∀ b o, b < W.heap.size → w1.frozen? ⟨b, o, none⟩ = W.frozen? ⟨b, o, none⟩) :=
  ⟨fun b o h => hb.cell (p := ⟨b, o, none⟩) h, fun b o h => hb.frozen (p := ⟨b, o, none⟩) h⟩
def ToEPost (c : List Int) (x y : Int) (w : World) (e : Ending) (w' : World) : Prop :=
  ∃ cv, e = .returned (.agg #[cv, .int .i64 x, .int .i64 y]) ∧ w'.ownsRow w.heap.size 3 1 cv c.length (enc1 c) ∧ Below w.heap.size w w'
set_option maxHeartbeats 1600000 in
theorem toEntry_c {S : Nat → Prop} (cv : Value) (c : List Int) (x y : Int) (w : World) (h : RdS S 1 w cv c.length (enc1 c)) (hn : c.length ≤ 1048576) :
    Calls Try.prog 64 #[.agg #[cv, .int .i64 x, .int .i64 y]] w (ToEPost c x y w) := by
  have H := Lib.hid h
  obtain ⟨a, cap, rfl, q1, q2⟩ := h.shape
  clear h
  go_enter Try.func64, Try.ntmps64
  go_wp2_with fail
  refine (toIntS_c _ c _ (H.out.below (by (repeat' (first | exact Below.refl _ _ | assumption | refine Below.drew ?_ | refine below_drewN ?_ _ | refine Below.alloc ?_ (by omega) _ | refine Below.alloc ?_ (by simp; omega) _ | refine Below.alloc ?_ (by simp) _ | refine Below.setCell ?_ (by omega) _ | refine Below.setCell ?_ (by simp; omega) _ | refine Below.setCell ?_ (by simp) _)))) hn).mono ?_
  rintro e w1 ⟨cv', rfl, hown, hb1⟩
  obtain ⟨a', cap', rfl⟩ := own_slice hown
  have HO := Lib.hid hown
  have HB := Lib.hid hb1
  obtain ⟨hc, hf⟩ := bcell hb1
  have hz : w.heap.size + 2 < w1.heap.size := by have := hb1.size; simp at this; omega
  clear hown hb1
  go_wp2
  have ho : w1.ownsRow w.heap.size 3 1 (.slice a' c.length cap') c.length (enc1 c) := own_base HO.out (by simp; omega)
  have hn3 : ∀ k, (Value.slice a' c.length cap').ownBlock = some k → ¬ k < w.heap.size + 3 := fun k hk => by have := (HO.out.lt k hk).1; simp at this; omega
  have hbw : Below w.heap.size w w1 := ((((Below.refl w.heap.size w).alloc (Nat.le_refl _) (.cells #[.slice a c.length cap, .int .i64 x, .int .i64 y] 75)).alloc (by simp) (.cells #[.slice none 0 0, .int .i64 0, .int .i64 0] 32)).alloc (by simp; omega) (.cells #[.slice none 0 0, .int .i64 0, .int .i64 0] 32)).trans (HB.out.mono (by simp; omega))
  have fin : ∀ W, Chg (fun k => w.heap.size ≤ k ∧ k < w.heap.size + 3) w1 W → ToEPost c x y w (.returned (.agg #[.slice a' c.length cap', .int .i64 x, .int .i64 y])) W := fun W hW =>
    ⟨_, rfl, own_chg ho hW (fun k hk h => hn3 k hk h.2), hbw.trans (hW.below hbw.size (fun k h => h.1))⟩
  refine bodyPost_ret (v := .agg #[.slice a' c.length cap', .int .i64 x, .int .i64 y]) (by simp [results, Try.results64, go_sem, hc]) rfl (fin _ ?_)
  repeat (refine Chg.setC ?_ (by omega))
  exact Chg.refl _ _
/-- a row of entries under way: the first k are there -/
def PartR (S : Nat → Prop) (w : World) (v : Value) (n : Nat) (es : List Ent) (k : Nat) : Prop :=
  ∃ (lab : Nat → Nat) (cvs xs : List Value), cvs.length = k ∧ xs.take (k * 3) = encE cvs (es.take k) ∧ w.ownsRow 0 32 3 v n xs ∧ (∀ b, v.ownBlock = some b → S b ∧ lab b = 0) ∧
    ∀ i, i < k → w.ownsRow 0 3 1 (cvs.getD i undef) (es.getD i e0).1.length (enc1 (es.getD i e0).1) ∧ ∀ b, (cvs.getD i undef).ownBlock = some b → S b ∧ lab b = i + 1
theorem take_step3 {α : Type} (xs ys : List α) (k : Nat) (u v z : α) (hk : k * 3 + 2 < xs.length) (h : xs.take (k * 3) = ys) : (((xs.set (k * 3) u).set (k * 3 + 1) v).set (k * 3 + 2) z).take ((k + 1) * 3) = ys ++ [u, v, z] := by
  have e : (k + 1) * 3 = k * 3 + 1 + 1 + 1 := by omega
  rw [e, take_step _ (ys ++ [u] ++ [v]) (k * 3 + 1 + 1) z (by simpa using hk) (take_step _ (ys ++ [u]) (k * 3 + 1) v (by simp; omega) (take_step _ _ _ _ (by omega) h))]
  simp
theorem PartR.step {S : Nat → Prop} {w w1 : World} {g n cap : Nat} {es : List Ent} {k : Nat} (h : PartR S w (.slice (some ⟨g, 0, none⟩) n cap) n es k) (hb : Below w.heap.size w w1) {cv : Value} (hk : k < es.length) (hkn : k < n)
    (ho : w1.ownsRow w.heap.size 3 1 cv (es.getD k e0).1.length (enc1 (es.getD k e0).1)) (hS : ∀ b, w.heap.size ≤ b → S b) :
    PartR S (((w1.setCell ⟨g, k * 3, none⟩ cv).setCell ⟨g, k * 3 + 1, none⟩ (.int .i64 (es.getD k e0).2.1)).setCell ⟨g, k * 3 + 2, none⟩ (.int .i64 (es.getD k e0).2.2)) (.slice (some ⟨g, 0, none⟩) n cap) n es (k + 1) := by
  obtain ⟨lab, cvs, xs, h1, h2, h3, h4, h5⟩ := h
  have hg := (h3.lt g rfl).2
  have h3' := own_below h3 hb
  have s1 := (h3'.stored (k * 3) cv).1
  have s2 := (s1.stored (k * 3 + 1) (.int .i64 (es.getD k e0).2.1)).1
  have s3 := (s2.stored (k * 3 + 2) (.int .i64 (es.getD k e0).2.2)).1
  have hc : Chg (fun b => b = g) w1 (((w1.setCell ⟨g, k * 3, none⟩ cv).setCell ⟨g, k * 3 + 1, none⟩ (.int .i64 (es.getD k e0).2.1)).setCell ⟨g, k * 3 + 2, none⟩ (.int .i64 (es.getD k e0).2.2)) :=
    Chg.setC (T := fun b => b = g) (Chg.setC (T := fun b => b = g) (Chg.setC (T := fun b => b = g) (Chg.refl _ _) rfl) rfl) rfl
  have hl : xs.length = n * 3 := h3.1
  refine ⟨fun b => if b < w.heap.size then lab b else k + 1, cvs ++ [cv], _, by simp [h1], ?_, s3, fun b hb => ?_, fun i hi => ?_⟩
  · rw [take_snoc_getD es k e0 hk, encE_snoc _ _ (by rw [h1, List.length_take]; omega)]
    exact take_step3 xs _ k _ _ _ (by omega) h2
  · obtain rfl : g = b := by simpa [Value.ownBlock] using hb
    refine ⟨(h4 g rfl).1, ?_⟩
    simp only [hg, if_true]
    exact (h4 g rfl).2
  · by_cases e : i = k
    · subst e
      rw [show (cvs ++ [cv]).getD i undef = cv by rw [← h1]; simp [List.getD]]
      refine ⟨own_zero (own_chg ho hc (fun b hb e => by have := (ho.lt b hb).1; omega)), fun b hb => ?_⟩
      have := (ho.lt b hb).1
      refine ⟨hS b this, ?_⟩
      simp only [show ¬ b < w.heap.size by omega, if_false]
    · have hik : i < k := by omega
      rw [show (cvs ++ [cv]).getD i undef = cvs.getD i undef by simp [List.getD, List.getElem?_append_left (show i < cvs.length by omega)]]
      obtain ⟨g1, g2⟩ := h5 i hik
      refine ⟨own_chg (own_below g1 hb) hc (fun b hb e => ?_), fun b hb => ?_⟩
      · have h6 := (g2 b hb).2
        have h7 := (h4 g rfl).2
        subst e; omega
      · have hlt := (g1.lt b hb).2
        refine ⟨(g2 b hb).1, ?_⟩
        simp only [hlt, if_true]
        exact (g2 b hb).2
theorem PartR.done {S : Nat → Prop} {w : World} {v : Value} {es : List Ent} (h : PartR S w v es.length es es.length) : OwnR S w v es := by
  obtain ⟨lab, cvs, xs, h1, h2, h3, h4, h5⟩ := h
  refine ⟨lab, cvs, h1, ?_, h4, h5⟩
  rw [List.take_of_length_le (Nat.le_of_eq h3.1), List.take_of_length_le (Nat.le_refl _)] at h2
  rw [← h2]
  exact h3
/-- A row of entries of the call's own. -/
def RetR (es : List Ent) (w : World) (e : Ending) (w' : World) : Prop := ∃ v, e = .returned v ∧ OwnR (fun b => w.heap.size ≤ b) w' v es ∧ Below w.heap.size w w'
set_option maxHeartbeats 1600000 in
theorem toEntryS_c {S : Nat → Prop} (v : Value) (es : List Ent) (w : World) (h : RdR S w v es) (hs : SmR es) :
    Calls Try.prog 50 #[v] w (RetR es w) := by
  obtain ⟨-, a1, c1, rfl, h1, m1, k1⟩ := h
  have K1 := Lib.hid k1
  have HS := Lib.hid hs.2
  have hn := hs.1
  unfold maxLen at m1
  obtain ⟨i0, hi, hz0, hz1, hz2⟩ := info_parts info_entry
  clear k1 hs
  go_enter Try.func50, Try.ntmps50
  go_wp2_with (at_make; refine wpList_make_full _ rfl _ _ 30 rfl w.heap.size 32 i0 zeroE 3 Try.underlying30 hi hz0 hz1 .i64 .i64 _ _ es.length rfl rfl rfl rfl ?c1 ?c2 ?c3 ?_)
  case c1 => rw [hz2]; omega
  case c2 => unfold maxLen; omega
  case c3 => simp
  intro w1 hown hgrow
  have hb1 := grown_below hgrow (Nat.le_refl _) (fun k hk => by cases hk)
  have HP : Hid (PartR (fun b => w.heap.size ≤ b) w1 (.slice (some ⟨w.heap.size, 0, none⟩) es.length es.length) es.length es 0) :=
    ⟨fun _ => 0, [], _, rfl, by simp [encE], own_zero hown, fun b hb => ⟨by simp [Value.ownBlock] at hb; omega, rfl⟩, fun i hi => absurd hi (Nat.not_lt_zero _)⟩
  have HB := Lib.hid hb1
  clear hz0 hz1 hz2 hi hown hgrow hb1
  go_wp2
  go_loopw [4] (fun i wr => ∃ k : Nat, k ≤ es.length ∧ i = .int .i64 k ∧ Hid (Below w.heap.size w wr) ∧ Hid (PartR (fun b => w.heap.size ≤ b) wr (.slice (some ⟨w.heap.size, 0, none⟩) es.length es.length) es.length es k)) (fun i _ => es.length - (intOf i).toNat)
  case atStart => exact ⟨0, Nat.zero_le _, rfl, HB, HP⟩
  case round =>
    clear HB HP
    obtain ⟨k, hk, rfl, HB, HP⟩ := hrel
    by_cases hlt : k < es.length
    · obtain ⟨b, off, rfl, hc⟩ := K1.out (by omega)
      obtain ⟨cv, ⟨-, d1⟩, hr, ⟨-, d2⟩, -, d3⟩ := hc k hlt
      have HR := Lib.hid (hr.below HB.out)
      have d1 := cell_keep HB.out d1
      have d2 := cell_keep HB.out d2
      have d3 := cell_keep HB.out d3
      obtain ⟨en, hen⟩ : ∃ en, es.getD k e0 = en := ⟨_, rfl⟩
      have hsm := HS.out k hlt
      rw [hen] at d2 d3 HR hsm
      have HE := Lib.hid hen
      obtain ⟨a3, c3', rfl, p1, p2⟩ := HR.out.shape
      have hsz := HB.out.size
      clear hc hr hen
      go_wp2_with fail
      refine (toEntry_c _ en.1 en.2.1 en.2.2 _ HR.out hsm).mono ?_
      rintro e w2 ⟨cv', rfl, hown2, hb2⟩
      obtain ⟨aq, cq, rfl⟩ := own_slice hown2
      have HB2 := Lib.hid (HB.out.trans (hb2.mono hsz))
      have HN := Lib.hid (HP.out.step hb2 hlt hlt (by rw [HE.out]; exact hown2) (fun b hb => Nat.le_trans hsz hb))
      have hb2w := hb2
      obtain ⟨lab, cvs, xs, -, -, hox, -⟩ := HP.out
      have hox2 := own_below hox hb2
      have hl : xs.length = es.length * 3 := hox.1
      have t1 := hox2.cellAt (k * 3) (by omega)
      have t2 := hox2.cellAt (k * 3 + 1) (by omega)
      have t3 := hox2.cellAt (k * 3 + 2) (by omega)
      have f1 := hox2.frozenAt (k * 3)
      have f2 := hox2.frozenAt (k * 3 + 1)
      have f3 := hox2.frozenAt (k * 3 + 2)
      rw [List.getElem?_eq_getElem (by omega)] at t1 t2 t3
      obtain ⟨z1, hz1⟩ : ∃ z, xs[k * 3]'(by omega) = z := ⟨_, rfl⟩
      obtain ⟨z2, hz2⟩ : ∃ z, xs[k * 3 + 1]'(by omega) = z := ⟨_, rfl⟩
      obtain ⟨z3, hz3⟩ : ∃ z, xs[k * 3 + 2]'(by omega) = z := ⟨_, rfl⟩
      rw [hz1] at t1
      rw [hz2] at t2
      rw [hz3] at t3
      have hgz : w.heap.size < w2.heap.size := World.block_lt_of_cell? w2 _ t1
      rw [HE.out] at HN
      have hsz2 := HB2.out.size
      clear hz1 hz2 hz3 hl hox hox2 hown2 hb2 hb2w d1 d2 d3
      go_wp2
      go_roundw
      case rel => exact ⟨k + 1, by omega, by go_num, ((HB2.out.setCell (Nat.le_refl _) _).setCell (Nat.le_refl _) _).setCell (Nat.le_refl _) _, HN⟩
      case measure => simp [intOf]; omega
    · obtain rfl : k = es.length := by omega
      go_wp2
      go_ret
      exact ⟨_, rfl, HP.out.done, HB.out⟩
def PartF (S : Nat → Prop) (w : World) (v : Value) (n : Nat) (F : Fd) (k : Nat) : Prop :=
  ∃ (lab : Nat → Nat) (rvs xs : List Value), rvs.length = k ∧ xs.take k = rvs ∧ w.ownsRow 0 30 1 v n xs ∧ (∀ b, v.ownBlock = some b → S b ∧ lab b = 0) ∧
    ∀ j, j < k → OwnR (fun b => S b ∧ lab b = j + 1) w (rvs.getD j undef) (F.getD j [])
theorem PartF.step {S : Nat → Prop} {w w1 : World} {g n cap : Nat} {F : Fd} {k : Nat} (h : PartF S w (.slice (some ⟨g, 0, none⟩) n cap) n F k) (hb : Below w.heap.size w w1) {rv : Value} (hkn : k < n)
    (ho : OwnR (fun b => w.heap.size ≤ b) w1 rv (F.getD k [])) (hS : ∀ b, w.heap.size ≤ b → S b) :
    PartF S (w1.setCell ⟨g, k, none⟩ rv) (.slice (some ⟨g, 0, none⟩) n cap) n F (k + 1) := by
  obtain ⟨lab, rvs, xs, h1, h2, h3, h4, h5⟩ := h
  have hg := (h3.lt g rfl).2
  have h3' := own_below h3 hb
  have s1 := (h3'.stored k rv).1
  have hc : Chg (fun b => b = g) w1 (w1.setCell ⟨g, k, none⟩ rv) := Chg.setC (T := fun b => b = g) (Chg.refl _ _) rfl
  have hl : xs.length = n * 1 := h3.1
  refine ⟨fun b => if b < w.heap.size then lab b else k + 1, rvs ++ [rv], _, by simp [h1], take_step xs _ k _ (by omega) h2, s1, fun b hb => ?_, fun j hj => ?_⟩
  · obtain rfl : g = b := by simpa [Value.ownBlock] using hb
    refine ⟨(h4 g rfl).1, ?_⟩
    simp only [hg, if_true]
    exact (h4 g rfl).2
  · by_cases e : j = k
    · subst e
      rw [show (rvs ++ [rv]).getD j undef = rv by rw [← h1]; simp [List.getD]]
      refine (ho.chg hc (fun b hb e => by omega)).sub fun b _ hb => ⟨hS b hb, ?_⟩
      simp only [show ¬ b < w.heap.size by omega, if_false]
    · have hjk : j < k := by omega
      rw [show (rvs ++ [rv]).getD j undef = rvs.getD j undef by simp [List.getD, List.getElem?_append_left (show j < rvs.length by omega)]]
      have g1 := h5 j hjk
      have g2 : OwnR (fun b => (S b ∧ lab b = j + 1) ∧ b < w.heap.size) w (rvs.getD j undef) (F.getD j []) := g1.sub fun b hb hh => ⟨hh, hb⟩
      refine ((g2.below hb).chg hc (fun b hb e => ?_)).sub fun b _ hb => ⟨hb.1.1, ?_⟩
      · have h7 := (h4 g rfl).2
        subst e; omega
      · simp only [hb.2, if_true]; exact hb.1.2
theorem PartF.done {S : Nat → Prop} {w : World} {v : Value} {F : Fd} (h : PartF S w v F.length F F.length) : OwnF S w v F := by
  obtain ⟨lab, rvs, xs, h1, h2, h3, h4, h5⟩ := h
  refine ⟨lab, rvs, h1, ?_, h4, h5⟩
  have := h3.1
  rw [List.take_of_length_le (by omega)] at h2
  rw [← h2]
  exact h3
def RetF (F : Fd) (w : World) (e : Ending) (w' : World) : Prop := ∃ v, e = .returned v ∧ OwnF (fun b => w.heap.size ≤ b) w' v F ∧ Below w.heap.size w w'
set_option maxHeartbeats 1600000 in
theorem toEntrySS_c {S : Nat → Prop} (v : Value) (F : Fd) (w : World) (h : RdF S w v F) (hs : SmF F) :
    Calls Try.prog 18 #[v] w (RetF F w) := by
  obtain ⟨-, a1, c1, rfl, h1, m1, k1⟩ := h
  have K1 := Lib.hid k1
  have HS := Lib.hid hs.2
  have hn := hs.1
  unfold maxLen at m1
  obtain ⟨i0, hi, hz0, hz1, hz2⟩ := info_parts info_row
  clear k1 hs
  go_enter Try.func18, Try.ntmps18
  go_wp2_with (at_make; refine wpList_make_full _ rfl _ _ 23 rfl w.heap.size 30 i0 (.slice none 0 0) 1 Try.underlying23 hi hz0 hz1 .i64 .i64 _ _ F.length rfl rfl rfl rfl ?c1 ?c2 ?c3 ?_)
  case c1 => rw [hz2]; omega
  case c2 => unfold maxLen; omega
  case c3 => simp
  intro w1 hown hgrow
  have hb1 := grown_below hgrow (Nat.le_refl _) (fun k hk => by cases hk)
  have HP : Hid (PartF (fun b => w.heap.size ≤ b) w1 (.slice (some ⟨w.heap.size, 0, none⟩) F.length F.length) F.length F 0) :=
    ⟨fun _ => 0, [], _, rfl, by simp, own_zero hown, fun b hb => ⟨by simp [Value.ownBlock] at hb; omega, rfl⟩, fun i hi => absurd hi (Nat.not_lt_zero _)⟩
  have HB := Lib.hid hb1
  clear hz0 hz1 hz2 hi hown hgrow hb1
  go_wp2
  go_loopw [4] (fun i wr => ∃ k : Nat, k ≤ F.length ∧ i = .int .i64 k ∧ Hid (Below w.heap.size w wr) ∧ Hid (PartF (fun b => w.heap.size ≤ b) wr (.slice (some ⟨w.heap.size, 0, none⟩) F.length F.length) F.length F k)) (fun i _ => F.length - (intOf i).toNat)
  case atStart => exact ⟨0, Nat.zero_le _, rfl, HB, HP⟩
  case round =>
    clear HB HP
    obtain ⟨k, hk, rfl, HB, HP⟩ := hrel
    by_cases hlt : k < F.length
    · obtain ⟨b, off, rfl, hc⟩ := K1.out (by omega)
      obtain ⟨rv, ⟨-, d1⟩, hr⟩ := hc k hlt
      have d1 := cell_keep HB.out d1
      obtain ⟨R, hR⟩ : ∃ R, F.getD k [] = R := ⟨_, rfl⟩
      have hsm := HS.out k hlt
      rw [hR] at hr hsm
      have HRR := Lib.hid hR
      have HR := Lib.hid (hr.below HB.out)
      have HSm := Lib.hid hsm
      obtain ⟨-, a3, c3', rfl, p1, p2, -⟩ := hr
      have hsz := HB.out.size
      clear hc hR hsm
      go_wp2_with fail
      refine (toEntryS_c _ R _ HR.out HSm.out).mono ?_
      rintro e w2 ⟨rv', rfl, hown2, hb2⟩
      have HB2 := Lib.hid (HB.out.trans (hb2.mono hsz))
      have HN := Lib.hid (HP.out.step hb2 hlt (by rw [HRR.out]; exact hown2) (fun b hb => Nat.le_trans hsz hb))
      obtain ⟨lab, rvs, xs, -, -, hox, -⟩ := HP.out
      obtain ⟨_, _, -, hrow, -⟩ := hown2
      obtain ⟨aq, cq, rfl⟩ := own_slice hrow
      have hox2 := own_below hox hb2
      have hl : xs.length = F.length * 1 := hox.1
      have t1 := hox2.cellAt k (by omega)
      have f1 := hox2.frozenAt k
      rw [List.getElem?_eq_getElem (by omega)] at t1
      obtain ⟨z1, hz1⟩ : ∃ z, xs[k]'(by omega) = z := ⟨_, rfl⟩
      rw [hz1] at t1
      have hsz2 := HB2.out.size
      clear hz1 hl hox hox2 hb2 hrow d1
      go_wp2
      go_roundw
      case rel => exact ⟨k + 1, by omega, by go_num, HB2.out.setCell (Nat.le_refl _) _, HN⟩
      case measure => simp [intOf]; omega
    · obtain rfl : k = F.length := by omega
      go_wp2
      go_ret
      exact ⟨_, rfl, HP.out.done, HB.out⟩
end Go.Proofs.Ythnepmhkeceadaa
