/- Contracts of the draws of directories. -/
import Derived.Test.YtonahamnkbjipaaPutS
namespace Go.Proofs.Ytonahamnkbjipaa
open Go.RowKit
theorem ins_len (node now : Int) (ps : List P2) : (ins node now ps).length = ps.length + 1 := by
  unfold ins
  have h : lbd node ps ≤ ps.length := List.findIdx_le_length
  simp only [List.length_append, List.length_take, List.length_drop, List.length_singleton]
  omega
theorem room_len (now : Int) (ps : List P2) : (room now ps).length ≤ ps.length := by
  unfold room; split
  · exact sw_le now ps
  · exact Nat.le_refl _
theorem dput_len (ps : List P2) (node now : Int) : (dput ps node now).1.length ≤ ps.length + 1 := by
  unfold dput
  have := room_len now ps
  split
  · split
    · simp [upd]
    · split
      · simp only []; omega
      · simp only [ins_len]; omega
  · simp
def DDPost (B r P : Nat) (w : World) (e : Ending) (w' : World) : Prop :=
  ∃ (v : Value) (ps : List P2), e = .returned v ∧ ps.length ≤ 14 ∧ w'.ownsRow w.heap.size 30 2 v ps.length (enc2 ps) ∧ Reader B w' r (P + 40) ∧ w.grownBy w' (some r)
theorem grown_below2 {w w' w'' : World} {row : Option Nat} (h : w.grownBy w' row) (hb : Below w'.heap.size w' w'') : w.grownBy w'' row := grown_trans h (below_grown hb row)
theorem set_grown {w w' : World} {r g j : Nat} {u : Value} (h : w.grownBy w' (some r)) (hg : w.heap.size ≤ g) : w.grownBy (w'.setCell ⟨g, j, none⟩ u) (some r) :=
  ⟨h.os, h.tape, h.output, by simpa using h.size, fun k hk hne => by rw [heap_setCell_other w' ⟨g, j, none⟩ k u (by simp; omega)]; exact h.block k hk hne⟩
theorem grown_own {w w1 w2 : World} {r e sz n : Nat} {v : Value} {xs : List Value} (h : w.grownBy w1 (some r)) (ho : w1.ownsRow w.heap.size e sz v n xs) (hg : w1.grownBy w2 v.ownBlock) : w.grownBy w2 (some r) :=
  ⟨hg.os.trans h.os, hg.tape.trans h.tape, hg.output.trans h.output, Nat.le_trans h.size hg.size, fun k hk hne => (hg.block k (Nat.lt_of_lt_of_le hk h.size) (fun e => by have := (ho.lt k e.symm).1; omega)).trans (h.block k hk hne)⟩
theorem set_pair (ps : List P2) (k : Nat) (x y u : Int) (hk : k < ps.length) (h : ps.getD k (0, 0) = (x, y)) : enc2 (ps.set k (u, y)) = (enc2 ps).set (k * 2) (.int .i64 u) := by
  rw [enc2_set]
  have h1 := (enc2_at ps k (0, 0) hk).2
  rw [h] at h1
  have hl : k * 2 + 1 < ((enc2 ps).set (k * 2) (.int .i64 u)).length := by rw [List.length_set, enc2_len]; omega
  conv => rhs; rw [← List.set_getElem_self hl]
  congr 1
  rw [List.getElem_set_ne (by omega)]
  obtain ⟨hl', he⟩ := List.getElem?_eq_some_iff.1 h1
  exact he.symm
set_option maxHeartbeats 1600000 in
theorem drawDir_c (B r P : Nat) (w : World) (h : Reader B w r P) (hP : P ≤ 4294967200) : Calls Try.prog 22 #[.pointer (some ⟨r, 0, none⟩)] w (DDPost B r P w) := by
  have hrB := h.1
  have hBw := h.2.1
  have hrw : r < w.heap.size := Nat.lt_of_lt_of_le hrB hBw
  have h0 := h.kept (World.grownBy_alloc w (.cells #[] 30) none) (fun k hk => by cases hk)
  have hown0 := own_empty w w.heap.size 30 2 (Nat.le_refl _)
  have hg0 := World.grownBy_alloc w (.cells #[] 30) (some r)
  go_enter Try.func22, Try.ntmps22
  go_wp2_with fail
  refine (pick_c B r _ 14 _ h0 (by omega)).mono ?_
  rintro e w1 ⟨m, rfl, hm0, hm1, hR, hg1⟩
  obtain ⟨n, rfl⟩ := Int.eq_ofNat_of_zero_le hm0
  have hown := own_kept_r hown0 hg1 hrw
  have hg := grown_trans hg0 hg1
  clear h h0 hown0 hg0 hg1
  go_wp2
  go_loopw [3, 5, 6, 7] (fun o i _ _ wr => ∃ (k : Nat) (ps : List P2), k ≤ n ∧ i = .int .i64 k ∧ ps.length ≤ k ∧ wr.ownsRow w.heap.size 30 2 o ps.length (enc2 ps) ∧ Reader B wr r (P + 1 + 2 * k) ∧ w.grownBy wr (some r)) (fun _ i _ _ _ => n - (intOf i).toNat)
  case atStart => exact ⟨0, [], Nat.zero_le _, rfl, Nat.le_refl _, hown, hR, hg⟩
  case round =>
    clear hown hR hg
    obtain ⟨k, ps, hk, rfl, hl, hown, hR, hg⟩ := hrel
    by_cases hlt : k < n
    · go_wp2_with fail
      refine (pick_c B r _ 20 _ hR (by omega)).mono ?_
      rintro e w2 ⟨m, rfl, hm0, hm1', hR2, hg2⟩
      have hown2 := own_kept_r hown hg2 hrw
      have hg2' := grown_trans hg hg2
      clear hown hR hg hg2
      go_wp2_with fail
      refine (pick_c B r _ 25 _ hR2 (by omega)).mono ?_
      rintro e w3 ⟨t, rfl, ht0, ht1, hR3, hg3⟩
      have hown3 := own_kept_r hown2 hg3 hrw
      have hg3' := grown_trans hg2' hg3
      clear hown2 hR2 hg2' hg3
      go_wp2_with fail
      refine (specPut_c _ ps _ _ _ (Rd.of_own hown3) (Sl.of_own hown3)).mono ?_
      rintro e w4 ⟨v4, rfl, hown4, hb4⟩
      have hR4 := hR3.below hb4
      have hg4 := grown_below2 hg3' hb4
      have hown4' := own_base hown4 hg3'.size
      have hown3' := own_below hown3 hb4
      have hdl := dput_len ps m (10 + t)
      generalize dput ps m (10 + t) = D at hown4 hown4' hdl ⊢
      obtain ⟨qs, b⟩ := D
      simp only [] at hown4 hown4' hdl
      clear hown3 hR3 hg3' hb4 hown4
      cases b with
      | true =>
        go_wp2
        go_roundw
        case rel => exact ⟨k + 1, qs, by omega, by go_num, by omega, hown4', hR4.le (by omega), hg4⟩
        case measure => simp [intOf]; omega
      | false =>
        go_wp2
        go_roundw
        case rel => exact ⟨k + 1, ps, by omega, by go_num, by omega, hown3', hR4.le (by omega), hg4⟩
        case measure => simp [intOf]; omega
    · obtain rfl : k = n := by omega
      obtain ⟨a, cap, rfl⟩ := own_slice hown
      have HO := Lib.hid hown
      clear hown
      by_cases hz : ps.length = 0
      · have hz' : ((ps.length : Int) == 0) = true := by simp [hz]
        clear hz
        go_wp2
        go_ret
        exact ⟨_, ps, rfl, by omega, HO.out, hR.le (by omega), hg⟩
      · have hz' : ((ps.length : Int) == 0) = false := by rw [beq_eq_false_iff_ne]; omega
        have hpos : 0 < ps.length := by omega
        clear hz
        go_wp2_with fail
        refine (pick_c B r _ (ps.length : Int) _ hR (by omega)).mono ?_
        rintro e w2 ⟨m, rfl, hm0, hm1', hR2, hg2⟩
        obtain ⟨q, rfl⟩ := Int.eq_ofNat_of_zero_le hm0
        have hq : q < ps.length := by have := hm1' (by omega); omega
        have HO2 := Lib.hid (own_kept_r HO.out hg2 hrw)
        have hg2' := grown_trans hg hg2
        clear HO hR hg hg2 hm1'
        go_wp2_with fail
        refine (pick_c B r _ 20 _ hR2 (by omega)).mono ?_
        rintro e w3 ⟨m, rfl, hm0', hm1', hR3, hg3⟩
        have HO3 := Lib.hid (own_kept_r HO2.out hg3 hrw)
        have hg3' := grown_trans hg2' hg3
        clear HO2 hR2 hg2' hg3
        obtain ⟨g, cap', hvq, hgb, hgw, hnc, hcm⟩ : ∃ g cap', Value.slice a ps.length cap = .slice (some ⟨g, 0, none⟩) ps.length cap' ∧ w.heap.size ≤ g ∧ g < w3.heap.size ∧ ps.length ≤ cap' ∧ cap' ≤ maxLen := by
          rcases own_cases HO3.out with ⟨-, h0, -⟩ | ⟨g, cap', h1, h2, h3, h4, h5⟩
          · omega
          · exact ⟨g, cap', h1, h2, h3, h4, h5⟩
        simp only [Value.slice.injEq, true_and] at hvq
        obtain ⟨rfl, rfl⟩ := hvq
        obtain ⟨x, y, hxy⟩ : ∃ x y, ps.getD q (0, 0) = (x, y) := ⟨_, _, rfl⟩
        have HXY := Lib.hid hxy
        clear hxy
        by_cases c0 : m = 0
        · subst c0
          go_wp2_with fail
          refine (pick_c B r _ 102 _ hR3 (by omega)).mono ?_
          rintro e w4 ⟨u, rfl, hu0, hu1, hR4, hg4⟩
          have hown4 := own_kept_r HO3.out hg4 hrw
          have hg4' := grown_trans hg3' hg4
          have s1 := hown4.cellAt (q * 2) (by omega)
          have f1 := hown4.frozenAt (q * 2)
          rw [List.getElem?_eq_getElem (by rw [enc2_len]; omega)] at s1
          obtain ⟨z1, hz1⟩ : ∃ z, (enc2 ps)[q * 2]'(by rw [enc2_len]; omega) = z := ⟨_, rfl⟩
          rw [hz1] at s1
          have HO4 := Lib.hid hown4
          clear hz1 hown4 HO3 hR3 hg3' hg4
          go_wp2
          go_ret
          refine ⟨_, ps.set q (u - 1, y), rfl, by simp; omega, ?_, (hR4.kept (grown_set (World.grownBy.refl _ _)) (fun k hk => by cases hk; exact Nat.le_trans hBw hgb)).le (by omega), ?_⟩
          · rw [List.length_set, set_pair ps q x y _ hq HXY.out]
            exact (HO4.out.stored (q * 2) _).1
          · exact set_grown hg4' hgb
        · by_cases c1 : m = 1
          · subst c1
            have h3a := hR3.kept (World.grownBy_alloc w3 (.cells #[.int .i64 (-1), .int .i64 999, .int .i64 1000] 3) none) (fun k hk => by cases hk)
            have HO3a := Lib.hid (HO3.out.alloc (.cells #[.int .i64 (-1), .int .i64 999, .int .i64 1000] 3))
            have hg3a := grown_trans hg3' (World.grownBy_alloc w3 (.cells #[.int .i64 (-1), .int .i64 999, .int .i64 1000] 3) (some r))
            go_wp2_with fail
            refine (pick_c B r _ 3 _ h3a (by omega)).mono ?_
            rintro e w4 ⟨u, rfl, hu0, hu1, hR4, hg4⟩
            have hr3 : some w3.heap.size ≠ some r := by have := hg3'.size; simp; omega
            have l0 : w4.cell? ⟨w3.heap.size, 0, none⟩ = some (.int .i64 (-1)) := hg4.cell (by simp) hr3
            have l1 : w4.cell? ⟨w3.heap.size, 1, none⟩ = some (.int .i64 999) := hg4.cell (by simp) hr3
            have l2 : w4.cell? ⟨w3.heap.size, 2, none⟩ = some (.int .i64 1000) := hg4.cell (by simp) hr3
            have hown4 := own_kept_r HO3a.out hg4 hrw
            have hg4' := grown_trans hg3a hg4
            have s1 := hown4.cellAt (q * 2 + 1) (by omega)
            have f1 := hown4.frozenAt (q * 2 + 1)
            rw [List.getElem?_eq_getElem (by rw [enc2_len]; omega)] at s1
            obtain ⟨z1, hz1⟩ : ∃ z, (enc2 ps)[q * 2 + 1]'(by rw [enc2_len]; omega) = z := ⟨_, rfl⟩
            rw [hz1] at s1
            have HO4 := Lib.hid hown4
            clear hz1 hown4 HO3 HO3a hR3 hg3' hg4 h3a hg3a hr3
            obtain ⟨i, rfl⟩ := Int.eq_ofNat_of_zero_le hu0
            have hi : i = 0 ∨ i = 1 ∨ i = 2 := by omega
            have fin : ∀ t : Int, Hid ((w4.setCell ⟨g, q * 2 + 1, none⟩ (.int .i64 t)).ownsRow w.heap.size 30 2 (.slice (some ⟨g, 0, none⟩) ps.length cap) (ps.set q (x, t)).length (enc2 (ps.set q (x, t))) ∧ Reader B (w4.setCell ⟨g, q * 2 + 1, none⟩ (.int .i64 t)) r (P + 40) ∧ w.grownBy (w4.setCell ⟨g, q * 2 + 1, none⟩ (.int .i64 t)) (some r)) := fun t =>
              ⟨by rw [List.length_set, enc2_set1 ps q x y t hq HXY.out]; exact (HO4.out.stored (q * 2 + 1) _).1, (hR4.kept (grown_set (World.grownBy.refl _ _)) (fun k hk => by cases hk; exact Nat.le_trans hBw hgb)).le (by omega), set_grown hg4' hgb⟩
            have FIN := Lib.hid fin
            clear fin hu0 hu1
            rcases hi with rfl | rfl | rfl
            · go_wp2
              go_ret
              exact ⟨_, _, rfl, by rw [List.length_set]; omega, (FIN.out (-1)).out⟩
            · go_wp2
              go_ret
              exact ⟨_, _, rfl, by rw [List.length_set]; omega, (FIN.out 999).out⟩
            · go_wp2
              go_ret
              exact ⟨_, _, rfl, by rw [List.length_set]; omega, (FIN.out 1000).out⟩
          · by_cases c2 : m = 2
            · subst c2
              have hown3 := HO3.out
              have hsz3 := hg3'.size
              clear HO3
              go_wp2_with (at_builtin; refine wpList_app2 _ rfl _ _ 23 rfl w.heap.size 30 Try.underlying23 info_listed _ ps rfl hown3 _ _ _ _ rfl (by omega) hsz3 ?_)
              intro v' w4 qs hqs hql hown4 hg4
              have hR4 := hR3.kept hg4 (fun k hk => Nat.le_trans hBw (hown3.lt k hk).1)
              have hg4' : w.grownBy w4 (some r) := grown_own hg3' hown3 hg4
              clear hown3 hR3 hg3' hg4
              go_wp2
              go_ret
              exact ⟨_, qs, rfl, by omega, hown4, hR4.le (by omega), hg4'⟩
            · have d0 : (m == 0) = false := by rw [beq_eq_false_iff_ne]; exact c0
              have d1 : (m == 1) = false := by rw [beq_eq_false_iff_ne]; exact c1
              have d2 : (m == 2) = false := by rw [beq_eq_false_iff_ne]; exact c2
              clear c0 c1 c2
              go_wp2
              go_ret
              exact ⟨_, ps, rfl, by omega, HO3.out, hR3.le (by omega), hg3'⟩
def drawSample_cP (w : World) (e : Ending) (w' : World) : Prop :=
  ∃ (v : Value) (ps : List P2) (seed many : Int), e = .returned (.tuple #[v, .int .i64 seed, .int .i64 many]) ∧ ps.length ≤ 14 ∧ Rd 2 w' v ps.length (enc2 ps) ∧ Sl v ∧ Below w.heap.size w w' ∧ -41 ≤ seed ∧ seed ≤ 39 ∧ -1 ≤ many ∧ many ≤ 8
def drawSweep_cP (w : World) (e : Ending) (w' : World) : Prop :=
  ∃ (v : Value) (ps : List P2) (now : Int), e = .returned (.tuple #[v, .int .i64 now]) ∧ ps.length ≤ 14 ∧ Rd 2 w' v ps.length (enc2 ps) ∧ Sl v ∧ Below w.heap.size w w' 
def drawPut_cP (w : World) (e : Ending) (w' : World) : Prop :=
  ∃ (v : Value) (ps : List P2) (node now : Int), e = .returned (.tuple #[v, .int .i64 node, .int .i64 now]) ∧ ps.length ≤ 14 ∧ Rd 2 w' v ps.length (enc2 ps) ∧ Sl v ∧ Below w.heap.size w w' 
set_option maxHeartbeats 1600000 in
theorem drawPut_c (v : Value) (n : Nat) (w : World) (h : RdB w v n) : Calls Try.prog 9 #[v] w (drawPut_cP w) := by
  go_enter Try.func9, Try.ntmps9
  go_wp2_with fail
  refine (l6Open_c _ n _ h).mono ?_
  rintro e w1 ⟨r, rfl, hr, hR, hb1⟩
  clear h
  go_wp2_with fail
  refine (drawDir_c _ r 0 _ hR (by omega)).mono ?_
  rintro e w2 ⟨v2, ps, rfl, hl, hown2, hR2, hg2⟩
  have hb2 := below_r hb1 hg2 hr
  have hrw := hR.1
  clear hR hg2
  go_wp2_with fail
  refine (pick_c _ r _ 20 _ hR2 (by omega)).mono ?_
  rintro e w3 ⟨m0, rfl, a0, b0, hR3, hg3⟩
  have hown3 := own_kept_r hown2 hg3 hrw
  have hb3 := below_r hb2 hg3 hr
  have b0 := b0 (by omega)
  clear hR2 hown2 hb2 hg3
  go_wp2_with fail
  refine (pick_c _ r _ 20 _ hR3 (by omega)).mono ?_
  rintro e w4 ⟨m1, rfl, a1, b1, hR4, hg4⟩
  have hown4 := own_kept_r hown3 hg4 hrw
  have hb4 := below_r hb3 hg4 hr
  have b1 := b1 (by omega)
  clear hR3 hown3 hb3 hg4
  go_wp2_with fail
  refine (pick_c _ r _ 35 _ hR4 (by omega)).mono ?_
  rintro e w5 ⟨m2, rfl, a2, b2, hR5, hg5⟩
  have hown5 := own_kept_r hown4 hg5 hrw
  have hb5 := below_r hb4 hg5 hr
  have b2 := b2 (by omega)
  clear hR4 hown4 hb4 hg5
  go_wp2_with fail
  refine (pick_c _ r _ 24 _ hR5 (by omega)).mono ?_
  rintro e w6 ⟨m3, rfl, a3, b3, hR6, hg6⟩
  have hown6 := own_kept_r hown5 hg6 hrw
  have hb6 := below_r hb5 hg6 hr
  have b3 := b3 (by omega)
  clear hR5 hown5 hb5 hg6
  go_wp2
  go_ret3
  exact ⟨_, ps, _, _, rfl, hl, Rd.of_own hown6, Sl.of_own hown6, hb6⟩
end Go.Proofs.Ytonahamnkbjipaa
