/- Walks: JoinOrder of the reference; what is stable. -/
import Derived.Test.YthnepmhkeceadaaJwI
namespace Go.Proofs.Ythnepmhkeceadaa
open Go.RowKit
set_option maxHeartbeats 1600000 in
theorem specJoinOrder_c {S : Nat → Prop} (F : Fd) (fv : Value) (W : World) (h : RdF S W fv F) :
    Calls Try.prog 29 #[fv] W (RetOwn 37 2 (jo F).length (enc2 (jo F)) W) := by
  have H := Lib.hid h
  clear h
  by_cases hj : JV F
  · have HJ := Lib.hid hj
    have HO := Lib.hid (jo_t hj)
    rw [HO.out, ordN_len]
    clear hj
    go_enter Try.func29, Try.ntmps29
    go_wp2_with fail
    refine (specJoinValid_c F _ _ H.out).mono ?_
    rintro e w1 ⟨rfl, hb1⟩
    rw [jvB_t HJ.out]
    have HB := Lib.hid hb1
    clear hb1
    go_wp2_with fail
    refine (l31Order_c F _ _ (H.out.below HB.out) HJ.out).mono ?_
    rintro e w2 ⟨v, rfl, hown, hb2⟩
    have HB2 := Lib.hid (HB.out.trans (hb2.mono HB.out.size))
    have HO2 := Lib.hid (own_base hown HB.out.size)
    clear hb2 hown
    go_wp2
    go_ret
    exact ⟨_, rfl, HO2.out, HB2.out⟩
  · have HJ := Lib.hid hj
    have HO := Lib.hid (jo_f hj)
    rw [HO.out]
    clear hj
    go_enter Try.func29, Try.ntmps29
    go_wp2_with fail
    refine (specJoinValid_c F _ _ H.out).mono ?_
    rintro e w1 ⟨rfl, hb1⟩
    rw [jvB_f HJ.out]
    have HB := Lib.hid hb1
    clear hb1
    go_wp2
    go_ret
    exact ⟨_, rfl, own_base (own_empty w1 w1.heap.size 37 2 (Nat.le_refl _)) HB.out.size, HB.out.alloc HB.out.size _⟩
open Classical in
noncomputable def stB (F : Fd) (w i : Nat) : Bool := decide (Stb F w i)
theorem stB_t {F : Fd} {w i : Nat} (h : Stb F w i) : stB F w i = true := by unfold stB; simp [h]
theorem stB_f {F : Fd} {w i : Nat} (h : ¬ Stb F w i) : stB F w i = false := by unfold stB; simp [h]
def Stb1 (F : Fd) (w i u : Nat) : Prop := 0 < ln F u ∧ (u = w ∨ (i : Int) < ck F u (ln F u - 1) w)
theorem stb1_step {F : Fd} {w i v : Nat} (h : ∀ u, u < v → Stb1 F w i u) (hv : Stb1 F w i v) : ∀ u, u < v + 1 → Stb1 F w i u := fun u hu => by
  by_cases e : u = v
  · subst e; exact hv
  · exact h u (by omega)
set_option maxHeartbeats 1600000 in
theorem stable_c {S : Nat → Prop} (F : Fd) (fv : Value) (w i : Nat) (W : World) (h : RdF S W fv F) (hj : JV F) (hw : w < 3) :
    Calls Try.prog 54 #[fv, .agg #[.int .i64 w, .int .i64 i]] W (SeesPost (stB F w i) W) := by
  have HJ := Lib.hid hj
  obtain ⟨a0, cap0, rfl, q1, q2⟩ := h.shape
  rw [hj.1] at q1 h ⊢
  unfold maxLen at q2
  have H := Lib.hid h
  clear h hj
  have hb0 : Below W.heap.size W (W.alloc (.cells #[.int .i64 w, .int .i64 i] 37)) := by (repeat' (first | exact Below.refl _ _ | assumption | refine Below.drew ?_ | refine below_drewN ?_ _ | refine Below.alloc ?_ (by omega) _ | refine Below.alloc ?_ (by simp; omega) _ | refine Below.alloc ?_ (by simp) _ | refine Below.setCell ?_ (by omega) _ | refine Below.setCell ?_ (by simp; omega) _ | refine Below.setCell ?_ (by simp) _))
  obtain ⟨w1, hw1⟩ : ∃ w1, w1 = W.alloc (.cells #[.int .i64 w, .int .i64 i] 37) := ⟨_, rfl⟩
  have R0 : w1.cell? ⟨W.heap.size, 0, none⟩ = some (.int .i64 w) := by rw [hw1]; simp
  have R1 : w1.cell? ⟨W.heap.size, 1, none⟩ = some (.int .i64 i) := by rw [hw1]; simp
  rw [← hw1] at hb0
  have HW1 := Lib.hid hw1
  have hz1 := hb0.size
  have HB0 := Lib.hid hb0
  have R := Lib.hid (And.intro R0 R1)
  clear hw1 R0 R1 hb0
  go_enter Try.func54, Try.ntmps54
  go_wp2
  rw [← HW1.out]
  go_loopw [9] (fun i' wr => ∃ v : Nat, v ≤ 3 ∧ i' = .int .i64 v ∧ Hid (Below w1.heap.size w1 wr) ∧ Hid (∀ u, u < v → Stb1 F w i u)) (fun i' _ => 3 - (intOf i').toNat)
  case atStart => exact ⟨0, Nat.zero_le _, rfl, Below.refl _ _, fun u hu => absurd hu (Nat.not_lt_zero _)⟩
  case round =>
    obtain ⟨v, hv, rfl, HB, HN⟩ := hrel
    obtain ⟨wo, rfl⟩ : ∃ wo : World, wo = wr := ⟨_, rfl⟩
    by_cases hlt : v < 3
    · have hlt' : (v : Int) < 3 := by omega
      have r0 := cell_keep HB.out R.out.1
      have r1 := cell_keep HB.out R.out.2
      have HBW := Lib.hid (HB0.out.trans (HB.out.mono hz1))
      obtain ⟨b5, o5, c5, a6, c6, ev, -, -, q5, q6, q7, -⟩ := (H.out.below HBW.out).feed (j := v) (by rw [HJ.out.1]; exact hlt)
      rw [HJ.out.1] at ev
      simp only [Value.slice.injEq] at ev
      obtain ⟨rfl, -, rfl⟩ := ev
      unfold maxLen at q7
      have h8 := HJ.out.2.1 v hlt
      obtain ⟨L, hL⟩ : ∃ L, ln F v = L := ⟨_, rfl⟩
      rw [hL] at q5 q6 h8
      have HL := Lib.hid hL
      clear hL
      by_cases he : L = 0
      · subst he
        have hf := Lib.hid (stB_f (F := F) (w := w) (i := i) (fun hh => by have := (hh v hlt).1; have := HL.out; omega))
        go_wp2
        go_ret
        exact ⟨ret_b hf.out.symm, HBW.out⟩
      · have hee : ((L : Int) == 0) = false := by rw [beq_eq_false_iff_ne]; omega
        obtain ⟨n, hn⟩ : ∃ n, L = n + 1 := ⟨L - 1, by omega⟩
        have hwr : IntKind.i64.wrap ((L : Int) - 1) = (n : Int) := by rw [IntKind.wrap_i64]; omega
        have HLn := Lib.hid hn
        clear hn he
        by_cases hvw : v = w
        · have hvw' : ((v : Int) != (w : Int)) = false := by rw [bne_eq_false_iff_eq]; omega
          have HN' := Lib.hid (stb1_step HN.out ⟨by have := HL.out; have := HLn.out; omega, .inl hvw⟩)
          clear hvw
          go_wp2
          go_roundw
          case rel => exact ⟨v + 1, by omega, by go_num, HB, HN'⟩
          case measure => simp [intOf]; omega
        · have hvw' : ((v : Int) != (w : Int)) = true := by rw [bne_iff_ne]; omega
          have HVW := Lib.hid hvw
          clear hvw
          go_wp2_with fail
          refine (sees_c F _ v n w i _ (H.out.below HBW.out) (by rw [HJ.out.1]; exact hlt) (by rw [HL.out, HLn.out]; omega) (by rw [(HJ.out.2.2.1 v hlt n (by rw [HL.out, HLn.out]; omega)).1]; exact hw)).mono ?_
          rintro e w2 ⟨rfl, hb2⟩
          have HB2 := Lib.hid (HB.out.trans (hb2.mono HB.out.size))
          clear hb2 r0 r1 q5
          by_cases hs : (i : Int) < ck F v n w
          · rw [seesB_t (fun e => HVW.out e.1) hs]
            have HN' := Lib.hid (stb1_step HN.out ⟨by have := HL.out; have := HLn.out; omega, .inr (by rw [HL.out, HLn.out]; exact hs)⟩)
            clear hs
            go_wp2
            go_roundw
            case rel => exact ⟨v + 1, by omega, by go_num, HB2, HN'⟩
            case measure => simp [intOf]; omega
          · rw [seesB_f (.inr (by omega))]
            have hf := Lib.hid (stB_f (F := F) (w := w) (i := i) (fun hh => by
              rcases (hh v hlt).2 with h1 | h1
              · exact HVW.out h1
              · rw [HL.out, HLn.out] at h1; exact hs h1))
            clear hs
            go_wp2
            go_ret
            exact ⟨ret_b hf.out.symm, HB0.out.trans (HB2.out.mono hz1)⟩
    · obtain rfl : v = 3 := by omega
      have hT := Lib.hid (stB_t (F := F) (w := w) (i := i) HN.out)
      go_wp2
      go_ret
      exact ⟨ret_b hT.out.symm, HB0.out.trans (HB.out.mono hz1)⟩
open Classical in
noncomputable def jsv (F : Fd) : Int := if JV F then (stv F : Int) else -1
theorem jsv_t {F : Fd} (h : JV F) : jsv F = (stv F : Int) := by unfold jsv; rw [if_pos h]
theorem jsv_f {F : Fd} (h : ¬ JV F) : jsv F = -1 := by unfold jsv; rw [if_neg h]
theorem stN_t {F : Fd} {k : Nat} (h : Stb F (wk F k) (pst F k (wk F k))) : stN F (k + 1) = k + 1 := by rw [stN, if_pos h]
theorem stN_f {F : Fd} {k : Nat} (h : ¬ Stb F (wk F k) (pst F k (wk F k))) : stN F (k + 1) = stN F k := by rw [stN, if_neg h]
def RetI (z : Int) (W : World) (e : Ending) (W' : World) : Prop := e = .returned (.int .i64 z) ∧ Below W.heap.size W W'
theorem ref_cells {w : World} {base n : Nat} {v : Value} {F : Fd} (ho : w.ownsRow base 37 2 v n (enc2 (ordN F n))) {k : Nat} (hk : k < n) :
    ∃ g cap, v = .slice (some ⟨g, 0, none⟩) n cap ∧ n ≤ cap ∧ cap ≤ maxLen ∧ g < w.heap.size ∧ w.cell? ⟨g, k * 2, none⟩ = some (.int .i64 (wk F k : Nat)) ∧ w.cell? ⟨g, k * 2 + 1, none⟩ = some (.int .i64 (pst F k (wk F k) : Nat)) := by
  rcases own_cases ho with ⟨-, h0, -⟩ | ⟨g, cap, rfl, -, h2, h3, h4⟩
  · omega
  · have hat := enc2_at (ordN F n) k (0, 0) (by rw [ordN_len]; exact hk)
    rw [ordN_at F hk] at hat
    exact ⟨g, cap, rfl, h3, h4, h2, (ho.cellAt (k * 2) (by omega)).trans hat.1, (ho.cellAt (k * 2 + 1) (by omega)).trans hat.2⟩
set_option maxHeartbeats 1600000 in
theorem joinStable_c {S : Nat → Prop} (F : Fd) (fv : Value) (W : World) (h : RdF S W fv F) :
    Calls Try.prog 25 #[fv] W (RetI (jsv F) W) := by
  have H := Lib.hid h
  clear h
  by_cases hj : JV F
  · have HJ := Lib.hid hj
    have HS := Lib.hid (jsv_t hj)
    rw [HS.out]
    clear hj
    go_enter Try.func25, Try.ntmps25
    go_wp2_with fail
    refine (joinValid_c F _ _ H.out).mono ?_
    rintro e w1 ⟨rfl, hb1⟩
    rw [jvB_t HJ.out]
    have HB := Lib.hid hb1
    clear hb1
    go_wp2_with fail
    refine (joinOrder_c F _ _ (H.out.below HB.out)).mono ?_
    rintro e w2 ⟨v, rfl, hown, hb2⟩
    rw [jo_t HJ.out, ordN_len] at hown
    have HB2 := Lib.hid (HB.out.trans (hb2.mono HB.out.size))
    have HO2 := Lib.hid hown
    obtain ⟨a, cap, rfl⟩ := own_slice hown
    have ht := tot_le HJ.out
    clear hb2 hown HB
    go_wp2
    go_loopw [3, 12] (fun b i' wr => ∃ k : Nat, k ≤ tot F ∧ i' = .int .i64 k ∧ b = .int .i64 (stN F k : Nat) ∧ Hid (Below w2.heap.size w2 wr)) (fun _ i' _ => tot F - (intOf i').toNat)
    case atStart => exact ⟨0, Nat.zero_le _, rfl, rfl, Below.refl _ _⟩
    case round =>
      obtain ⟨k, hk, rfl, rfl, HBr⟩ := hrel
      by_cases hlt : k < tot F
      · obtain ⟨g, cap', ev, -, h2, -, d1, d2⟩ := ref_cells HO2.out hlt
        simp only [Value.slice.injEq, true_and] at ev
        obtain ⟨rfl, rfl⟩ := ev
        unfold maxLen at h2
        have d1 := cell_keep HBr.out d1
        have d2 := cell_keep HBr.out d2
        have hw3 := wk_lt HJ.out hlt
        obtain ⟨x, hx⟩ : ∃ x, wk F k = x := ⟨_, rfl⟩
        obtain ⟨y, hy⟩ : ∃ y, pst F k (wk F k) = y := ⟨_, rfl⟩
        obtain ⟨z, hz⟩ : ∃ z, stN F k = z := ⟨_, rfl⟩
        rw [hy] at d2
        rw [hx] at d1 hw3
        rw [hz]
        have HX := Lib.hid (And.intro hx (And.intro hy hz))
        have hkw : IntKind.i64.wrap ((k : Int) + 1) = (k : Int) + 1 := by rw [IntKind.wrap_i64]; omega
        have HBW := Lib.hid (HB2.out.trans (HBr.out.mono HB2.out.size))
        have HBa : Hid (Below w2.heap.size w2 (wr.alloc (.cells #[.int .i64 x, .int .i64 y] 37))) := HBr.out.alloc HBr.out.size _
        have HBb : Hid (Below W.heap.size W (wr.alloc (.cells #[.int .i64 x, .int .i64 y] 37))) := HBW.out.alloc HBW.out.size _
        clear hx hy hz
        go_wp2_with fail
        refine (stable_c F _ x y _ (H.out.below HBb.out) HJ.out hw3).mono ?_
        rintro e w3 ⟨rfl, hb3⟩
        have HB3 := Lib.hid (HBa.out.trans (hb3.mono HBa.out.size))
        clear hb3 d1 d2
        by_cases hs : Stb F x y
        · rw [stB_t hs]
          have HK : Hid (stN F (k + 1) = k + 1) := stN_t (by rw [HX.out.2.1, HX.out.1]; exact hs)
          clear hs
          go_wp2
          go_roundw
          case rel => exact ⟨k + 1, by omega, by go_num, by rw [HK.out]; go_num, HB3⟩
          case measure => simp [intOf]; omega
        · rw [stB_f hs]
          have HK : Hid (stN F (k + 1) = z) := (stN_f (by rw [HX.out.2.1, HX.out.1]; exact hs)).trans HX.out.2.2
          clear hs
          go_wp2
          go_roundw
          case rel => exact ⟨k + 1, by omega, by go_num, by rw [HK.out], HB3⟩
          case measure => simp [intOf]; omega
      · obtain rfl : k = tot F := by omega
        go_wp2
        go_ret
        exact ⟨rfl, HB2.out.trans (HBr.out.mono HB2.out.size)⟩
  · have HJ := Lib.hid hj
    have HS := Lib.hid (jsv_f hj)
    rw [HS.out]
    clear hj
    go_enter Try.func25, Try.ntmps25
    go_wp2_with fail
    refine (joinValid_c F _ _ H.out).mono ?_
    rintro e w1 ⟨rfl, hb1⟩
    rw [jvB_f HJ.out]
    go_wp2
    go_ret
    exact ⟨rfl, hb1⟩
end Go.Proofs.Ythnepmhkeceadaa
