/- The walks of laws on samples. -/
import Derived.Test.YtgicdfpcegaooaaDrawD
import Derived.Test.YtgicdfpcegaooaaEq
import Derived.Deep.RegionWith
namespace Go.Proofs.Ytgicdfpcegaooaa
open Go.RowKit
theorem samp_le (ps : List P2) (seed many : Int) : (samp ps seed many).length ≤ ps.length := by
  unfold samp; split
  · rw [sampL_len]; unfold sampN; omega
  · simp
theorem Rd.drew {sz : Nat} {w : World} {v : Value} {n : Nat} {flat : List Value} (h : Rd sz w v n flat) : Rd sz w.drew v n flat := h.below (Below.refl _ _).drew
theorem samp_pos {ps : List P2} {seed many : Int} {R : List Int} (h : samp ps seed many = R) (hp : 0 < R.length) : DV ps ∧ 0 ≤ seed ∧ R = sampL ps seed (sampN ps many) := by
  by_cases hd : DV ps ∧ 0 ≤ seed
  · exact ⟨hd.1, hd.2, by rw [← h, samp_yes many hd.1 hd.2]⟩
  · rw [samp_no many hd] at h; subst h; simp at hp
theorem sampAt_shift (ps : List P2) (seed : Int) (i : Nat) : sampAt ps (seed + (ps.length : Int)) i = sampAt ps seed i := by
  unfold sampAt; rw [Int.add_emod_right]
theorem sampL_shift (ps : List P2) (seed : Int) (k : Nat) : sampL ps (seed + (ps.length : Int)) k = sampL ps seed k := by
  unfold sampL; apply List.map_congr_left; intro i _; exact sampAt_shift ps seed i
theorem sampL_take (ps : List P2) (seed : Int) (k m : Nat) (h : m ≤ k) : (sampL ps seed k).take m = sampL ps seed m := by
  unfold sampL; rw [← List.map_take, List.take_range, Nat.min_eq_left h]
theorem own_take1 {w : World} {base e m : Nat} {a : Option Addr} {cap : Nat} {zs : List Int} (h : w.ownsRow base e 1 (.slice a zs.length cap) zs.length (enc1 zs)) (hm : m ≤ zs.length) : Rd 1 w (.slice a (zs.take m).length cap) (zs.take m).length (enc1 (zs.take m)) := by
  have hr := Rd.of_own h
  have hl : (zs.take m).length = m := List.length_take_of_le hm
  obtain ⟨-, a2, c2, e2, h1, h2, h3⟩ := hr
  simp only [Value.slice.injEq, true_and] at e2
  obtain ⟨rfl, rfl⟩ := e2
  refine ⟨enc1_len _, a, cap, rfl, by omega, h2, fun hne => ?_⟩
  obtain ⟨b, off, ha, hc⟩ := h3 (by omega)
  refine ⟨b, off, ha, fun j u hj => hc j u ?_⟩
  simp only [enc1, List.map_take] at hj ⊢
  rw [List.getElem?_take] at hj
  split at hj
  · exact hj
  · cases hj
set_option maxHeartbeats 1600000 in
theorem lawFnSampleShift_c (w : World) (v : Value) (n : Nat) (h : RdB w v n) : Calls Try.prog 10 #[v] w fun e w' => e = .returned (.bool true) ∧ Below w.heap.size w w' := by
  have hB := h
  obtain ⟨a, cap, rfl, h1, h2, -⟩ := h
  unfold maxLen at h2
  by_cases hn : 1048576 < n
  · go_enter Try.func10, Try.ntmps10
    go_wp2
    go_ret
    exact ⟨rfl, Below.refl _ _⟩
  · go_enter Try.func10, Try.ntmps10
    go_wp2_with fail
    refine (drawSample_c _ n _ hB).mono ?_
    rintro e w1 ⟨v, ps, seed, many, rfl, hl, hv, hsl, T1, s1, s2, m1, m2⟩
    clear hB
    have HV := Lib.hid hv
    have HSL := Lib.hid hsl
    obtain ⟨R, hR⟩ : ∃ R, samp ps seed many = R := ⟨_, rfl⟩
    have HR := Lib.hid hR
    have hRn : R.length ≤ 14 := by rw [← hR]; have := samp_le ps seed many; omega
    clear hv hsl hR
    go_wp2_with fail
    refine (dirSample_c _ ps seed many _ HV.out).mono ?_
    rintro e w2 ⟨vo, rfl, ho, hb2⟩
    rw [HR.out] at ho
    have HV2 := Lib.hid (HV.out.below hb2)
    have T2 := T1.trans (hb2.mono T1.size)
    clear HV hb2 T1
    go_wp2_with fail
    refine (specDirSample_c _ ps seed many _ HV2.out).mono ?_
    rintro e w3 ⟨vw, rfl, hw, hb3⟩
    rw [HR.out] at hw
    have HV3 := Lib.hid (HV2.out.below hb3)
    have T3 := T2.trans (hb3.mono T2.size)
    have ho3 := own_below ho hb3
    clear HV2 hb3 T2 ho
    go_wp2_with fail
    refine (sameInts_c _ _ R _ (Rd.of_own ho3) (Rd.of_own hw)).mono ?_
    rintro e w4 ⟨rfl, hb4⟩
    have HV4 := Lib.hid (HV3.out.below hb4)
    have T4 := T3.trans (hb4.mono T3.size)
    have ho4 := own_below ho3 hb4
    have hw4 := own_below hw hb4
    clear HV3 hb4 T3 ho3 hw
    obtain ⟨ao, co, rfl⟩ := own_slice ho4
    have HO4 := Lib.hid ho4
    have HW4 := Lib.hid hw4
    clear ho4 hw4
    by_cases hz : R.length = 0
    · have hz' : ((R.length : Int) == 0) = true := by simp [hz]
      clear hz
      go_wp2_with fail
      refine (sameInts_c _ _ R _ (Rd.of_own HO4.out) (Rd.of_own HW4.out)).mono ?_
      rintro e w5 ⟨rfl, hb5⟩
      have T5 := T4.trans (hb5.mono T4.size)
      go_wp2
      go_ret
      exact ⟨rfl, T5⟩
    · have hz' : ((R.length : Int) == 0) = false := by rw [beq_eq_false_iff_ne]; omega
      have hpos : 0 < R.length := by omega
      obtain ⟨hdv, hs0, hRe⟩ := samp_pos HR.out hpos
      have HD := Lib.hid (And.intro hdv hRe)
      have h8 := hdv.1
      have hplen : 0 < ps.length := by have := samp_le ps seed many; rw [HR.out] at this; omega
      clear hz hdv hRe
      have hs' : samp ps (seed + (ps.length : Int)) many = R := by
        rw [samp_yes many HD.out.1 (by omega), sampL_shift, ← HD.out.2]
      have HS := Lib.hid hs'
      obtain ⟨-, av, cv, rfl, -⟩ := id HV4.out
      clear hs'
      go_wp2_with fail
      refine (dirSample_c _ ps _ many _ HV4.out).mono ?_
      rintro e w5 ⟨v5, rfl, ho5, hb5⟩
      rw [HS.out] at ho5
      have T5 := T4.trans (hb5.mono T4.size)
      have HO5 := Lib.hid (own_below HO4.out hb5)
      clear hb5 T4 HO4 HW4
      go_wp2_with fail
      refine (sameInts_c _ _ R _ (Rd.of_own ho5) (Rd.of_own HO5.out)).mono ?_
      rintro e w6 ⟨rfl, hb6⟩
      have T6 := T5.trans (hb6.mono T5.size)
      go_wp2
      go_ret
      exact ⟨rfl, T6⟩
set_option maxHeartbeats 1600000 in
theorem lawFnSampleMore_c (w : World) (v : Value) (n : Nat) (h : RdB w v n) : Calls Try.prog 9 #[v] w fun e w' => e = .returned (.bool true) ∧ Below w.heap.size w w' := by
  have hB := h
  obtain ⟨a, cap, rfl, h1, h2, -⟩ := h
  unfold maxLen at h2
  by_cases hn : 1048576 < n
  · go_enter Try.func9, Try.ntmps9
    go_wp2
    go_ret
    exact ⟨rfl, Below.refl _ _⟩
  · go_enter Try.func9, Try.ntmps9
    go_wp2_with fail
    refine (drawSample_c _ n _ hB).mono ?_
    rintro e w1 ⟨v, ps, seed, many, rfl, hl, hv, hsl, T1, s1, s2, m1, m2⟩
    clear hB
    have HV := Lib.hid hv
    have HSL := Lib.hid hsl
    obtain ⟨R, hR⟩ : ∃ R, samp ps seed many = R := ⟨_, rfl⟩
    have HR := Lib.hid hR
    have hRn : R.length ≤ 14 := by rw [← hR]; have := samp_le ps seed many; omega
    clear hv hsl hR
    go_wp2_with fail
    refine (dirSample_c _ ps seed many _ HV.out).mono ?_
    rintro e w2 ⟨vo, rfl, ho, hb2⟩
    rw [HR.out] at ho
    have HV2 := Lib.hid (HV.out.below hb2)
    have T2 := T1.trans (hb2.mono T1.size)
    clear HV hb2 T1
    go_wp2_with fail
    refine (specDirSample_c _ ps seed many _ HV2.out).mono ?_
    rintro e w3 ⟨vw, rfl, hw, hb3⟩
    rw [HR.out] at hw
    have HV3 := Lib.hid (HV2.out.below hb3)
    have T3 := T2.trans (hb3.mono T2.size)
    have ho3 := own_below ho hb3
    clear HV2 hb3 T2 ho
    go_wp2_with fail
    refine (sameInts_c _ _ R _ (Rd.of_own ho3) (Rd.of_own hw)).mono ?_
    rintro e w4 ⟨rfl, hb4⟩
    have HV4 := Lib.hid (HV3.out.below hb4)
    have T4 := T3.trans (hb4.mono T3.size)
    have ho4 := own_below ho3 hb4
    have hw4 := own_below hw hb4
    clear HV3 hb4 T3 ho3 hw
    obtain ⟨ao, co, rfl⟩ := own_slice ho4
    have HO4 := Lib.hid ho4
    have HW4 := Lib.hid hw4
    clear ho4 hw4
    by_cases hz : R.length = 0
    · have hz' : ((R.length : Int) == 0) = true := by simp [hz]
      clear hz
      go_wp2_with fail
      refine (sameInts_c _ _ R _ (Rd.of_own HO4.out) (Rd.of_own HW4.out)).mono ?_
      rintro e w5 ⟨rfl, hb5⟩
      have T5 := T4.trans (hb5.mono T4.size)
      go_wp2
      go_ret
      exact ⟨rfl, T5⟩
    · have hz' : ((R.length : Int) == 0) = false := by rw [beq_eq_false_iff_ne]; omega
      have hpos : 0 < R.length := by omega
      obtain ⟨hdv, hs0, hRe⟩ := samp_pos HR.out hpos
      have HD := Lib.hid (And.intro hdv hRe)
      have h8 := hdv.1
      have hplen : 0 < ps.length := by have := samp_le ps seed many; rw [HR.out] at this; omega
      clear hz hdv hRe
      obtain ⟨m, hm⟩ : ∃ m : Nat, (R.length : Int) / 2 = (m : Int) ∧ m ≤ R.length := ⟨R.length / 2, by simp, Nat.div_le_self _ _⟩
      obtain ⟨hm, hm'⟩ := hm
      have hmt : (R.length : Int).tdiv 2 = (m : Int) := by rw [Int.tdiv_eq_ediv_of_nonneg (by omega)]; exact hm
      have hmw : IntKind.i64.wrap (m : Int) = (m : Int) := IntWalk.i64_in _ (by omega)
      have hs' : samp ps seed (m : Int) = R.take m := by
        have hl := congrArg List.length HD.out.2
        rw [sampL_len] at hl
        rw [samp_yes _ HD.out.1 hs0, HD.out.2, sampL_take _ _ _ _ (by omega)]
        congr 1
        unfold sampN at hl ⊢
        omega
      have HS := Lib.hid (And.intro hs' (List.length_take_of_le hm'))
      have hco : R.length ≤ co := by
        obtain ⟨-, a2, c2, e2, h1, -⟩ := Rd.of_own HO4.out
        simp only [Value.slice.injEq, true_and] at e2
        omega
      have hmc : m ≤ co := by omega
      clear hs' 
      go_wp2
      go_region_with (first
        | (go_at_call 34; refine (dirSample_c _ ps seed (m : Int) _ HV4.out.drew).mono ?_; rintro e w5 ⟨v5, rfl, ho5, hb5⟩; rw [HS.out.1] at ho5; have T5 := T4.drew.trans (hb5.mono T4.size); have HO5 := Lib.hid (own_below HO4.out.drew hb5); clear hb5)
        | (go_at_call 40; refine (sameInts_c _ _ (R.take m) _ (Rd.of_own ho5) (by have e := own_take1 HO5.out hm'; rw [HS.out.2] at e ⊢; exact e)).mono ?_; rintro e w6 ⟨rfl, hb6⟩; have T6 := T5.trans (hb6.mono T5.size)))
      all_goals
        go_wp2
        go_ret
        exact ⟨rfl, T6⟩
end Go.Proofs.Ytgicdfpcegaooaa
