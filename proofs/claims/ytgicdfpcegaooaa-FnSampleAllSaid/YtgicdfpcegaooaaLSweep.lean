/- The walks of the laws on sweeps. -/
import Derived.Test.YtgicdfpcegaooaaDrawD
import Derived.Test.YtgicdfpcegaooaaEq
namespace Go.Proofs.Ytgicdfpcegaooaa
open Go.RowKit
def tm (node : Int) (ps : List P2) : Int := ((ps.find? fun p => p.1 == node).map (·.2)).getD (-1)
theorem tm_none {node : Int} {ps : List P2} (h : ∀ j, j < ps.length → (ps.getD j (0, 0)).1 ≠ node) : tm node ps = -1 := by
  unfold tm
  rw [List.find?_eq_none.2]
  · rfl
  · intro p hp
    obtain ⟨k, hk, rfl⟩ := List.getElem_of_mem hp
    have := h k hk
    rw [List.getD_eq_getElem?_getD, List.getElem?_eq_getElem hk] at this
    simpa using this
theorem tm_at {node : Int} {ps : List P2} (k : Nat) (hk : k < ps.length) (h1 : (ps.getD k (0, 0)).1 = node) (h2 : ∀ j, j < k → (ps.getD j (0, 0)).1 ≠ node) : tm node ps = (ps.getD k (0, 0)).2 := by
  unfold tm
  have e : ps.find? (fun p => p.1 == node) = some (ps.getD k (0, 0)) := by
    rw [List.find?_eq_some_iff_getElem]
    refine ⟨by rw [beq_iff_eq]; exact h1, k, hk, ?_, fun j hj => ?_⟩
    · rw [List.getD_eq_getElem?_getD, List.getElem?_eq_getElem hk]; rfl
    · have := h2 j hj
      rw [List.getD_eq_getElem?_getD, List.getElem?_eq_getElem (Nat.lt_trans hj hk)] at this
      simpa using this
  rw [e]; rfl
theorem rd_drewN {sz : Nat} {w : World} {v : Value} {n : Nat} {flat : List Value} (h : Rd sz w v n flat) (k : Nat) : Rd sz (w.drewN k) v n flat := h.below (below_drewN (Below.refl _ _) _)
theorem ret_i {a b : Int} (h : a = b) : Ending.returned (.int .i64 a) = .returned (.int .i64 b) := by rw [h]
set_option maxHeartbeats 800000 in
theorem timeOf_c (v : Value) (ps : List P2) (node : Int) (w : World) (h : Rd 2 w v ps.length (enc2 ps)) :
    Calls Try.prog 45 #[v, .int .i64 node] w fun e w' => e = .returned (.int .i64 (tm node ps)) ∧ w = w' := by
  obtain ⟨-, a1, c1, rfl, h1, m1, k1⟩ := h
  unfold maxLen at m1
  go_enter Try.func45, Try.ntmps45
  go_wp2
  go_loop [5] (fun i => ∃ k : Nat, k ≤ ps.length ∧ i = .int .i64 k ∧ Hid (∀ j, j < k → (ps.getD j (0, 0)).1 ≠ node)) (fun i => ps.length - (intOf i).toNat)
  case atStart => exact ⟨0, Nat.zero_le _, rfl, fun j hj => absurd hj (Nat.not_lt_zero _)⟩
  case round =>
    obtain ⟨k, hk, rfl, HN⟩ := hrel
    by_cases hlt : k < ps.length
    · obtain ⟨b1, o1, rfl, g1⟩ := k1 (by omega)
      obtain ⟨x, y, e1, u1, u2⟩ := at2 (Below.refl _ _) g1 k hlt
      have HE := Lib.hid e1
      clear e1 g1 k1
      by_cases hx : x = node
      · have hx' : (x == node) = true := by simpa using hx
        have HT := Lib.hid (tm_at (node := node) k hlt (by rw [HE.out]; exact hx) HN.out)
        clear hx
        go_wp2
        go_ret
        exact ⟨ret_i (by rw [HT.out, HE.out]), rfl⟩
      · have hx' : (x == node) = false := by simpa using hx
        have HX := Lib.hid hx
        clear hx
        go_wp2
        go_round
        case rel =>
          refine ⟨k + 1, by omega, by go_num, fun j hj => ?_⟩
          by_cases e : j = k
          · subst e; rw [HE.out]; exact HX.out
          · exact HN.out j (by omega)
        case measure => simp [intOf]; omega
    · have HT := Lib.hid (tm_none (node := node) (ps := ps) (fun j hj => HN.out j (by omega)))
      clear k1
      go_wp2
      go_ret
      exact ⟨ret_i (by rw [HT.out]), rfl⟩
theorem dv_lt {ps : List P2} (h : DV ps) : ∀ i j, i < j → j < ps.length → (ps.getD i (0, 0)).1 < (ps.getD j (0, 0)).1 := by
  intro i j hij hj
  induction j with
  | zero => omega
  | succ j ih =>
    have h1 := (h.2 (j + 1) hj).2.2.2.2 (by omega)
    rw [show j + 1 - 1 = j from by omega] at h1
    by_cases e : i = j
    · subst e; exact h1
    · have := ih (by omega) (by omega); omega
theorem getD_mem {ps : List P2} {k : Nat} (h : k < ps.length) : ps.getD k (0, 0) ∈ ps := by
  rw [List.getD_eq_getElem?_getD, List.getElem?_eq_getElem h]; exact List.getElem_mem h
theorem dv_iff (ps : List P2) : DV ps ↔ ps.length ≤ 8 ∧ (∀ p ∈ ps, 0 ≤ p.1 ∧ p.1 ≤ 99 ∧ 0 ≤ p.2 ∧ p.2 ≤ 999) ∧ ps.Pairwise (fun a b => a.1 < b.1) := by
  constructor
  · intro h
    refine ⟨h.1, fun p hp => ?_, ?_⟩
    · obtain ⟨k, hk, rfl⟩ := List.getElem_of_mem hp
      have := h.2 k hk
      unfold dvAt at this
      rw [List.getD_eq_getElem?_getD, List.getElem?_eq_getElem hk] at this
      exact ⟨this.1, this.2.1, this.2.2.1, this.2.2.2.1⟩
    · rw [List.pairwise_iff_getElem]
      intro i j hi hj hij
      have := dv_lt h i j hij hj
      rwa [List.getD_eq_getElem?_getD, List.getD_eq_getElem?_getD, List.getElem?_eq_getElem hi, List.getElem?_eq_getElem hj] at this
  · rintro ⟨h1, h2, h3⟩
    refine ⟨h1, fun k hk => ?_⟩
    have := h2 _ (getD_mem hk)
    refine ⟨this.1, this.2.1, this.2.2.1, this.2.2.2, fun hk0 => ?_⟩
    rw [List.pairwise_iff_getElem] at h3
    have := h3 (k - 1) k (by omega) hk (by omega)
    rwa [List.getD_eq_getElem?_getD, List.getD_eq_getElem?_getD, List.getElem?_eq_getElem hk, List.getElem?_eq_getElem (show k - 1 < ps.length by omega)]
theorem dv_sw {now : Int} {ps : List P2} (h : DV ps) : DV (sw now ps) := by
  rw [dv_iff] at h ⊢
  exact ⟨Nat.le_trans (sw_le now ps) h.1, fun p hp => h.2.1 p (List.mem_filter.1 hp).1, h.2.2.sublist List.filter_sublist⟩
theorem sw_sw (now : Int) (ps : List P2) : sw now (sw now ps) = sw now ps := by unfold sw; rw [List.filter_filter]; simp
theorem dsw_dsw (now : Int) (ps : List P2) : dsw now (dsw now ps) = dsw now ps := by
  by_cases h : DV ps ∧ 0 ≤ now ∧ now ≤ 999
  · rw [dsw_yes h.1 h.2.1 h.2.2, dsw_yes (dv_sw h.1) h.2.1 h.2.2, sw_sw]
  · rw [dsw_no h]; unfold dsw; split <;> rfl
theorem dsw_le (now : Int) (ps : List P2) : (dsw now ps).length ≤ ps.length := by
  unfold dsw; split
  · exact sw_le now ps
  · simp
/-- In a valid directory the swept one has a node's time exactly if the node is fresh. -/
theorem tm_sw {now : Int} {ps : List P2} (h : DV ps) (k : Nat) (hk : k < ps.length) :
    tm (ps.getD k (0, 0)).1 (sw now ps) = if keepB now (ps.getD k (0, 0)) then (ps.getD k (0, 0)).2 else -1 := by
  have hd := dv_sw (now := now) h
  by_cases hf : keepB now (ps.getD k (0, 0)) = true
  · rw [if_pos hf]
    have hm : ps.getD k (0, 0) ∈ sw now ps := List.mem_filter.2 ⟨getD_mem hk, hf⟩
    obtain ⟨i, hi, he⟩ := List.getElem_of_mem hm
    have he' : (sw now ps).getD i (0, 0) = ps.getD k (0, 0) := by rw [List.getD_eq_getElem?_getD, List.getElem?_eq_getElem hi]; exact he
    rw [tm_at i hi (by rw [he']) (fun j hj => by have := dv_lt hd j i hj hi; rw [he'] at this; omega), he']
  · rw [if_neg hf]
    refine tm_none fun j hj heq => ?_
    have hm := getD_mem hj
    obtain ⟨hm1, hm2⟩ := List.mem_filter.1 hm
    obtain ⟨i, hi, he⟩ := List.getElem_of_mem hm1
    have he' : ps.getD i (0, 0) = (sw now ps).getD j (0, 0) := by rw [List.getD_eq_getElem?_getD, List.getElem?_eq_getElem hi]; exact he
    have hik : i = k := by
      rcases Nat.lt_trichotomy i k with hlt | e | hgt
      · have := dv_lt h i k hlt hk; rw [he'] at this; omega
      · exact e
      · have := dv_lt h k i hgt hi; rw [he'] at this; omega
    subst hik
    rw [he'] at hf
    exact hf hm2
set_option maxHeartbeats 1600000 in
theorem lawFnSweepTwice_c (w : World) (v : Value) (n : Nat) (h : RdB w v n) : Calls Try.prog 14 #[v] w fun e w' => e = .returned (.bool true) ∧ Below w.heap.size w w' := by
  have hB := h
  obtain ⟨a, cap, rfl, h1, h2, -⟩ := h
  unfold maxLen at h2
  by_cases hn : 1048576 < n
  · go_enter Try.func14, Try.ntmps14
    go_wp2
    go_ret
    exact ⟨rfl, Below.refl _ _⟩
  · go_enter Try.func14, Try.ntmps14
    go_wp2_with fail
    refine (drawSweep_c _ n _ hB).mono ?_
    rintro e w1 ⟨v, ps, now, rfl, hl, hv, hsl, T1⟩
    clear hB
    have HV := Lib.hid hv
    have HSL := Lib.hid hsl
    obtain ⟨R, hR⟩ : ∃ R, dsw now ps = R := ⟨_, rfl⟩
    have HR := Lib.hid hR
    have hRn : R.length ≤ 14 := by rw [← hR]; have := dsw_le now ps; omega
    clear hv hsl hR
    go_wp2_with fail
    refine (dirSweep_c _ ps now _ HV.out HSL.out).mono ?_
    rintro e w2 ⟨vo, rfl, ho, hb2⟩
    rw [HR.out] at ho
    have HV2 := Lib.hid (HV.out.below hb2)
    have T2 := T1.trans (hb2.mono T1.size)
    clear HV hb2 T1
    go_wp2_with fail
    refine (specSweep_c _ ps now _ HV2.out HSL.out).mono ?_
    rintro e w3 ⟨vw, rfl, hw, hb3⟩
    rw [HR.out] at hw
    have HV3 := Lib.hid (HV2.out.below hb3)
    have T3 := T2.trans (hb3.mono T2.size)
    have ho3 := own_below ho hb3
    clear HV2 hb3 T2 ho
    go_wp2_with fail
    refine (sameListed_c _ _ R _ (Rd.of_own ho3) (Rd.of_own hw)).mono ?_
    rintro e w4 ⟨rfl, hb4⟩
    have HV4 := Lib.hid (HV3.out.below hb4)
    have T4 := T3.trans (hb4.mono T3.size)
    have HO4 := Lib.hid (own_below ho3 hb4)
    have HW4 := Lib.hid (own_below hw hb4)
    clear HV3 hb4 T3 ho3 hw
    have HRR : Hid (dsw now R = R) := by have e := dsw_dsw now ps; rw [HR.out] at e; exact e
    go_wp2_with fail
    refine (dirSweep_c _ R now _ (Rd.of_own HO4.out) (Sl.of_own HO4.out)).mono ?_
    rintro e w5 ⟨v5, rfl, h5, hb5⟩
    rw [HRR.out] at h5
    have T5 := T4.trans (hb5.mono T4.size)
    have HO5 := Lib.hid (own_below HO4.out hb5)
    clear HO4 HW4 T4 hb5
    go_wp2_with fail
    refine (sameListed_c _ _ R _ (Rd.of_own h5) (Rd.of_own HO5.out)).mono ?_
    rintro e w6 ⟨rfl, hb6⟩
    have T6 := T5.trans (hb6.mono T5.size)
    go_wp2
    go_ret
    exact ⟨rfl, T6⟩
set_option maxHeartbeats 1600000 in
theorem lawFnSweep_c (w : World) (v : Value) (n : Nat) (h : RdB w v n) : Calls Try.prog 15 #[v] w fun e w' => e = .returned (.bool true) ∧ Below w.heap.size w w' := by
  have hB := h
  obtain ⟨a, cap, rfl, h1, h2, -⟩ := h
  unfold maxLen at h2
  by_cases hn : 1048576 < n
  · go_enter Try.func15, Try.ntmps15
    go_wp2
    go_ret
    exact ⟨rfl, Below.refl _ _⟩
  · go_enter Try.func15, Try.ntmps15
    go_wp2_with fail
    refine (drawSweep_c _ n _ hB).mono ?_
    rintro e w1 ⟨v, ps, now, rfl, hl, hv, hsl, T1⟩
    clear hB
    have HV := Lib.hid hv
    have HSL := Lib.hid hsl
    obtain ⟨R, hR⟩ : ∃ R, dsw now ps = R := ⟨_, rfl⟩
    have HR := Lib.hid hR
    have hRn : R.length ≤ 14 := by rw [← hR]; have := dsw_le now ps; omega
    clear hv hsl hR
    go_wp2_with fail
    refine (dirSweep_c _ ps now _ HV.out HSL.out).mono ?_
    rintro e w2 ⟨vo, rfl, ho, hb2⟩
    rw [HR.out] at ho
    have HV2 := Lib.hid (HV.out.below hb2)
    have T2 := T1.trans (hb2.mono T1.size)
    clear HV hb2 T1
    go_wp2_with fail
    refine (specSweep_c _ ps now _ HV2.out HSL.out).mono ?_
    rintro e w3 ⟨vw, rfl, hw, hb3⟩
    rw [HR.out] at hw
    have HV3 := Lib.hid (HV2.out.below hb3)
    have T3 := T2.trans (hb3.mono T2.size)
    have ho3 := own_below ho hb3
    clear HV2 hb3 T2 ho
    go_wp2_with fail
    refine (sameListed_c _ _ R _ (Rd.of_own ho3) (Rd.of_own hw)).mono ?_
    rintro e w4 ⟨rfl, hb4⟩
    have HV4 := Lib.hid (HV3.out.below hb4)
    have T4 := T3.trans (hb4.mono T3.size)
    have HO4 := Lib.hid (own_below ho3 hb4)
    have HW4 := Lib.hid (own_below hw hb4)
    clear HV3 hb4 T3 ho3 hw
    go_wp2_with fail
    refine (specDirValid_c _ ps _ HV4.out).mono ?_
    rintro e w5 ⟨rfl, hb5⟩
    have HV5 := Lib.hid (HV4.out.below hb5)
    have T5 := T4.trans (hb5.mono T4.size)
    have HO5 := Lib.hid (own_below HO4.out hb5)
    have HW5 := Lib.hid (own_below HW4.out hb5)
    clear HV4 hb5 T4 HO4 HW4
    by_cases hd : DV ps ∧ 0 ≤ now ∧ now ≤ 999
    · obtain ⟨hdv, n1, n2⟩ := hd
      have hRs : R = sw now ps := by rw [← HR.out, dsw_yes hdv n1 n2]
      have HD := Lib.hid (And.intro hdv (And.intro hRs (dvB_true hdv)))
      have ht := hdv.times
      have h8 := hdv.1
      have HT := Lib.hid ht
      clear hdv hRs ht
      obtain ⟨-, av, cv, rfl, hv1, hv2, hv3⟩ := id HV5.out
      unfold maxLen at hv2
      obtain ⟨ao, co, rfl⟩ := own_slice HO5.out
      have hco : R.length ≤ co := by
        obtain ⟨-, a2, c2, e2, h1, -⟩ := Rd.of_own HO5.out
        simp only [Value.slice.injEq, true_and] at e2
        omega
      rw [HD.out.2.2]
      go_wp2
      go_loopw [7, 8, 9] (fun c i _ wr => ∃ k : Nat, k ≤ ps.length ∧ i = .int .i64 k ∧ (∃ m : Nat, c = .int .i64 m ∧ m ≤ k ∧ Hid (m = (sw now (ps.take k)).length)) ∧ Below w5.heap.size w5 wr) (fun _ i _ _ => ps.length - (intOf i).toNat)
      case atStart => exact ⟨0, Nat.zero_le _, rfl, ⟨0, rfl, Nat.le_refl _, rfl⟩, Below.refl _ _⟩
      case round =>
        obtain ⟨k, hk, rfl, ⟨m, rfl, hmk, HM⟩, hbr⟩ := hrel
        have HOr := Lib.hid (own_below HO5.out hbr)
        by_cases hlt : k < ps.length
        · obtain ⟨b1, o1, rfl, g1⟩ := hv3 (by omega)
          obtain ⟨x, y, e1, u1, u2⟩ := at2 hbr g1 k hlt
          have hy := HT.out k hlt
          have htm := tm_sw (now := now) HD.out.1 k hlt
          have hs := take_snoc_getD ps k (0, 0) hlt
          rw [e1] at hy hs htm
          rw [← HD.out.2.1] at htm
          simp only [] at hy htm
          obtain ⟨hy1, hy2⟩ := hy
          obtain ⟨t, ht⟩ : ∃ t, tm x R = t := ⟨_, rfl⟩
          have HTM := Lib.hid ht
          rw [ht] at htm
          have HS := Lib.hid hs
          clear e1 g1 hv3 hs ht
          by_cases hf : now ≤ y + 10
          · have hty : t = y := by rw [htm, if_pos (by simp [keepB, hf])]
            subst hty
            clear htm
            go_wp2
            go_quiet ((go_at_call 45; exact Calls.quiet_of_same ((timeOf_c _ R x _ (rd_drewN (Rd.of_own HOr.out) _)).mono fun _ _ ⟨a, b⟩ => ⟨by rw [a, HTM.out], b.symm⟩)))
            go_wp2
            go_roundw
            case rel => exact ⟨k + 1, by omega, by go_num, ⟨m + 1, by go_num, by omega, by rw [HS.out, sw_snoc, if_pos (by simp [keepB, hf]), List.length_append, ← HM.out]; rfl⟩, below_drewN hbr _⟩
            case measure => simp [intOf]; omega
          · have hty : t = -1 := by rw [htm, if_neg (by simp [keepB]; omega)]
            subst hty
            have hyn : (-1 == y) = false := by rw [beq_eq_false_iff_ne]; omega
            clear htm
            go_wp2
            go_quiet ((go_at_call 45; exact Calls.quiet_of_same ((timeOf_c _ R x _ (rd_drewN (Rd.of_own HOr.out) _)).mono fun _ _ ⟨a, b⟩ => ⟨by rw [a, HTM.out], b.symm⟩)))
            go_wp2
            go_roundw
            case rel => exact ⟨k + 1, by omega, by go_num, ⟨m, rfl, by omega, by rw [HS.out, sw_snoc, if_neg (by simp [keepB]; omega), List.append_nil, ← HM.out]; rfl⟩, below_drewN hbr _⟩
            case measure => simp [intOf]; omega
        · obtain rfl : k = ps.length := by omega
          have hmR : m = R.length := by rw [HM.out, HD.out.2.1, List.take_of_length_le (Nat.le_refl _)]
          subst hmR
          clear hv3
          go_wp2
          go_ret
          exact ⟨rfl, T5.trans (hbr.mono T5.size)⟩
    · have HN := Lib.hid hd
      clear hd
      by_cases hdv : DV ps
      · have HD := Lib.hid (dvB_true hdv)
        have hnn : now < 0 ∨ 999 < now := by
          have : ¬ (0 ≤ now ∧ now ≤ 999) := fun h => HN.out ⟨hdv, h⟩
          omega
        clear hdv
        rw [HD.out]
        rcases hnn with h0 | h9
        · go_wp2_with fail
          refine (sameListed_c _ _ R _ (Rd.of_own HO5.out) (Rd.of_own HW5.out)).mono ?_
          rintro e w6 ⟨rfl, hb6⟩
          have T6 := T5.trans (hb6.mono T5.size)
          go_wp2
          go_ret
          exact ⟨rfl, T6⟩
        · have h9' : ¬ now < 0 := by omega
          go_wp2_with fail
          refine (sameListed_c _ _ R _ (Rd.of_own HO5.out) (Rd.of_own HW5.out)).mono ?_
          rintro e w6 ⟨rfl, hb6⟩
          have T6 := T5.trans (hb6.mono T5.size)
          go_wp2
          go_ret
          exact ⟨rfl, T6⟩
      · have HD := Lib.hid (dvB_false hdv)
        clear hdv
        rw [HD.out]
        go_wp2_with fail
        refine (sameListed_c _ _ R _ (Rd.of_own HO5.out) (Rd.of_own HW5.out)).mono ?_
        rintro e w6 ⟨rfl, hb6⟩
        have T6 := T5.trans (hb6.mono T5.size)
        go_wp2
        go_ret
        exact ⟨rfl, T6⟩
end Go.Proofs.Ytgicdfpcegaooaa
