/- The walks of the laws FnViewGet and FnViewGetNone. -/
import Derived.Test.YtgicdfpcegaooaaDrawV
import Derived.Test.YtgicdfpcegaooaaView
namespace Go.Proofs.Ytgicdfpcegaooaa
open Go.RowKit
theorem vg_found {key : Int} {ps : List P2} (h : (vg key ps).2 = true) : asc ps ∧ ∃ i, i < ps.length ∧ (ps.getD i (0, 0)).1 = key ∧ (vg key ps).1 = (ps.getD i (0, 0)).2 ∧ ∀ j, j < ps.length → j ≠ i → (ps.getD j (0, 0)).1 ≠ key := by
  by_cases ha : asc ps
  · refine ⟨ha, ?_⟩
    rw [show vg key ps = vgFold key ps from by unfold vg; rw [if_pos ha]] at *
    by_cases he : ∃ i, i < ps.length ∧ (ps.getD i (0, 0)).1 = key
    · obtain ⟨i, hi, hk⟩ := he
      refine ⟨i, hi, hk, by rw [vgFold_at ha i hi hk], fun j hj hne => ?_⟩
      rcases Nat.lt_or_gt_of_ne hne with hlt | hgt
      · have := asc_lt ha j i hlt hi; omega
      · have := asc_lt ha i j hgt hj; omega
    · rw [vgFold_none (fun i hi hk => he ⟨i, hi, hk⟩)] at h
      cases h
  · unfold vg at h; rw [if_neg ha] at h; cases h
set_option maxHeartbeats 800000 in
theorem lawFnViewGet_c (v : Value) (n : Nat) (w : World) (h : RdB w v n) : Calls Try.prog 3 #[v] w fun e w' => e = .returned (.bool true) ∧ Below w.heap.size w w' := by
  have hB := h
  obtain ⟨a, cap, rfl, h1, h2, -⟩ := h
  unfold maxLen at h2
  by_cases hn : 1048576 < n
  · go_enter Try.func3, Try.ntmps3
    go_wp2
    go_ret
    exact ⟨rfl, Below.refl _ _⟩
  · go_enter Try.func3, Try.ntmps3
    go_wp2_with fail
    refine (drawView_c _ n _ hB).mono ?_
    rintro e w1 ⟨v, ps, key, rfl, hl, hv, hb1⟩
    go_wp2_with fail
    refine (viewGet_c _ ps key _ hv).mono ?_
    rintro e w2 ⟨rfl, hb2⟩
    have hv2 := hv.below hb2
    have hb2' := hb1.trans (hb2.mono hb1.size)
    clear hv hb1 hb2
    go_wp2_with fail
    refine (specViewGet_c _ ps key _ hv2).mono ?_
    rintro e w3 ⟨rfl, hb3⟩
    have hv3 := hv2.below hb3
    have hb3' := hb2'.trans (hb3.mono hb2'.size)
    clear hv2 hb2' hb3
    obtain ⟨x, f, hx⟩ : ∃ x f, vg key ps = (x, f) := ⟨_, _, rfl⟩
    rw [hx]
    cases f with
    | false =>
      have HX := Lib.hid hx
      clear hx hv3
      go_wp2
      go_ret
      exact ⟨rfl, hb3'⟩
    | true =>
      obtain ⟨ha, i0, hi0, hk0, hv0, hne⟩ := vg_found (by rw [hx])
      rw [hx] at hv0
      have HN := Lib.hid (And.intro hk0 (And.intro hv0 hne))
      clear hx hk0 hv0 hne ha
      obtain ⟨-, a1, c1, rfl, h11, m1, k1⟩ := hv3
      unfold maxLen at m1
      go_wp2
      go_loop [9, 10] (fun m i => ∃ k : Nat, k ≤ ps.length ∧ i = .int .i64 k ∧ m = .int .i64 (if i0 < k then 1 else 0)) (fun _ i => ps.length - (intOf i).toNat)
      case atStart => exact ⟨0, Nat.zero_le _, rfl, by simp⟩
      case round =>
        obtain ⟨k, hk, rfl, rfl⟩ := hrel
        by_cases hlt : k < ps.length
        · obtain ⟨b1, o1, rfl, g1⟩ := k1 (by omega)
          obtain ⟨y, z, e1, u1, u2⟩ := at2 (Below.refl _ _) g1 k hlt
          by_cases hki : k = i0
          · subst hki
            obtain ⟨rfl, rfl⟩ : y = key ∧ x = z := by
              have := HN.out; rw [e1] at this; exact ⟨this.1, this.2.1⟩
            clear e1 k1 g1
            rw [if_neg (Nat.lt_irrefl _)]
            go_wp2
            go_round
            case rel => exact ⟨k + 1, by omega, by go_num, by rw [if_pos (by omega)]⟩
            case measure => simp [intOf]; omega
          · have hyk : (y == key) = false := by
              have := HN.out.2.2 k hlt hki; rw [e1] at this; simpa using this
            obtain ⟨m, hm⟩ : ∃ m : Int, (if i0 < k then 1 else 0) = m := ⟨_, rfl⟩
            have HM := Lib.hid hm
            rw [hm]
            clear e1 k1 g1 hm
            go_wp2
            go_round
            case rel => exact ⟨k + 1, by omega, by go_num, by rw [← HM.out]; congr 1; by_cases h : i0 < k; (rw [if_pos h, if_pos (by omega)]); (rw [if_neg h, if_neg (by omega)])⟩
            case measure => simp [intOf]; omega
        · obtain rfl : k = ps.length := by omega
          rw [if_pos hi0]
          clear k1
          go_wp2
          go_ret
          exact ⟨rfl, hb3'⟩
theorem vg_less {key : Int} {ps : List P2} (h : ∀ i, i < ps.length → (ps.getD i (0, 0)).1 ≠ key) : vg key ps = (0, false) := by
  unfold vg
  split
  · exact vgFold_none h
  · rfl
set_option maxHeartbeats 800000 in
theorem lawFnViewGetNone_c (v : Value) (n : Nat) (w : World) (h : RdB w v n) : Calls Try.prog 4 #[v] w fun e w' => e = .returned (.bool true) ∧ Below w.heap.size w w' := by
  have hB := h
  obtain ⟨a, cap, rfl, h1, h2, -⟩ := h
  unfold maxLen at h2
  by_cases hn : 1048576 < n
  · go_enter Try.func4, Try.ntmps4
    go_wp2
    go_ret
    exact ⟨rfl, Below.refl _ _⟩
  · go_enter Try.func4, Try.ntmps4
    go_wp2_with fail
    refine (drawView_c _ n _ hB).mono ?_
    rintro e w1 ⟨v, ps, key, rfl, hl, hv, hb1⟩
    go_wp2_with fail
    refine (viewGet_c _ ps key _ hv).mono ?_
    rintro e w2 ⟨rfl, hb2⟩
    have hv2 := hv.below hb2
    have hb2' := hb1.trans (hb2.mono hb1.size)
    clear hv hb1 hb2
    go_wp2_with fail
    refine (specViewGet_c _ ps key _ hv2).mono ?_
    rintro e w3 ⟨rfl, hb3⟩
    have hv3 := hv2.below hb3
    have hb3' := hb2'.trans (hb3.mono hb2'.size)
    clear hv2 hb2' hb3
    obtain ⟨x, f, hx⟩ : ∃ x f, vg key ps = (x, f) := ⟨_, _, rfl⟩
    rw [hx]
    cases f with
    | false =>
      have HX := Lib.hid hx
      clear hx hv3
      go_wp2
      go_ret
      exact ⟨rfl, hb3'⟩
    | true =>
      obtain ⟨ha, i0, hi0, hk0, hv0, hne⟩ := vg_found (by rw [hx])
      have HN := Lib.hid (And.intro hk0 hne)
      clear hx hk0 hv0 hne ha
      obtain ⟨-, a1, c1, rfl, h11, m1, k1⟩ := hv3
      unfold maxLen at m1
      have hs3 := hb3'.size
      go_wp2
      have hown0 := own_empty w3 w3.heap.size 29 2 (Nat.le_refl _)
      go_loopw [9, 10] (fun o i wr => ∃ (k : Nat) (qs : List P2), k ≤ ps.length ∧ i = .int .i64 k ∧ qs.length ≤ 11 ∧ wr.ownsRow w3.heap.size 29 2 o qs.length (enc2 qs) ∧ Below w3.heap.size w3 wr ∧ Hid (qs.length = (if i0 < k then k - 1 else k) ∧ ∀ j, j < qs.length → (qs.getD j (0, 0)).1 ≠ key)) (fun _ i _ => ps.length - (intOf i).toNat)
      case atStart => exact ⟨0, [], Nat.zero_le _, rfl, by simp, hown0, (Below.refl _ _).alloc (Nat.le_refl _) _, by simp, fun j hj => by simp at hj⟩
      case round =>
        clear hown0
        obtain ⟨k, qs, hk, rfl, hq, hown, hb, HQ⟩ := hrel
        have hsz := hb.size
        by_cases hlt : k < ps.length
        · obtain ⟨b1, o1, rfl, g1⟩ := k1 (by omega)
          obtain ⟨y, z, e1, u1, u2⟩ := at2 hb g1 k hlt
          by_cases hki : k = i0
          · subst hki
            obtain rfl : y = key := by
              have := HN.out; rw [e1] at this; exact this.1
            clear e1 k1 g1
            go_wp2
            go_roundw
            case rel =>
              refine ⟨k + 1, qs, by omega, by go_num, hq, hown, hb, ?_, HQ.out.2⟩
              rw [HQ.out.1, if_neg (Nat.lt_irrefl _), if_pos (by omega)]; rfl
            case measure => simp [intOf]; omega
          · have hyk : (y == key) = false := by
              have := HN.out.2 k hlt hki; rw [e1] at this; simpa using this
            have hql : qs.length ≤ k := by rw [HQ.out.1]; split <;> omega
            clear e1 k1 g1
            go_wp2_with (at_builtin; refine wpList_app2 _ rfl _ _ 23 rfl w3.heap.size 29 Try.underlying23 info_pair _ qs rfl hown _ _ _ _ rfl (by omega) hsz ?_)
            intro v' w4 rs hrs hrl hown4 hg4
            have hb4 := hb.grown hg4 hsz (fun k hk => (hown.lt k hk).1)
            clear hown hb hg4
            go_wp2
            go_roundw
            case rel =>
              refine ⟨k + 1, rs, by omega, by go_num, by omega, hown4, hb4, ?_, ?_⟩
              · rw [hrs.out, List.length_append, HQ.out.1, List.length_singleton]
                by_cases h : i0 < k
                · rw [if_pos h, if_pos (by omega)]; omega
                · rw [if_neg h, if_neg (by omega)]
              · intro j hj
                rw [hrs.out] at hj ⊢
                rw [List.length_append, List.length_singleton] at hj
                rw [List.getD_eq_getElem?_getD]
                by_cases hjq : j < qs.length
                · rw [List.getElem?_append_left hjq, ← List.getD_eq_getElem?_getD]; exact HQ.out.2 j hjq
                · obtain rfl : j = qs.length := by omega
                  simpa using hyk
            case measure => simp [intOf]; omega
        · obtain rfl : k = ps.length := by omega
          clear k1
          have hlen : qs.length = ps.length - 1 := by rw [HQ.out.1, if_pos hi0]
          have hvl := vg_less HQ.out.2
          have HL := Lib.hid (And.intro hlen hvl)
          clear hlen hvl
          go_wp2_with fail
          refine (viewGet_c _ qs key _ (Rd.of_own hown)).mono ?_
          rintro e w4 ⟨rfl, hb4⟩
          rw [HL.out.2]
          have hb4' := hb3'.trans ((hb.mono hs3).trans (hb4.mono (by omega)))
          obtain ⟨a2, c2, rfl⟩ := own_slice hown
          have hpos : 1 ≤ ps.length := by omega
          have hcmp : ((qs.length : Int) == (ps.length : Int) - 1) = true := by rw [beq_iff_eq, HL.out.1]; omega
          clear hown hb hb4 HN HQ
          go_wp2
          go_ret
          exact ⟨rfl, hb4'⟩
end Go.Proofs.Ytgicdfpcegaooaa
