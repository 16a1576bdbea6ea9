/- Contract of DrawViewGet: it gives some view and some key. -/
import Derived.Test.YtgicdfpcegaooaaRd
namespace Go.Proofs.Ytgicdfpcegaooaa
open Go.RowKit
theorem info_pair : (Try.prog.info? 29).map (fun i => (i.zero, i.size, i.bytes)) = some (some zero2, 2, 16) := by kernel_rfl
def DrawVPost (w : World) (e : Ending) (w' : World) : Prop :=
  ∃ (v : Value) (ps : List P2) (key : Int), e = .returned (.tuple #[v, .int .i64 key]) ∧ ps.length ≤ 11 ∧ Rd 2 w' v ps.length (enc2 ps) ∧ Below w.heap.size w w'
set_option maxHeartbeats 800000 in
theorem drawView_c (v : Value) (n : Nat) (w : World) (h : RdB w v n) : Calls Try.prog 22 #[v] w (DrawVPost w) := by
  go_enter Try.func22, Try.ntmps22
  go_wp2_with fail
  refine (l6Open_c _ n _ h).mono ?_
  rintro e w1 ⟨r, rfl, hr, hR, hb1⟩
  clear h
  go_wp2
  have hs0 := hb1.size
  have hown0 := own_empty w1 w1.heap.size 29 2 (Nat.le_refl _)
  have hR0 := hR.kept (World.grownBy_alloc w1 (.cells #[] 29) none) (fun k hk => by cases hk)
  have hb0 := hb1.alloc hs0 (.cells #[] 29)
  obtain ⟨B, hB⟩ : ∃ B, B = w1.heap.size := ⟨_, rfl⟩
  rw [← hB] at hown0 hR0
  go_loopw [5, 6] (fun o i wr => ∃ (k : Nat) (ps : List P2), k ≤ 10 ∧ i = .int .i64 k ∧ ps.length ≤ k ∧ wr.ownsRow B 29 2 o ps.length (enc2 ps) ∧ Reader B wr r (2 * k) ∧ Below w.heap.size w wr ∧ B ≤ wr.heap.size) (fun _ i _ => 10 - (intOf i).toNat)
  case atStart => exact ⟨0, [], by omega, rfl, Nat.le_refl _, by rw [hB]; rw [hB] at hown0; exact hown0, hR0, hb0, by rw [hB]; simp⟩
  case round =>
    have hBw : w.heap.size ≤ B := by rw [hB]; exact hs0
    have HB := Lib.hid hB
    clear hown0 hR0 hb0 hR hb1 hs0 hB
    obtain ⟨k, ps, hk, rfl, hl, hown, hR, hb, hBr⟩ := hrel
    by_cases hlt : k < 10
    · go_wp2_with fail
      refine (pick_c B r _ 2 _ hR (by omega)).mono ?_
      rintro e w2 ⟨m, rfl, hm0, hm1, hR2, hg2⟩
      have hb2 := below_r hb hg2 hr
      have hown2 := own_kept_r hown hg2 hR.1
      have hBr2 := Nat.le_trans hBr hg2.size
      clear hR hown hb hg2 hBr
      by_cases hm : m = 0
      · subst hm
        go_wp2_with fail
        refine (pick_c B r _ 100 _ hR2 (by omega)).mono ?_
        rintro e w3 ⟨m, rfl, hm0, hm1, hR3, hg3⟩
        have hb3 := below_r hb2 hg3 hr
        have hown3 := own_kept_r hown2 hg3 hR2.1
        have hBr3 := Nat.le_trans hBr2 hg3.size
        clear hR2 hown2 hb2 hg3 hBr2
        go_wp2_with (at_builtin; refine wpList_app2 _ rfl _ _ 23 rfl B 29 Try.underlying23 info_pair _ ps rfl hown3 _ _ _ _ rfl (by omega) hBr3 ?_)
        intro v' w4 qs hqs hql hown4 hg4
        have hb4 := below_own hb3 hBw hown3 hg4
        have hR4 := hR3.own hown3 hg4
        have hBr4 := Nat.le_trans hBr3 hg4.size
        clear hR3 hown3 hb3 hg4 hBr3
        go_wp2
        go_roundw
        case rel => exact ⟨k + 1, qs, by omega, by go_num, by omega, hown4, hR4.le (by omega), hb4, hBr4⟩
        case measure => simp [intOf]; omega
      · go_wp2
        go_roundw
        case rel => exact ⟨k + 1, _, by omega, by go_num, by omega, hown2, hR2.le (by omega), hb2, hBr2⟩
        case measure => simp [intOf]; omega
    · go_wp2_with fail
      refine (pick_c B r _ 16 _ hR (by omega)).mono ?_
      rintro e w2 ⟨m, rfl, hm0, hm1, hR2, hg2⟩
      have hb2 := below_r hb hg2 hr
      have hown2 := own_kept_r hown hg2 hR.1
      have hBr2 := Nat.le_trans hBr hg2.size
      clear hR hown hb hg2 hBr
      by_cases hm : m = 0
      · subst hm
        go_wp2_with fail
        refine (pick_c B r _ 10 _ hR2 (by omega)).mono ?_
        rintro e w3 ⟨m, rfl, hm0, hm1, hR3, hg3⟩
        have hb3 := below_r hb2 hg3 hr
        have hown3 := own_kept_r hown2 hg3 hR2.1
        have hBr3 := Nat.le_trans hBr2 hg3.size
        clear hR2 hown2 hb2 hg3 hBr2
        go_wp2_with (at_builtin; refine wpList_app2 _ rfl _ _ 23 rfl B 29 Try.underlying23 info_pair _ ps rfl hown3 _ _ _ _ rfl (by omega) hBr3 ?_)
        intro v' w4 qs hqs hql hown4 hg4
        have hb4 := below_own hb3 hBw hown3 hg4
        have hR4 := hR3.own hown3 hg4
        clear hR3 hown3 hb3 hg4 hBr3
        go_wp2_with fail
        refine (pick_c B r _ 10 _ hR4 (by omega)).mono ?_
        rintro e w5 ⟨m, rfl, hm0, hm1, hR5, hg5⟩
        have hown5 := own_kept_r hown4 hg5 hR4.1
        have hb5 := below_r hb4 hg5 hr
        clear hR4 hown4 hb4 hg5
        go_wp2
        go_ret2
        exact ⟨_, qs, _, rfl, by omega, Rd.of_own hown5, hb5⟩
      · go_wp2_with fail
        refine (pick_c B r _ 10 _ hR2 (by omega)).mono ?_
        rintro e w5 ⟨m, rfl, hm0, hm1, hR5, hg5⟩
        have hown5 := own_kept_r hown2 hg5 hR2.1
        have hb5 := below_r hb2 hg5 hr
        clear hR2 hown2 hb2 hg5
        go_wp2
        go_ret2
        exact ⟨_, _, _, rfl, by omega, Rd.of_own hown5, hb5⟩
end Go.Proofs.Ytgicdfpcegaooaa
