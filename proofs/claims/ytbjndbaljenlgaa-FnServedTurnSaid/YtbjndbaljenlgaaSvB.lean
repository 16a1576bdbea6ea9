/- Walks: the program's ChokeTurn and ChokeServed. -/
import Derived.Test.YtbjndbaljenlgaaSvA
namespace Go.Proofs.Ytbjndbaljenlgaa
open Go.RowKit
set_option linter.unusedSimpArgs false
def OkS (G : List Int) (t : Int) : Prop := OkV G ∧ 0 ≤ t ∧ t ≤ 999
theorem bst_len (G : List Int) : (bst G).length ≤ G.length := by
  unfold bst
  exact Nat.le_trans (List.length_filter_le _ _) (by simp)
theorem rst_len (G : List Int) : (rst G).length ≤ G.length := by
  unfold rst
  exact Nat.le_trans (List.length_filter_le _ _) (by simp)
theorem srv_len (G : List Int) (t : Int) : (srv G t).length ≤ G.length := by
  unfold srv
  exact Nat.le_trans (List.length_filter_le _ _) (by simp)
theorem served_plain {G L : List Int} {t : Int} (hp : L.Perm (castL (bst G) ++ [tn G t])) (hs : L.Pairwise (· ≤ ·)) (h : (rst G).length ≠ 0) : L = castL (srv G t) := by
  obtain ⟨k, hk, ht⟩ := tn_mem (t := t) h
  rw [ht] at hp
  have e : castL (bst G) ++ [(k : Int)] = castL (bst G ++ [k]) := by simp [castL]
  rw [e] at hp
  obtain ⟨A, rfl⟩ := nats_of (L := L) (fun x hx => by
    obtain ⟨k, -, rfl⟩ := List.mem_map.1 (hp.mem_iff.1 hx)
    omega)
  have hs' : A.Pairwise (· ≤ ·) := (pw_cast hs).imp fun h => by omega
  exact congrArg castL (srv_sorted hs' (perm_cast hp) hk ht)
theorem served_plain0 {G L : List Int} {t : Int} (hp : L.Perm (castL (bst G))) (hs : L.Pairwise (· ≤ ·)) (h : (rst G).length = 0) : L = castL (srv G t) := by
  rw [srv_none h]
  obtain ⟨A, rfl⟩ := nats_of (L := L) (fun x hx => by
    obtain ⟨k, -, rfl⟩ := List.mem_map.1 (hp.mem_iff.1 hx)
    omega)
  have hs' : A.Pairwise (· ≤ ·) := (pw_cast hs).imp fun h => by omega
  have hb : (bst G).Pairwise (· ≤ ·) := (filter_asc _ _).imp fun h => by omega
  exact congrArg castL (List.Perm.eq_of_pairwise (fun x y _ _ h1 h2 => by omega) hs' hb (perm_cast hp))
def TurnP (G : List Int) (t : Int) (w : World) (e : Ending) (w' : World) : Prop := ∃ r, e = .returned (.int .i64 r) ∧ (OkS G t → r = tn G t) ∧ (¬ OkS G t → r = -1) ∧ Below w.heap.size w w'
set_option maxHeartbeats 800000 in
theorem chokeTurn_c {S : Nat → Prop} (v : Value) (G : List Int) (t : Int) (w : World) (h : RdS S 1 w v G.length (enc1 G)) (hn : G.length ≤ 1000) : Calls Try.prog 29 #[v, .int .i64 t] w (TurnP G t w) := by
  have GVc := Lib.hid (givenValid_c v G w h.rd hn)
  have RK := Lib.hid (fun hG : OkV G => ranked_c v G w h hG)
  have HP := Lib.hid (show ∀ e w' r, e = .returned (.int .i64 r) → (OkS G t → r = tn G t) → (¬ OkS G t → r = -1) → Below w.heap.size w w' → TurnP G t w e w' from fun _ _ r h1 h2 h3 h4 => ⟨r, h1, h2, h3, h4⟩)
  obtain ⟨a, c, rfl, h1, h2⟩ := h.shape
  unfold maxLen at h2
  clear h
  by_cases hG : OkV G
  · rw [okB_t hG] at GVc
    go_enter Try.func29, Try.ntmps29
    go_wp2_with fail
    refine (GVc.out).mono ?_
    rintro e w' ⟨rfl, rfl⟩
    by_cases ht : 0 ≤ t ∧ t ≤ 999
    · go_wp2_with fail
      refine (within_c t 0 999 _).mono ?_
      rintro e w' ⟨rfl, rfl⟩
      rw [inB_t ht.1 ht.2]
      go_wp2_with fail
      refine (RK.out hG).mono ?_
      rintro e w1 ⟨u, v', rfl, o1, o2, hb1⟩
      have HT := Lib.hid (show tn G t = if (rst G).length = 0 then -1 else (((rst G).getD (t.toNat % (rst G).length) 0 : Nat) : Int) from rfl)
      have h6 := hG.1
      have hrl := rst_len G
      have HY := Lib.hid (show OkS G t from ⟨hG, ht⟩)
      have HB := Lib.hid hb1
      obtain ⟨N, hN⟩ : ∃ N, rst G = N := ⟨_, rfl⟩
      rw [hN] at o2 HT hrl
      by_cases h0 : N.length = 0
      · obtain ⟨a2, c2, rfl⟩ : ∃ a c, v' = .slice a 0 c := by have := own_slice o2; rwa [h0] at this
        rw [if_pos h0] at HT
        clear o1 o2 hb1 hN h0
        go_wp2
        go_ret
        exact HP.out _ _ (-1) rfl (fun _ => HT.out.symm) (fun _ => rfl) HB.out
      · obtain ⟨g, c2, rfl, hg1, hg2, hg3, hg4⟩ : ∃ g cap, v' = .slice (some ⟨g, 0, none⟩) N.length cap ∧ w.heap.size ≤ g ∧ g < w1.heap.size ∧ N.length ≤ cap ∧ cap ≤ maxLen := by
          rcases own_cases o2 with ⟨-, h0', -⟩ | h'
          · omega
          · exact h'
        unfold maxLen at hg4
        rw [if_neg h0] at HT
        have htn : (t.toNat : Int) = t := Int.toNat_of_nonneg ht.1
        have hk1 : t.tmod (N.length : Int) = ((t.toNat % N.length : Nat) : Int) := by rw [Int.tmod_eq_emod_of_nonneg ht.1, Int.natCast_emod, htn]
        have hk2 : t.toNat % N.length < N.length := Nat.mod_lt _ (by omega)
        obtain ⟨k, hk3⟩ : ∃ k, t.toNat % N.length = k := ⟨_, rfl⟩
        rw [hk3] at hk1 hk2
        clear htn
        have hk4 : (k : Int) < (N.length : Int) := by omega
        have hn0 : ¬ (N.length : Int) = 0 := by omega
        have s1 := o2.cellAt k (by omega)
        rw [enc1_at (castL N) k 0 (by rw [castL_len]; exact hk2), castL_at N k hk2] at s1
        rw [hk3] at HT
        obtain ⟨z, hz⟩ : ∃ z : Nat, N.getD k 0 = z := ⟨_, rfl⟩
        rw [hz] at s1 HT
        have hkw : IntKind.i64.wrap (k : Int) = (k : Int) := IntWalk.i64_in _ (by omega)
        clear o1 o2 hb1 hN hk3 hz
        go_wp2
        go_ret
        exact HP.out _ _ (z : Int) rfl (fun _ => HT.out.symm) (fun hh => absurd HY.out hh) HB.out
    · have NO := Lib.hid (show ¬ OkS G t from fun h => ht h.2)
      go_wp2_with fail
      refine (within_c t 0 999 _).mono ?_
      rintro e w' ⟨rfl, rfl⟩
      rw [inB_f ht]
      clear ht
      go_wp2
      go_ret
      exact HP.out _ _ (-1) rfl (fun h => absurd h NO.out) (fun _ => rfl) (Below.refl _ _)
  · have NO := Lib.hid (show ¬ OkS G t from fun h => hG h.1)
    rw [okB_f hG] at GVc
    clear hG
    go_enter Try.func29, Try.ntmps29
    go_wp2_with fail
    refine (GVc.out).mono ?_
    rintro e w' ⟨rfl, rfl⟩
    go_wp2
    go_ret
    exact HP.out _ _ (-1) rfl (fun h => absurd h NO.out) (fun _ => rfl) (Below.refl _ _)
/-- who is served, in memory of the call's own -/
def ServP (G : List Int) (t : Int) (w : World) (e : Ending) (w' : World) : Prop := ∃ u N, e = .returned u ∧ w'.ownsRow w.heap.size 3 1 u N.length (enc1 (castL N)) ∧ (OkS G t → N = srv G t) ∧ (¬ OkS G t → N = []) ∧ Below w.heap.size w w'
theorem own_nilI (w : World) (base e sz : Nat) : w.ownsRow base e sz (.slice none 0 0) 0 [] := ⟨by simp, .inl ⟨rfl, rfl⟩⟩
theorem tn_neg {G : List Int} {t : Int} (h : (rst G).length = 0) : tn G t = -1 := by unfold tn; rw [if_pos h]
theorem tn_nn {G : List Int} {t : Int} (h : (rst G).length ≠ 0) : 0 ≤ tn G t := by unfold tn; rw [if_neg h]; omega
set_option maxHeartbeats 800000 in
theorem chokeServed_c {S : Nat → Prop} (v : Value) (G : List Int) (t : Int) (w : World) (h : RdS S 1 w v G.length (enc1 G)) (hn : G.length ≤ 1000) : Calls Try.prog 25 #[v, .int .i64 t] w (ServP G t w) := by
  have GVc := Lib.hid (givenValid_c v G w h.rd hn)
  have RK := Lib.hid (fun hG : OkV G => ranked_c v G w h hG)
  have TC := Lib.hid (fun W (hW : Below w.heap.size w W) => chokeTurn_c v G t W (h.below hW) hn)
  have HP := Lib.hid (show ∀ e w' u N, e = .returned u → w'.ownsRow w.heap.size 3 1 u N.length (enc1 (castL N)) → (OkS G t → N = srv G t) → (¬ OkS G t → N = []) → Below w.heap.size w w' → ServP G t w e w' from fun _ _ u N h1 h2 h3 h4 h5 => ⟨u, N, h1, h2, h3, h4, h5⟩)
  obtain ⟨a, c, rfl, h1, h2⟩ := h.shape
  unfold maxLen at h2
  clear h
  by_cases hG : OkV G
  · rw [okB_t hG] at GVc
    go_enter Try.func25, Try.ntmps25
    go_wp2_with fail
    refine (GVc.out).mono ?_
    rintro e w' ⟨rfl, rfl⟩
    by_cases ht : 0 ≤ t ∧ t ≤ 999
    · go_wp2_with fail
      refine (within_c t 0 999 _).mono ?_
      rintro e w' ⟨rfl, rfl⟩
      rw [inB_t ht.1 ht.2]
      go_wp2_with fail
      refine (RK.out hG).mono ?_
      rintro e w1 ⟨u, v', rfl, o1, o2, hb1⟩
      have HY := Lib.hid (show OkS G t from ⟨hG, ht⟩)
      have HB := Lib.hid hb1
      have O1 := Lib.hid o1
      obtain ⟨a2, c2, rfl⟩ := own_slice o2
      obtain ⟨a1, c1, rfl⟩ := own_slice o1
      have h6 := hG.1
      have hbl := bst_len G
      clear o1 o2 hb1
      go_wp2_with fail
      refine (TC.out _ HB.out).mono ?_
      rintro e w2 ⟨r, rfl, hr1, -, hb2⟩
      have hr := hr1 HY.out
      have O2 := Lib.hid (own_below O1.out hb2)
      have HB2 := Lib.hid (HB.out.trans (hb2.mono HB.out.size))
      clear hr1 hb2 O1 HB
      by_cases h0 : (rst G).length = 0
      · have hr2 : r = -1 := by rw [hr, tn_neg h0]
        subst hr2
        have SC := Lib.hid (sort_c w.heap.size (.slice a1 (bst G).length c1) (castL (bst G)) w2 (by rw [castL_len]; exact O2.out) (by rw [castL_len]; omega))
        have H0 := Lib.hid h0
        clear h0 hr
        go_wp2_with fail
        refine (SC.out).mono ?_
        rintro e w3 ⟨L, rfl, o3, hp, hs, hg3⟩
        have e3 := served_plain0 (t := t) hp hs H0.out
        subst e3
        have hlen : (castL (bst G)).length = (srv G t).length := by have := hp.length_eq; rw [castL_len] at this; exact this.symm
        rw [hlen] at o3
        have O3 := Lib.hid o3
        have HB3 := Lib.hid (HB2.out.grown hg3 HB2.out.size (fun j hj => (own_block O2.out j hj).1))
        clear hp hs hg3 o3 hlen
        go_wp2
        go_ret
        exact HP.out _ _ _ (srv G t) rfl O3.out (fun _ => rfl) (fun hh => absurd HY.out hh) HB3.out
      · have hr2 : 0 ≤ r := by rw [hr]; exact tn_nn h0
        have H0 := Lib.hid h0
        have HR := Lib.hid hr
        have HS2 := Lib.hid HB2.out.size
        clear h0 hr
        go_wp2_with (at_builtin; refine wpList_app1 _ rfl _ _ 48 rfl w.heap.size 3 Try.underlying48 info_intI _ (castL (bst G)) rfl (by rw [castL_len]; exact O2.out) _ _ _ rfl (by rw [castL_len]; omega) HS2.out ?_)
        intro v3 w3 qs hqs hql o3 hg3
        have e3 := hqs.out
        subst e3
        have HB3 := Lib.hid (HB2.out.grown hg3 HB2.out.size (fun j hj => (own_block O2.out j hj).1))
        obtain ⟨L3, hL3⟩ : ∃ L3, castL (bst G) ++ [r] = L3 := ⟨_, rfl⟩
        rw [hL3] at o3
        have HL3 := Lib.hid hL3
        obtain ⟨M, hM⟩ : ∃ M, L3.length = M := ⟨_, rfl⟩
        rw [hM] at o3
        obtain ⟨a3, c3, rfl⟩ := own_slice o3
        have SC := Lib.hid (sort_c w.heap.size (.slice a3 M c3) L3 w3 (by rw [hM]; exact o3) (by rw [← hL3, List.length_append, castL_len, List.length_singleton]; omega))
        have HM := Lib.hid hM
        have O3 := Lib.hid o3
        clear hqs hg3 o3 hql hL3 hM
        go_wp2_with fail
        refine (SC.out).mono ?_
        rintro e w4 ⟨L, rfl, o4, hp, hs, hg4⟩
        have e4 := served_plain (t := t) (by rw [← HR.out, HL3.out]; exact hp) hs H0.out
        subst e4
        have HLE := Lib.hid (show M = (srv G t).length by have := hp.length_eq; rw [castL_len, HM.out] at this; exact this.symm)
        have HB4 := Lib.hid (HB3.out.grown hg4 HB3.out.size (fun j hj => (own_block O3.out j hj).1))
        have O4 := Lib.hid (show w4.ownsRow w.heap.size 3 1 (.slice a3 M c3) (srv G t).length (enc1 (castL (srv G t))) by rw [← HLE.out]; have := o4; rw [HM.out] at this; exact this)
        clear hp hs hg4 o4 O3 SC
        go_wp2
        go_ret
        exact HP.out _ _ _ (srv G t) rfl O4.out (fun _ => rfl) (fun hh => absurd HY.out hh) HB4.out
    · have NO := Lib.hid (show ¬ OkS G t from fun h => ht h.2)
      go_wp2_with fail
      refine (within_c t 0 999 _).mono ?_
      rintro e w' ⟨rfl, rfl⟩
      rw [inB_f ht]
      clear ht
      go_wp2
      go_ret
      exact HP.out _ _ _ [] rfl (own_nilI _ _ _ _) (fun h => absurd h NO.out) (fun _ => rfl) (Below.refl _ _)
  · have NO := Lib.hid (show ¬ OkS G t from fun h => hG h.1)
    rw [okB_f hG] at GVc
    clear hG
    go_enter Try.func25, Try.ntmps25
    go_wp2_with fail
    refine (GVc.out).mono ?_
    rintro e w' ⟨rfl, rfl⟩
    go_wp2
    go_ret
    exact HP.out _ _ _ [] rfl (own_nilI _ _ _ _) (fun h => absurd h NO.out) (fun _ => rfl) (Below.refl _ _)
end Go.Proofs.Ytbjndbaljenlgaa
