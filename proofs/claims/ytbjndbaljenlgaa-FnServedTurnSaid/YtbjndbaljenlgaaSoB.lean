/- Walks: the library's stable sort of few peers, by what they gave. -/
import Derived.Test.YtbjndbaljenlgaaSoA
namespace Go.Proofs.Ytbjndbaljenlgaa
open Go.RowKit
set_option linter.unusedSimpArgs false
def AH (G : List Int) (a b : Int) : Prop := 0 ≤ a ∧ 0 ≤ b ∧ ahd G a.toNat b.toNat
theorem gv_in {G : List Int} (hG : ∀ x ∈ G, 0 ≤ x ∧ x ≤ 99) {a : Nat} (ha : a < G.length) : 0 ≤ gv G (a : Int) ∧ gv G (a : Int) ≤ 99 := by
  unfold gv
  rw [Int.toNat_natCast, List.getD_eq_getElem?_getD, List.getElem?_eq_getElem ha]
  exact hG _ (List.getElem_mem ha)
theorem mem_upto {n : Nat} {x : Int} (h : x ∈ upto n) : ∃ m : Nat, x = (m : Int) ∧ m < n := by
  obtain ⟨m, hm, rfl⟩ := List.mem_map.1 h
  exact ⟨m, rfl, List.mem_range.1 hm⟩
theorem cmp1_c (gb : Nat) (va : Value) (G : List Int) (w : World) (hc : w.cell? ⟨gb, 0, none⟩ = some va) (hr : Rd 1 w va G.length (enc1 G)) (hG : ∀ x ∈ G, 0 ≤ x ∧ x ≤ 99) (a b : Nat) (ha : a < G.length) (hb : b < G.length) :
    Calls Try.prog 106 #[.int .i64 a, .int .i64 b, .pointer (some ⟨gb, 0, none⟩)] w fun e w' => e = .returned (.int .i64 (gv G b - gv G a)) ∧ Below w.heap.size w w' := by
  obtain ⟨-, aa, cap, rfl, h1, h2, h3⟩ := hr
  unfold maxLen at h2
  obtain ⟨bg, off, rfl, hcells⟩ := h3 (by omega)
  have c1 := hcells a _ (enc1_at G a 0 ha)
  have c2 := hcells b _ (enc1_at G b 0 hb)
  obtain ⟨x1, x2⟩ := gv_in hG ha
  obtain ⟨y1, y2⟩ := gv_in hG hb
  have e1 : G.getD a 0 = gv G a := by unfold gv; rw [Int.toNat_natCast]
  have e2 : G.getD b 0 = gv G b := by unfold gv; rw [Int.toNat_natCast]
  rw [e1] at c1
  rw [e2] at c2
  generalize gv G a = x at *
  generalize gv G b = y at *
  clear e1 e2 hcells h3 hG
  go_enter Try.func106, Try.ntmps106
  go_wp2
  go_quiet (fail)
  go_wp2
  go_ret
  exact ⟨rfl, by (repeat' (first | exact Below.refl _ _ | assumption | refine Below.drew ?_ | refine below_drewN ?_ _ | refine Below.alloc ?_ (by omega) _ | refine Below.alloc ?_ (by simp; omega) _ | refine Below.alloc ?_ (by simp) _ | refine Below.setCell ?_ (by omega) _ | refine Below.setCell ?_ (by simp; omega) _ | refine Below.setCell ?_ (by simp) _))⟩
set_option maxHeartbeats 1600000 in
theorem insCmp_c (base gb : Nat) (v va : Value) (G : List Int) (w : World) (hn : G.length ≤ 7) (h : w.ownsRow base 3 1 v (upto G.length).length (enc1 (upto G.length))) (hG : ∀ x ∈ G, 0 ≤ x ∧ x ≤ 99) (hgb : gb < base) (hc : w.cell? ⟨gb, 0, none⟩ = some va) (hr : RdS (fun k => k < base) 1 w va G.length (enc1 G)) :
    Calls Try.prog 144 #[v, .int .i64 0, .int .i64 G.length, .func (.func 106) #[] #[.pointer (some ⟨gb, 0, none⟩)]] w (SortP (AH G) base v (upto G.length) w) := by
  have CC := Lib.hid (fun (W : World) (hW : ∃ k, base ≤ k ∧ w.grownBy W (some k)) (a b : Nat) (ha : a < G.length) (hb : b < G.length) => cmp1_c gb va G W (by obtain ⟨k, hk, hg⟩ := hW; exact grown_cell hg hc (by simp; omega)) ((by obtain ⟨k, hk, hg⟩ := hW; exact hr.chg (Chg.of_grown hg) (fun i hi e => by cases e; have hi' : _ < base := hi; omega) : RdS (fun k => k < base) 1 W va G.length (enc1 G)).rd) hG a b ha hb)
  have GV := Lib.hid (fun (a : Nat) (ha : a < G.length) => gv_in hG ha)
  have CM := Lib.hid (cmp_ahd G)
  obtain ⟨L0, hL0⟩ : ∃ L0, upto G.length = L0 := ⟨_, rfl⟩
  have UP := Lib.hid (fun (x : Int) (hx : x ∈ L0) => mem_upto (show x ∈ upto G.length by rw [hL0]; exact hx))
  have hl0 : L0.length = G.length := by rw [← hL0, upto_len]
  rw [hL0] at h CM ⊢
  rw [← hl0] at hn UP GV CC ⊢
  clear hc hr hgb hL0 hl0 hG
  obtain ⟨n, hnn⟩ : ∃ n, L0.length = n := ⟨_, rfl⟩
  have HNN := Lib.hid hnn
  rw [hnn] at h hn ⊢
  by_cases h0 : n = 0
  · subst h0
    obtain ⟨a, c, rfl⟩ := own_slice h
    have HE : Hid (SortP (AH G) base (.slice a 0 c) L0 w (.returned (.tuple #[])) w) := Lib.hid ⟨L0, rfl, by rw [HNN.out]; exact h, List.Perm.refl _, by rw [List.eq_nil_of_length_eq_zero HNN.out]; exact List.Pairwise.nil, World.grownBy.refl _ _⟩
    clear h HNN hnn
    go_enter Try.func144, Try.ntmps144
    go_wp2
    go_loopw [8, 9] (fun i _ wr => i = .int .i64 1 ∧ w = wr) (fun _ _ _ => 0)
    case atStart => exact ⟨rfl, rfl⟩
    case round =>
      obtain ⟨rfl, rfl⟩ := hrel
      go_wp2
      go_end0
      exact HE.out
  · have hnn' : 1 ≤ n := by omega
    obtain ⟨g, cap, rfl, hb, hgl, hc1, hc2⟩ : ∃ g cap, v = .slice (some ⟨g, 0, none⟩) n cap ∧ base ≤ g ∧ g < w.heap.size ∧ n ≤ cap ∧ cap ≤ maxLen := by
      rcases own_cases h with ⟨-, h0', -⟩ | h'
      · omega
      · exact h'
    unfold maxLen at hc2
    have H := Lib.hid h
    clear h hnn h0
    go_enter Try.func144, Try.ntmps144
    go_wp2
    go_loopw [8, 9] (fun i _ wr => ∃ (k : Nat) (L : List Int), 1 ≤ k ∧ k ≤ n ∧ i = .int .i64 k ∧ Hid (wr.ownsRow base 3 1 (.slice (some ⟨g, 0, none⟩) n cap) n (enc1 L) ∧ Sorted (AH G) L0 L k ∧ w.grownBy wr (some g))) (fun i _ _ => n - (intOf i).toNat)
    case atStart => exact ⟨1, L0, Nat.le_refl _, hnn', rfl, Lib.hid ⟨H.out, (by have := Sorted.start (AH G) L0; rw [HNN.out, Nat.min_eq_left hnn'] at this; exact this), World.grownBy.refl _ _⟩⟩
    case round =>
      obtain ⟨k, L, hk1, hk, rfl, HI⟩ := hrel
      by_cases hlt : k < n
      · have HW := Lib.hid (And.intro HI.out.1 (And.intro (HI.out.2.1.way (by rw [HNN.out]; exact hlt)) HI.out.2.2))
        clear HI
        go_wp2
        go_loopw [9] (fun j wr' => ∃ (m : Nat) (L : List Int), m ≤ k ∧ j = .int .i64 m ∧ Hid (wr'.ownsRow base 3 1 (.slice (some ⟨g, 0, none⟩) n cap) n (enc1 L) ∧ Way (AH G) L0 L k m ∧ w.grownBy wr' (some g))) (fun j _ => (intOf j).toNat)
        case atStart => exact ⟨k, L, Nat.le_refl _, rfl, HW⟩
        case round =>
          obtain ⟨m, L, hm, rfl, HI⟩ := hrel
          by_cases hm0 : m = 0
          · subst hm0
            have hs := Lib.hid (And.intro HI.out.1 (And.intro (HI.out.2.1.stop (CM.out) (by rw [HNN.out]; exact hlt) (.inl rfl)) HI.out.2.2))
            clear HI
            go_wp2
            refine wp_region_sub (by kernel_rfl) (by kernel_rfl) ?_
            repeat (go_big_quiet_step (fail))
            refine wpQuiet_nil ?_
            rintro _ ⟨xs, rfl⟩
            have HI2 := Lib.hid (And.intro (own_below hs.out.1 xs.b) (And.intro hs.out.2.1 (grown_trans hs.out.2.2 (below_grown xs.b _))))
            clear hs
            go_wp2
            go_roundw
            case rel => exact ⟨k + 1, L, by omega, by omega, by go_num, HI2⟩
            case measure => simp [intOf]; omega
          · obtain ⟨m', hmm⟩ : ∃ m', m = m' + 1 := ⟨m - 1, by omega⟩
            have HM := Lib.hid hmm
            have hme : (m : Int) - 1 = (m' : Int) := by omega
            have hm0' : 0 < m := by omega
            have hmn : m < n := by omega
            have hm'n : m' < n := by omega
            have hmc : m < cap := by omega
            have hm'c : m' < cap := by omega
            have hLl : Hid (L.length = n) := Lib.hid (by rw [(HI.out.2.1.len (by rw [HNN.out]; exact hlt)).1, HNN.out])
            have s1 := HI.out.1.cellAt m (by omega)
            have s2 := HI.out.1.cellAt m' (by omega)
            rw [enc1_at L m 0 (by rw [hLl.out]; exact hmn)] at s1
            rw [enc1_at L m' 0 (by rw [hLl.out]; exact hm'n)] at s2
            obtain ⟨x, hx⟩ : ∃ x, L.getD m 0 = x := ⟨_, rfl⟩
            obtain ⟨y, hy⟩ : ∃ y, L.getD m' 0 = y := ⟨_, rfl⟩
            rw [hx] at s1
            rw [hy] at s2
            have HX := Lib.hid (And.intro hx hy)
            obtain ⟨p, hxp, hp⟩ := UP.out x (HI.out.2.1.mem (by rw [HNN.out]; exact hlt) x (by rw [← hx, List.getD_eq_getElem?_getD, List.getElem?_eq_getElem (by rw [hLl.out]; exact hmn)]; exact List.getElem_mem _))
            obtain ⟨q, hyq, hq⟩ := UP.out y (HI.out.2.1.mem (by rw [HNN.out]; exact hlt) y (by rw [← hy, List.getD_eq_getElem?_getD, List.getElem?_eq_getElem (by rw [hLl.out]; exact hm'n)]; exact List.getElem_mem _))
            subst hxp hyq
            have CP := Lib.hid (fun W hW => CC.out W hW p q hp hq)
            obtain ⟨gx1, gx2⟩ := GV.out p hp
            obtain ⟨gy1, gy2⟩ := GV.out q hq
            obtain ⟨gx, hgx⟩ : ∃ z, gv G (p : Int) = z := ⟨_, rfl⟩
            obtain ⟨gy, hgy⟩ : ∃ z, gv G (q : Int) = z := ⟨_, rfl⟩
            rw [hgx, hgy] at CP
            rw [hgx] at gx1 gx2
            rw [hgy] at gy1 gy2
            have HGV := Lib.hid (And.intro hgx hgy)
            clear hgx hgy hp hq
            clear hx hy hmm hm0
            by_cases hxy : gy - gx < 0
            · have LC := Lib.hid (fun (W : World) (hW : Below wr.heap.size wr W) => (show Calls Try.prog 106 #[.int .i64 p, .int .i64 q, .pointer (some ⟨gb, 0, none⟩)] W (fun e w' => e = .returned (.int .i64 (gy - gx)) ∧ Below W.heap.size W w') from CP.out W ⟨g, hb, grown_trans HI.out.2.2 (below_grown hW _)⟩))
              have HW2 := Lib.hid (HI.out.2.1)
              have z1 := fun (xx : Sub wr) => xx.cell s1
              have z2 := fun (xx : Sub wr) => xx.cell s2
              go_wp2
              refine wp_region_sub (by kernel_rfl) (by kernel_rfl) ?_
              repeat (go_big_quiet_step (with_reducible (exact Calls.sub (v := .int .i64 (gy - gx)) LC.out)))
              refine wpQuiet_nil ?_
              rintro _ ⟨xs, rfl⟩
              have HO := Lib.hid (own_below HI.out.1 xs.b)
              have HG := Lib.hid (grown_trans HI.out.2.2 (below_grown xs.b _))
              have s1 := z1 xs
              have s2 := z2 xs
              have f1 := HO.out.frozenAt m
              have f2 := HO.out.frozenAt m'
              clear z1 z2 HI LC
              go_wp2
              go_region
              go_wp2
              go_roundw
              case rel =>
                refine ⟨m', _, by have := HM.out; omega, by go_num, Lib.hid ⟨(swap_own HO.out).1, ?_, grown_todrew (grown_trans HG.out (swap_own (m := m) (m' := m') (x := p) (y := q) HO.out).2)⟩⟩
                have hsw := Way.swap (CM.out) (HM.out ▸ HW2.out) (by rw [HNN.out]; exact hlt) (by rw [← HM.out, HX.out.1, HX.out.2, HGV.out.1, HGV.out.2]; omega)
                rw [← HM.out, HX.out.1, HX.out.2] at hsw
                exact hsw
              case measure => have := HM.out; simp [intOf]; omega
            · have LC := Lib.hid (fun (W : World) (hW : Below wr.heap.size wr W) => (show Calls Try.prog 106 #[.int .i64 p, .int .i64 q, .pointer (some ⟨gb, 0, none⟩)] W (fun e w' => e = .returned (.int .i64 (gy - gx)) ∧ Below W.heap.size W w') from CP.out W ⟨g, hb, grown_trans HI.out.2.2 (below_grown hW _)⟩))
              have HS := Lib.hid (HI.out.2.1.stop (CM.out) (by rw [HNN.out]; exact hlt) (.inr (by have e : m - 1 = m' := (by have := HM.out; omega); rw [e, HX.out.1, HX.out.2, HGV.out.1, HGV.out.2]; omega)))
              have z1 := fun (xx : Sub wr) => xx.cell s1
              have z2 := fun (xx : Sub wr) => xx.cell s2
              go_wp2
              refine wp_region_sub (by kernel_rfl) (by kernel_rfl) ?_
              repeat (go_big_quiet_step (with_reducible (exact Calls.sub (v := .int .i64 (gy - gx)) LC.out)))
              refine wpQuiet_nil ?_
              rintro _ ⟨xs, rfl⟩
              have HI2 := Lib.hid (And.intro (own_below HI.out.1 xs.b) (And.intro HS.out (grown_trans HI.out.2.2 (below_grown xs.b _))))
              clear z1 z2 HI LC HS
              go_wp2
              go_roundw
              case rel => exact ⟨k + 1, L, by omega, by omega, by go_num, HI2⟩
              case measure => simp [intOf]; omega
      · obtain rfl : k = n := by omega
        go_wp2
        go_end0
        have hd := HI.out.2.1.done (by rw [HNN.out]; exact Nat.le_refl _)
        exact ⟨L, rfl, by rw [HNN.out]; exact HI.out.1, hd.1, hd.2, HI.out.2.2⟩
theorem stable_c (base gb : Nat) (v va : Value) (G : List Int) (w : World) (hn : G.length ≤ 7) (h : w.ownsRow base 3 1 v (upto G.length).length (enc1 (upto G.length))) (hG : ∀ x ∈ G, 0 ≤ x ∧ x ≤ 99) (hgb : gb < base) (hc : w.cell? ⟨gb, 0, none⟩ = some va) (hr : RdS (fun k => k < base) 1 w va G.length (enc1 G)) :
    Calls Try.prog 129 #[v, .int .i64 G.length, .func (.func 106) #[] #[.pointer (some ⟨gb, 0, none⟩)]] w (SortP (AH G) base v (upto G.length) w) := by
  have IC := Lib.hid (insCmp_c base gb v va G w hn h hG hgb hc hr)
  rw [upto_len] at h
  obtain ⟨a, c, rfl⟩ := own_slice h
  generalize hp : SortP (AH G) base (.slice a G.length c) (upto G.length) w = post at *
  have HP : Hid (∀ e w', post e w' → e = .returned (.tuple #[])) := Lib.hid (by subst hp; rintro e w' ⟨L', he, -⟩; exact he)
  clear h hr hG hc hgb
  generalize G.length = n at *
  clear hp
  have hn20 : (n : Int) < 20 := by omega
  go_enter Try.func129, Try.ntmps129
  go_wp2
  go_loopw [7, 8] (fun a b wr => a = .int .i64 0 ∧ b = .int .i64 20 ∧ w = wr) (fun _ _ _ => 0)
  case atStart => exact ⟨rfl, rfl, rfl⟩
  case round =>
    obtain ⟨rfl, rfl, rfl⟩ := hrel
    go_wp2_with fail
    refine (IC.out).mono ?_
    intro e w1 hpost
    obtain rfl := HP.out _ _ hpost
    have HQ := Lib.hid hpost
    clear hpost
    go_wp2
    go_loopw [6, 7, 8, 9] (fun s _ _ _ wr => s = .int .i64 20 ∧ w1 = wr) (fun _ _ _ _ _ => 0)
    case atStart => exact ⟨rfl, rfl⟩
    case round =>
      obtain ⟨rfl, rfl⟩ := hrel
      go_wp2
      go_end0
      exact HQ.out
theorem sortStable_c (base gb : Nat) (v va : Value) (G : List Int) (w : World) (hn : G.length ≤ 7) (h : w.ownsRow base 3 1 v (upto G.length).length (enc1 (upto G.length))) (hG : ∀ x ∈ G, 0 ≤ x ∧ x ≤ 99) (hgb : gb < base) (hc : w.cell? ⟨gb, 0, none⟩ = some va) (hr : RdS (fun k => k < base) 1 w va G.length (enc1 G)) :
    Calls Try.prog 105 #[v, .func (.func 106) #[] #[.pointer (some ⟨gb, 0, none⟩)]] w (SortP (AH G) base v (upto G.length) w) := by
  have IC := Lib.hid (stable_c base gb v va G w hn h hG hgb hc hr)
  rw [upto_len] at h
  obtain ⟨a, c, rfl⟩ := own_slice h
  generalize hp : SortP (AH G) base (.slice a G.length c) (upto G.length) w = post at *
  have HP : Hid (∀ e w', post e w' → e = .returned (.tuple #[])) := Lib.hid (by subst hp; rintro e w' ⟨L', he, -⟩; exact he)
  clear h hr hG hc hgb
  generalize G.length = n at *
  clear hp
  go_enter Try.func105, Try.ntmps105
  go_wp2_with fail
  refine (IC.out).mono ?_
  intro e w' hpost
  obtain rfl := HP.out _ _ hpost
  go_wp2
  go_end0
  exact hpost
end Go.Proofs.Ytbjndbaljenlgaa
