/- The contracts of the draw of what peers gave. -/
import Derived.Test.YtbjndbaljenlgaaSvD
namespace Go.Proofs.Ytbjndbaljenlgaa
open Go.RowKit
set_option linter.unusedSimpArgs false
theorem grown_ownI {w w1 w2 : World} {r e sz n : Nat} {v : Value} {xs : List Value} (h : w.grownBy w1 (some r)) (ho : w1.ownsRow w.heap.size e sz v n xs) (hg : w1.grownBy w2 v.ownBlock) : w.grownBy w2 (some r) :=
  ⟨hg.os.trans h.os, hg.tape.trans h.tape, hg.output.trans h.output, Nat.le_trans h.size hg.size, fun k hk hne => (hg.block k (Nat.lt_of_lt_of_le hk h.size) (fun e => by have := (ho.lt k e.symm).1; omega)).trans (h.block k hk hne)⟩
theorem mul_12 {a b : Int} (h1 : 0 ≤ a) (h2 : a < 5) (h3 : 0 ≤ b) (h4 : b < 4) : 0 ≤ a * b ∧ a * b ≤ 12 := by
  have hb : b = 0 ∨ b = 1 ∨ b = 2 ∨ b = 3 := by omega
  rcases hb with rfl | rfl | rfl | rfl <;> omega
def GvP (B r P : Nat) (w : World) (e : Ending) (w' : World) : Prop :=
  ∃ v L, e = .returned v ∧ w'.ownsRow w.heap.size 3 1 v L.length (enc1 L) ∧ L.length ≤ 7 ∧ Reader B w' r P ∧ w.grownBy w' (some r)
set_option maxHeartbeats 1600000 in
theorem given_d (B r P : Nat) (w : World) (h : Reader B w r P) (hP : P ≤ 4294967000) : Calls Try.prog 62 #[.pointer (some ⟨r, 0, none⟩)] w (GvP B r (P + 30) w) := by
  have hrB := h.1
  have hBw := h.2.1
  have hrw : r < w.heap.size := Nat.lt_of_lt_of_le hrB hBw
  have h0 := h.kept (World.grownBy_alloc w (.cells #[] 3) none) (fun k hk => by cases hk)
  have hown0 := own_empty w w.heap.size 3 1 (Nat.le_refl _)
  have hg0 := World.grownBy_alloc w (.cells #[] 3) (some r)
  go_enter Try.func62, Try.ntmps62
  go_wp2_with fail
  refine (pick_c B r _ 7 _ h0 (by omega)).mono ?_
  rintro e w1 ⟨n, rfl, hn0, hn1, hR, hg⟩
  have hn1 := hn1 (by omega)
  have HO := Lib.hid (own_kept_r hown0 hg hrw)
  have HR := Lib.hid (And.intro hR (grown_trans hg0 hg))
  clear h hR hg h0 hown0 hg0
  go_wp2
  go_loopw [3, 5] (fun o i wr => ∃ (k : Nat) (L : List Int), (k : Int) ≤ n ∧ i = .int .i64 k ∧ L.length = k ∧ wr.ownsRow w.heap.size 3 1 o L.length (enc1 L) ∧ Hid (Reader B wr r (P + 1 + 3 * k) ∧ w.grownBy wr (some r))) (fun _ i _ => n.toNat - (intOf i).toNat)
  case atStart => exact ⟨0, [], hn0, rfl, rfl, by exact HO.out, Lib.hid ⟨HR.out.1.le (by omega), HR.out.2⟩⟩
  case round =>
    obtain ⟨k, L, hk, rfl, hl, ho, HR⟩ := hrel
    by_cases hlt : (k : Int) < n
    · have hk6 : k < 6 := by omega
      go_wp2_with fail
      refine (pick_c B r _ 5 _ HR.out.1 (by omega)).mono ?_
      rintro e w2 ⟨a, rfl, ha0, ha1, hR2, hg2⟩
      have ha1 := ha1 (by omega)
      go_wp2_with fail
      refine (pick_c B r _ 4 _ hR2 (by omega)).mono ?_
      rintro e w3 ⟨b, rfl, hb0, hb1, hR3, hg3⟩
      have hb1 := hb1 (by omega)
      obtain ⟨hab0, hab1⟩ := mul_12 ha0 ha1 hb0 hb1
      obtain ⟨ab, hab⟩ : ∃ ab, a * b = ab := ⟨_, rfl⟩
      rw [hab] at hab0 hab1
      have habw : IntKind.i64.wrap (a * b) = ab := by rw [hab]; exact IntWalk.i64_in _ (by omega)
      clear ha0 ha1 hb0 hb1
      go_wp2_with fail
      refine (pick_c B r _ 12 _ hR3 (by omega)).mono ?_
      rintro e w4 ⟨c, rfl, hc0, hc1, hR4, hg4⟩
      have hc1 := hc1 (by omega)
      obtain ⟨d, hd, hd0, hd1⟩ : ∃ d : Int, c.tdiv 11 = d ∧ 0 ≤ d ∧ d ≤ 1 := ⟨c / 11, by rw [Int.tdiv_eq_ediv_of_nonneg hc0], by omega, by omega⟩
      have hdw : IntKind.i64.wrap d = d := IntWalk.i64_in _ (by omega)
      have HG := Lib.hid (grown_trans (grown_trans (grown_trans HR.out.2 hg2) hg3) hg4)
      have ho4 := own_kept_r (own_kept_r (own_kept_r ho hg2 hrw) hg3 hrw) hg4 hrw
      have HR4 := Lib.hid hR4
      have hsz := HG.out.size
      clear ho HR hR2 hR3 hR4 hg2 hg3 hg4 hc0 hc1
      go_wp2_with (at_builtin; refine wpList_app1 _ rfl _ _ 48 rfl w.heap.size 3 Try.underlying48 info_intI _ L rfl ho4 _ _ _ rfl (by omega) hsz ?_)
      intro v5 w5 qs hqs hql o5 hg5
      have e5 : qs.length = k + 1 := by rw [hqs.out, List.length_append, hl]; rfl
      have HR5 := Lib.hid (And.intro (HR4.out.kept hg5 (fun j hj => Nat.le_trans hBw (own_block ho4 j hj).1)) (grown_ownI HG.out ho4 hg5))
      clear ho4 hg5 HG HR4 hqs hql
      go_wp2
      go_roundw
      case rel => exact ⟨k + 1, qs, by omega, by go_num, e5, o5, Lib.hid ⟨HR5.out.1.le (by omega), HR5.out.2⟩⟩
      case measure => simp [intOf]; omega
    · have hk6 : k ≤ 6 := by omega
      subst hl
      go_wp2_with fail
      refine (pick_c B r _ 20 _ HR.out.1 (by omega)).mono ?_
      rintro e w2 ⟨m, rfl, hm0, -, hR2, hg2⟩
      have ho2 := own_kept_r ho hg2 hrw
      have HR2 := Lib.hid (And.intro hR2 (grown_trans HR.out.2 hg2))
      clear ho HR hR2 hg2
      obtain ⟨ao, co, rfl⟩ := own_slice ho2
      by_cases c0 : m = 0
      · subst c0
        go_wp2_with fail
        refine (pick_c B r _ 100 _ HR2.out.1 (by omega)).mono ?_
        rintro e w3 ⟨x, rfl, hx0, hx1, hR3, hg3⟩
        have ho3 := own_kept_r ho2 hg3 hrw
        have HR3 := Lib.hid (And.intro hR3 (grown_trans HR2.out.2 hg3))
        have hsz := HR3.out.2.size
        clear ho2 HR2 hR3 hg3
        go_wp2_with (at_builtin; refine wpList_app1 _ rfl _ _ 48 rfl w.heap.size 3 Try.underlying48 info_intI _ L rfl ho3 _ _ _ rfl (by omega) hsz ?_)
        intro v4 w4 qs hqs hql o4 hg4
        have e4 : qs.length ≤ 7 := by rw [hqs.out, List.length_append]; simp; omega
        have HR4 := Lib.hid (And.intro (HR3.out.1.kept hg4 (fun j hj => Nat.le_trans hBw (own_block ho3 j hj).1)) (grown_ownI HR3.out.2 ho3 hg4))
        have O4 := Lib.hid o4
        have E4 := Lib.hid e4
        clear ho3 hg4 hqs hql HR3 o4 e4
        go_wp2
        go_ret
        exact ⟨_, qs, rfl, O4.out, E4.out, HR4.out.1.le (by omega), HR4.out.2⟩
      · by_cases c1 : m = 1
        · subst c1
          by_cases hn00 : 0 < n
          · have hk0 : L.length ≠ 0 := by omega
            obtain ⟨g, hgq⟩ : ∃ g, ao = some ⟨g, 0, none⟩ := by
              rcases own_cases ho2 with ⟨-, h0, -⟩ | ⟨g, cap', h1, -⟩
              · omega
              · injection h1 with h1 _ _
                exact ⟨g, h1⟩
            subst hgq
            have hco : L.length ≤ co ∧ co ≤ maxLen := by
              rcases own_cases ho2 with ⟨h0, -, -⟩ | ⟨g, cap', h1, h2, h3, h4, h5⟩
              · cases h0
              · injection h1 with _ _ h1
                subst h1
                exact ⟨h4, h5⟩
            unfold maxLen at hco
            obtain ⟨hco1, hco2⟩ := hco
            go_wp2_with fail
            refine (pick_c B r _ n _ HR2.out.1 (by omega)).mono ?_
            rintro e w3 ⟨q0, rfl, hq0, hq1, hR3, hg3⟩
            have hq1 := hq1 (by omega)
            obtain ⟨q, rfl⟩ := Int.eq_ofNat_of_zero_le hq0
            have hqk : q < L.length := by omega
            have ho3 := own_kept_r ho2 hg3 hrw
            have HR3 := Lib.hid (And.intro hR3 (grown_trans HR2.out.2 hg3))
            obtain ⟨W3, hW3⟩ : ∃ W3, W3 = w3.alloc (.cells #[.int .i64 (-1), .int .i64 99, .int .i64 100] 3) := ⟨_, rfl⟩
            have hb3 : Below w3.heap.size w3 W3 := by rw [hW3]; (repeat' (first | exact Below.refl _ _ | assumption | refine Below.drew ?_ | refine below_drewN ?_ _ | refine Below.alloc ?_ (by omega) _ | refine Below.alloc ?_ (by simp; omega) _ | refine Below.alloc ?_ (by simp) _ | refine Below.setCell ?_ (by omega) _ | refine Below.setCell ?_ (by simp; omega) _ | refine Below.setCell ?_ (by simp) _))
            have x0 : W3.cell? ⟨w3.heap.size, 0, none⟩ = some (.int .i64 (-1)) := by rw [hW3]; simp
            have x1 : W3.cell? ⟨w3.heap.size, 1, none⟩ = some (.int .i64 99) := by rw [hW3]; simp
            have x2 : W3.cell? ⟨w3.heap.size, 2, none⟩ = some (.int .i64 100) := by rw [hW3]; simp
            have O3 := Lib.hid (own_below ho3 hb3)
            have HR3b := Lib.hid (And.intro (HR3.out.1.below hb3) (grown_trans HR3.out.2 (below_grown hb3 _)))
            have hne : some w3.heap.size ≠ some r := by have := hR3.2.1; simp; omega
            clear ho2 HR2 hR3 hg3 ho3 HR3 hb3
            go_wp2_with fail
            rw [← hW3]
            clear hW3
            refine (pick_c B r _ 3 _ HR3b.out.1 (by omega)).mono ?_
            rintro e w4 ⟨j, rfl, hj0, hj1, hR4, hg4⟩
            have hj1 := hj1 (by omega)
            have O4 := Lib.hid (own_kept_r O3.out hg4 hrw)
            have HR4 := Lib.hid (And.intro hR4 (grown_trans HR3b.out.2 hg4))
            have x0 := grown_cell hg4 x0 hne
            have x1 := grown_cell hg4 x1 hne
            have x2 := grown_cell hg4 x2 hne
            have s4 := O4.out.cellAt q (by omega)
            rw [enc1_at L q 0 hqk] at s4
            have f4 := O4.out.frozenAt q
            have hqi : (q : Int) < (L.length : Int) := by omega
            clear O3 HR3b hR4 hg4 hne hq1
            have hj : j = 0 ∨ j = 1 ∨ j = 2 := by omega
            have FIN := Lib.hid (fun (y : Int) => (show GvP B r (P + 30) w (.returned (.slice (some ⟨g, 0, none⟩) L.length co)) (w4.setCell ⟨g, q, none⟩ (.int .i64 y)) from ⟨_, L.set q y, rfl, by rw [List.length_set, ← enc1_set]; exact (O4.out.stored q (.int .i64 y)).1, by rw [List.length_set]; omega, (HR4.out.1.kept (grown_set (World.grownBy.refl _ _)) (fun i hi => by cases hi; exact Nat.le_trans hBw (own_block O4.out g rfl).1)).le (by omega), grown_ownI HR4.out.2 O4.out (grown_set (World.grownBy.refl _ _))⟩))
            clear hj0 hj1
            rcases hj with rfl | rfl | rfl
            all_goals
              go_wp2
              go_ret
              exact FIN.out _
          · have hn00' : n = 0 := by omega
            have HR3 := Lib.hid (And.intro (HR2.out.1.le (show _ ≤ P + 30 by omega)) HR2.out.2)
            have O2 := Lib.hid ho2
            have HLL := Lib.hid (show L.length ≤ 7 by omega)
            clear HR2 ho2 hn00'
            go_wp2
            go_ret
            exact ⟨_, L, rfl, O2.out, HLL.out, HR3.out.1, HR3.out.2⟩
        · have d0 : (m == 0) = false := by rw [beq_eq_false_iff_ne]; exact c0
          have d1 : (m == 1) = false := by rw [beq_eq_false_iff_ne]; exact c1
          have HR3 := Lib.hid (And.intro (HR2.out.1.le (show _ ≤ P + 30 by omega)) HR2.out.2)
          have O2 := Lib.hid ho2
          have HLL := Lib.hid (show L.length ≤ 7 by omega)
          clear HR2 ho2
          go_wp2
          go_ret
          exact ⟨_, L, rfl, O2.out, HLL.out, HR3.out.1, HR3.out.2⟩
set_option maxHeartbeats 1600000 in
theorem drawServed_c (v : Value) (n : Nat) (w : World) (h : RdB w v n) : Calls Try.prog 24 #[v] w fun e w' => ∃ u L t, e = .returned (.tuple #[u, .int .i64 t]) ∧ w'.ownsRow w.heap.size 3 1 u L.length (enc1 L) ∧ L.length ≤ 7 ∧ -1 ≤ t ∧ t ≤ 999 ∧ Below w.heap.size w w' := by
  go_enter Try.func24, Try.ntmps24
  go_wp2_with fail
  refine (l6Open_c _ n _ h).mono ?_
  rintro e w1 ⟨r, rfl, hr, hR1, hb1⟩
  have HB1 := Lib.hid hb1
  clear h hb1
  go_wp2_with fail
  refine (given_d _ r _ _ hR1 (by omega)).mono ?_
  rintro e w2 ⟨u, L, rfl, o2, hl, hR2, hg2⟩
  have hrw : r < w1.heap.size := hR1.1
  have HB2 := below_r HB1.out hg2 hr
  clear hg2 hR1
  go_wp2_with fail
  refine (pick_c _ r _ 20 _ hR2 (by omega)).mono ?_
  rintro e w3 ⟨a, rfl, ha0, ha1, hR3, hg3⟩
  have ha1 := ha1 (by omega)
  have o3 := own_kept_r o2 hg3 hrw
  have HB3 := below_r HB2 hg3 hr
  clear o2 HB2 hR2 hg3
  go_wp2_with fail
  refine (pick_c _ r _ 20 _ hR3 (by omega)).mono ?_
  rintro e w4 ⟨b, rfl, hb0, hb1, hR4, hg4⟩
  have hb1 := hb1 (by omega)
  have o4 := own_kept_r o3 hg4 hrw
  have HB4 := below_r HB3 hg4 hr
  obtain ⟨d, hd, hd0, hd1⟩ : ∃ d : Int, b.tdiv 19 = d ∧ 0 ≤ d ∧ d ≤ 1 := ⟨b / 19, by rw [Int.tdiv_eq_ediv_of_nonneg hb0], by omega, by omega⟩
  have hdw : IntKind.i64.wrap d = d := IntWalk.i64_in _ (by omega)
  clear o3 HB3 hR3 hg4 hb0 hb1
  go_wp2_with fail
  refine (pick_c _ r _ 20 _ hR4 (by omega)).mono ?_
  rintro e w5 ⟨c, rfl, hc0, hc1, hR5, hg5⟩
  have hc1 := hc1 (by omega)
  have O5 := Lib.hid (own_base (base' := w.heap.size) (own_kept_r o4 hg5 hrw) HB1.out.size)
  have HB5 := Lib.hid (below_r HB4 hg5 hr)
  obtain ⟨d', hd', hd'0, hd'1⟩ : ∃ d : Int, c.tdiv 19 = d ∧ 0 ≤ d ∧ d ≤ 1 := ⟨c / 19, by rw [Int.tdiv_eq_ediv_of_nonneg hc0], by omega, by omega⟩
  have hdw' : IntKind.i64.wrap d' = d' := IntWalk.i64_in _ (by omega)
  clear o4 HB4 hR4 hg5 hc0 hc1 hR5
  go_wp2
  go_ret2
  exact ⟨_, L, _, rfl, O5.out, hl, by omega, by omega, HB5.out⟩
end Go.Proofs.Ytbjndbaljenlgaa
