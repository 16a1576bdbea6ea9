/- Contracts: DeleteFunc as young uses it; young; both sweeps. -/
import Derived.Test.YtonahamnkbjipaaSweep
namespace Go.Proofs.Ytonahamnkbjipaa
open Go.RowKit
def DelPost (base : Nat) (now : Int) (ps : List P2) (v : Value) (w : World) (e : Ending) (w' : World) : Prop :=
  ∃ v', e = .returned v' ∧ w'.ownsRow base 30 2 v' (sw now ps).length (enc2 (sw now ps)) ∧ w.grownBy w' v.ownBlock
set_option maxHeartbeats 1600000 in
theorem deleteOld_c (v : Value) (ps : List P2) (now : Int) (bn base : Nat) (w : World) (h : w.ownsRow base 30 2 v ps.length (enc2 ps)) (ht : timesOk ps) (hc : w.cell? ⟨bn, 0, none⟩ = some (.int .i64 now)) (hbn : bn < base) (hn : ps.length ≤ 1048576) :
    Calls Try.prog 34 #[v, .func (.func 35) #[] #[.pointer (some ⟨bn, 0, none⟩)]] w (DelPost base now ps v w) := by
  have HT := Lib.hid (And.intro ht (And.intro hc h))
  have hsl := own_cases h
  clear ht hc h
  rcases hsl with ⟨rfl, hp, -⟩ | ⟨g, cap, rfl, hg, hgs, hnc, hcm⟩
  · have hp' : ps = [] := List.eq_nil_of_length_eq_zero hp
    subst hp'
    clear hp
    go_enter Try.func34, Try.ntmps34
    go_wp2_with fail
    refine (indexOld_c _ [] now bn _ (Rd.of_own HT.out.2.2) HT.out.1 HT.out.2.1).mono ?_
    rintro e w1 ⟨i, rfl, hb1, hi⟩
    obtain rfl : i = -1 := by
      rcases hi with ⟨h, -⟩ | ⟨m, -, hm, -⟩
      · exact h
      · simp at hm
    clear hi
    go_wp2
    go_ret
    exact ⟨_, rfl, own_below HT.out.2.2 hb1, below_grown hb1 _⟩
  · unfold maxLen at hcm
    go_enter Try.func34, Try.ntmps34
    go_wp2_with fail
    refine (indexOld_c _ ps now bn _ (Rd.of_own HT.out.2.2) HT.out.1 HT.out.2.1).mono ?_
    rintro e w1 ⟨i, rfl, hb1, hi⟩
    rcases hi with ⟨rfl, hall⟩ | ⟨m, rfl, hm, hk0, htk⟩
    · have HA := Lib.hid hall
      clear hall
      go_wp2
      go_ret
      exact ⟨_, rfl, by rw [HA.out]; exact own_below HT.out.2.2 hb1, below_grown hb1 _⟩
    · have hm1 : (((m : Int)) == -1) = false := by rw [beq_eq_false_iff_ne]; omega
      have hstart : sw now (ps.take (m + 1)) = ps.take m := by
        rw [take_snoc_getD ps m (0, 0) hm, sw_snoc, hk0, htk, if_neg (by decide), List.append_nil]
      have HS := Lib.hid hstart
      have hgr0 : w.grownBy w1 (some g) := below_grown hb1 _
      have hown1 := own_below HT.out.2.2 hb1
      have hlm : (ps.take m).length = m := List.length_take_of_le (by omega)
      have HL := Lib.hid hlm
      clear hk0 htk hstart hb1 hlm
      go_wp2
      go_loopw [5, 6] (fun ci cj wr => ∃ (c k : Nat) (xs : List P2), k ≤ ps.length ∧ c < k ∧ ci = .int .i64 c ∧ cj = .int .i64 k ∧ wr.ownsRow base 30 2 (.slice (some ⟨g, 0, none⟩) ps.length cap) ps.length (enc2 xs) ∧ w.grownBy wr (some g) ∧ Hid (xs.length = ps.length ∧ c = (sw now (ps.take k)).length ∧ xs.take c = sw now (ps.take k) ∧ xs.drop k = ps.drop k)) (fun _ j _ => ps.length - (intOf j).toNat)
      case atStart => exact ⟨m, m + 1, ps, by omega, by omega, rfl, by go_num, hown1, hgr0, rfl, by rw [HS.out, HL.out], by rw [HS.out], rfl⟩
      case round =>
        clear hown1 hgr0
        obtain ⟨c, k, xs, hk, hck, rfl, rfl, hown, hgr, HX⟩ := hrel
        have hcell := cell_keep_grown hgr HT.out.2.1 (show some bn ≠ some g by simp; omega)
        have HC := Lib.hid hcell
        clear hcell
        have hgw : g < wr.heap.size := Nat.lt_of_lt_of_le hgs hgr.size
        by_cases hlt : k < ps.length
        · obtain ⟨hxl, hc1, hc2, hc3⟩ := HX.out
          obtain ⟨x, y, hxy⟩ : ∃ x y, ps.getD k (0, 0) = (x, y) := ⟨_, _, rfl⟩
          have hxk : xs.getD k (0, 0) = (x, y) := by
            rw [← hxy, List.getD_eq_getElem?_getD, List.getD_eq_getElem?_getD]
            have := congrArg (fun l => l[0]?) hc3
            simp only [List.getElem?_drop, Nat.add_zero] at this
            rw [this]
          have hy := HT.out.1 k hlt
          rw [hxy] at hy
          obtain ⟨hy1, hy2⟩ := hy
          have hat := enc2_at xs k (0, 0) (by omega)
          rw [hxk] at hat
          have u1 := (hown.cellAt (k * 2) (by omega)).trans hat.1
          have u2 := (hown.cellAt (k * 2 + 1) (by omega)).trans hat.2
          have hat2 := enc2_at xs c (0, 0) (by omega)
          obtain ⟨z1, hz1⟩ : ∃ z, (xs.getD c (0, 0)).1 = z := ⟨_, rfl⟩
          obtain ⟨z2, hz2⟩ : ∃ z, (xs.getD c (0, 0)).2 = z := ⟨_, rfl⟩
          rw [hz1, hz2] at hat2
          have HA := Lib.hid hat2
          have hs := take_snoc_getD ps k (0, 0) hlt
          rw [hxy] at hs
          have HS2 := Lib.hid hs
          clear hxl hc1 hc2 hc3 hxy hxk hat hat2 hz1 hz2 hs
          simp only [] at u1 u2
          by_cases hf : now ≤ y + 10
          · go_wp2_with fail
            refine (young1_f x y now bn _ (by rw [World.cell?_alloc_lt _ _ _ (show bn < wr.heap.size by omega)]; exact HC.out) hy1 hy2 hf).mono ?_
            rintro e w3 ⟨rfl, hb3⟩
            have hown3 := own_below (hown.alloc (.cells #[.int .i64 x, .int .i64 y] 30)) hb3
            have hg3 : wr.grownBy w3 (some g) := grown_of_alloc (below_grown hb3 _)
            have p1 : w3.cell? ⟨wr.heap.size, 0, none⟩ = some (.int .i64 x) := cell_keep hb3 (by simp)
            have p2 : w3.cell? ⟨wr.heap.size, 1, none⟩ = some (.int .i64 y) := cell_keep hb3 (by simp)
            have s1 := (hown3.cellAt (c * 2) (by omega)).trans HA.out.1
            have s2 := (hown3.cellAt (c * 2 + 1) (by omega)).trans HA.out.2
            have f1 := hown3.frozenAt (c * 2)
            have f2 := hown3.frozenAt (c * 2 + 1)
            have hsz3 := hg3.size
            clear hb3 u1 u2 hown
            go_wp2
            go_roundw
            case rel =>
              obtain ⟨hxl, hc1, hc2, hc3⟩ := HX.out
              have t1 := hown3.stored (c * 2) (.int .i64 x)
              have t2 := t1.1.stored (c * 2 + 1) (.int .i64 y)
              have hsw : sw now (ps.take (k + 1)) = sw now (ps.take k) ++ [(x, y)] := by
                rw [HS2.out, sw_snoc, if_pos (by simp [keepB, hf])]
              refine ⟨c + 1, k + 1, xs.set c (x, y), by omega, by omega, by go_num, by go_num, by rw [enc2_set]; exact t2.1, grown_set (grown_set (grown_trans hgr hg3)), by simpa using hxl, ?_, ?_, ?_⟩
              · rw [hsw, List.length_append, ← hc1]; rfl
              · rw [hsw]; exact take_step xs _ c _ (by omega) hc2
              · rw [List.drop_set_of_lt (by omega)]
                have := congrArg (List.drop 1) hc3
                simpa [List.drop_drop, Nat.add_comm] using this
            case measure => simp [intOf]; omega
          · have hf' : y + 10 < now := by omega
            go_wp2_with fail
            refine (young1_t x y now bn _ (by rw [World.cell?_alloc_lt _ _ _ (show bn < wr.heap.size by omega)]; exact HC.out) hy1 hy2 hf').mono ?_
            rintro e w3 ⟨rfl, hb3⟩
            have hown3 := own_below (hown.alloc (.cells #[.int .i64 x, .int .i64 y] 30)) hb3
            have hg3 : wr.grownBy w3 (some g) := grown_of_alloc (below_grown hb3 _)
            clear hb3 u1 u2 hown
            go_wp2
            go_roundw
            case rel =>
              obtain ⟨hxl, hc1, hc2, hc3⟩ := HX.out
              have hsw : sw now (ps.take (k + 1)) = sw now (ps.take k) := by
                rw [HS2.out, sw_snoc, if_neg (by simp [keepB]; omega), List.append_nil]
              refine ⟨c, k + 1, xs, by omega, by omega, rfl, by go_num, hown3, grown_trans hgr hg3, hxl, by rw [hsw]; exact hc1, by rw [hsw]; exact hc2, ?_⟩
              have := congrArg (List.drop 1) hc3
              simpa [List.drop_drop, Nat.add_comm] using this
            case measure => simp [intOf]; omega
        · obtain rfl : k = ps.length := by omega
          obtain ⟨w5, hrun, hown5, hg5⟩ := clear_own (P := Try.prog) wr 23 30 2 base g ps.length cap c zero2 (enc2 xs) Try.underlying23 (fun w => by kernel_rfl) rfl (by intro u hu; simp [Value.cells] at hu; rcases hu with rfl | rfl <;> rfl) hown hck (cap - c)
          have HF : Hid (enc2 (xs.take c) = enc2 (sw now ps) ∧ c = (sw now ps).length) := by
            obtain ⟨hxl, hc1, hc2, hc3⟩ := HX.out
            rw [List.take_of_length_le (Nat.le_refl _)] at hc1 hc2
            exact ⟨by rw [hc2], hc1⟩
          rw [← enc2_take] at hown5
          have hcap : c ≤ cap := by omega
          clear hown
          go_wp2
          go_ret
          refine ⟨_, rfl, ?_, grown_trans hgr hg5⟩
          rw [← HF.out.1, ← HF.out.2]
          exact hown5
theorem young_c (v : Value) (ps : List P2) (now : Int) (w : World) (h : Rd 2 w v ps.length (enc2 ps)) (hs : Sl v) (ht : timesOk ps) (hn : ps.length ≤ 1048576) :
    Calls Try.prog 28 #[v, .int .i64 now] w (RetOwn 30 2 (sw now ps).length (enc2 (sw now ps)) w) := by
  have hb0 := (Below.refl w.heap.size w).alloc (Nat.le_refl _) (.cells #[.int .i64 now] 3)
  have HR := Lib.hid (h.below hb0)
  have HT := Lib.hid ht
  clear h ht
  go_enter Try.func28, Try.ntmps28
  go_wp2_with fail
  refine (cloneListed_c _ ps _ HR.out hs hn).mono ?_
  rintro e w1 ⟨v1, rfl, hown1, hb1⟩
  have hc : w1.cell? ⟨w.heap.size, 0, none⟩ = some (.int .i64 now) := cell_keep hb1 (by simp)
  have HC := Lib.hid hc
  have hb1' := hb0.trans (hb1.mono hb0.size)
  clear hb0 hc hb1
  go_wp2_with fail
  refine (deleteOld_c _ ps now w.heap.size _ _ hown1 HT.out HC.out (by simp) hn).mono ?_
  rintro e w2 ⟨v2, rfl, hown2, hg2⟩
  have hb2 := hb1'.grown hg2 hb1'.size (fun k hk => by have := (hown1.lt k hk).1; simp at this; omega)
  go_wp2
  go_ret
  exact ⟨_, rfl, own_base hown2 (by simp), hb2⟩
def dsw (now : Int) (ps : List P2) : List P2 := if DV ps ∧ 0 ≤ now ∧ now ≤ 999 then sw now ps else []
theorem dsw_yes {now : Int} {ps : List P2} (h : DV ps) (h1 : 0 ≤ now) (h2 : now ≤ 999) : dsw now ps = sw now ps := by unfold dsw; rw [if_pos ⟨h, h1, h2⟩]
theorem dsw_no {now : Int} {ps : List P2} (h : ¬ (DV ps ∧ 0 ≤ now ∧ now ≤ 999)) : dsw now ps = [] := by unfold dsw; rw [if_neg h]
end Go.Proofs.Ytonahamnkbjipaa
