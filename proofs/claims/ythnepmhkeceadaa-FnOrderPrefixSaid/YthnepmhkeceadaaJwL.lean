/- Walks: what a further entry knows (the reference). -/
import Derived.Test.YthnepmhkeceadaaOw2
namespace Go.Proofs.Ythnepmhkeceadaa
open Go.RowKit
theorem RdS.num2 {S : Nat → Prop} {w : World} {v : Value} {xs : List Int} {n : Nat} (h : RdS S 1 w v n (enc1 xs)) (hn : xs.length = n) {k : Nat} (hk : k < n) :
    ∃ b off cap z, v = .slice (some ⟨b, off, none⟩) n cap ∧ n ≤ cap ∧ cap ≤ maxLen ∧ w.cell? ⟨b, off + k, none⟩ = some (.int .i64 z) ∧ Hid (xs.getD k 0 = z) := by subst hn; exact h.num hk
/-- three numbers of a function as a list -/
def lst3 (g : Nat → Int) : List Int := [g 0, g 1, g 2]
def upd1 (g : Nat → Int) (x : Nat) (z : Int) : Nat → Int := fun y => if y = x then z else g y
theorem lst3_len (g : Nat → Int) : (lst3 g).length = 3 := rfl
theorem lst3_at (g : Nat → Int) {v : Nat} (hv : v < 3) (d : Int) : (lst3 g).getD v d = g v := by
  obtain rfl | rfl | rfl : v = 0 ∨ v = 1 ∨ v = 2 := by omega
  all_goals rfl
theorem lst3_set (g : Nat → Int) {x : Nat} (hx : x < 3) (z : Int) : enc1 (lst3 (upd1 g x z)) = (enc1 (lst3 g)).set x (.int .i64 z) := by
  obtain rfl | rfl | rfl : x = 0 ∨ x = 1 ∨ x = 2 := by omega
  all_goals simp [lst3, upd1, enc1]
theorem lst3_of {ks : List Int} (h : ks.length = 3) : ks = lst3 (fun v => ks.getD v 0) := by
  match ks, h with
  | [a, b, c], _ => rfl
theorem lst3_congr {f g : Nat → Int} (h : ∀ v, v < 3 → f v = g v) : lst3 f = lst3 g := by
  unfold lst3; rw [h 0 (by omega), h 1 (by omega), h 2 (by omega)]
/-- what is known: the given numbers, and of the writer's own entries all -/
def kf (F : Fd) (w : Nat) (ks : List Int) : Nat → Int := upd1 (fun v => ks.getD v 0) w (ln F w)
theorem kf_own (F : Fd) (w : Nat) (ks : List Int) : kf F w ks w = (ln F w : Int) := by simp [kf, upd1]
theorem kf_knw {F : Fd} {w : Nat} {ks : List Int} (h : ∀ v, v < 3 → 0 ≤ ks.getD v 0 ∧ ks.getD v 0 ≤ (ln F v : Int)) : Knw F (kf F w ks) := by
  intro v hv
  unfold kf upd1
  by_cases e : v = w
  · subst e; rw [if_pos rfl]; omega
  · rw [if_neg e]; exact h v hv
theorem Btw.refl (F : Fd) (f : Nat → Int) : Btw F f f := fun v _ => ⟨Int.le_refl _, nw_ge F f v⟩
def Ful (F : Fd) (f g : Nat → Int) : Prop := ∀ v, v < 3 → nw F f v ≤ g v
theorem Ful.eq {F : Fd} {f g : Nat → Int} (h : Ful F f g) (hb : Btw F f g) : ∀ v, v < 3 → g v = nw F f v := fun v hv => by
  have := h v hv; have := (hb v hv).2; omega
theorem Ful.step {F : Fd} {f g : Nat → Int} (h : Ful F f g) (x : Nat) (z : Int) : Ful F f (upd1 g x (max (g x) z)) := fun v hv => by
  have := h v hv
  unfold upd1
  by_cases e : v = x
  · subst e; rw [if_pos rfl]; omega
  · rw [if_neg e]; exact this
theorem own_three {w : World} {B n : Nat} {v : Value} {g : Nat → Int} (ho : w.ownsRow B 3 1 v n (enc1 (lst3 g))) (hn : n = 3) : ∃ b cap, v = .slice (some ⟨b, 0, none⟩) 3 cap ∧ B ≤ b ∧ b < w.heap.size ∧ 3 ≤ cap ∧ cap ≤ maxLen ∧
    (∀ u, u < 3 → w.cell? ⟨b, u, none⟩ = some (.int .i64 (g u)) ∧ w.frozen? ⟨b, u, none⟩ = false) := by
  subst hn
  rcases own_cases ho with ⟨-, h0, -⟩ | ⟨b, cap, rfl, h1, h2, h3, h4⟩
  · omega
  · refine ⟨b, cap, rfl, h1, h2, h3, h4, fun u hu => ⟨?_, ho.frozenAt u⟩⟩
    rw [ho.cellAt u (by omega), enc1_at (lst3 g) u 0 (by rw [lst3_len]; exact hu), lst3_at g hu]
theorem own_cells3 {w : World} {B b cap : Nat} {g : Nat → Int} (ho : w.ownsRow B 3 1 (.slice (some ⟨b, 0, none⟩) 3 cap) 3 (enc1 (lst3 g))) : ∀ u, u < 3 → w.cell? ⟨b, u, none⟩ = some (.int .i64 (g u)) ∧ w.frozen? ⟨b, u, none⟩ = false := fun u hu =>
  ⟨by rw [ho.cellAt u (by omega), enc1_at (lst3 g) u 0 (by rw [lst3_len]; exact hu), lst3_at g hu], ho.frozenAt u⟩
set_option maxHeartbeats 6400000 in
theorem l31Know_c {S S' : Nat → Prop} (F : Fd) (fv kv : Value) (w : Nat) (ks : List Int) (W : World) (h : RdF S W fv F) (hj : JV F) (hw : w < 3) (hk : RdS S' 1 W kv 3 (enc1 ks)) (hk3 : ks.length = 3) (hkn : ∀ v, v < 3 → 0 ≤ ks.getD v 0 ∧ ks.getD v 0 ≤ (ln F v : Int)) :
    Calls Try.prog 41 #[fv, .int .i64 w, kv] W (RetOwn 3 1 3 (enc1 (lst3 (nw F (kf F w ks)))) W) := by
  have HJ := Lib.hid hj
  have HK := Lib.hid hk
  obtain ⟨a0, cap0, rfl, q1, q2⟩ := h.shape
  rw [hj.1] at q1 h ⊢
  unfold maxLen at q2
  have H := Lib.hid h
  have HKn := Lib.hid (kf_knw (w := w) hkn)
  have HK3 := Lib.hid hk3
  obtain ⟨f, hf⟩ : ∃ f, kf F w ks = f := ⟨_, rfl⟩
  have HF := Lib.hid hf
  rw [hf] at HKn ⊢
  clear h hj hk hkn hf
  have hown0 := own_empty W W.heap.size 3 1 (Nat.le_refl _)
  have HB0 : Hid (Below W.heap.size W (W.alloc (.cells #[] 3))) := (Below.refl _ _).alloc (Nat.le_refl _) _
  go_enter Try.func41, Try.ntmps41
  go_wp2
  go_loopw [7, 8] (fun o i' wr => ∃ v : Nat, v ≤ 3 ∧ i' = .int .i64 v ∧ wr.ownsRow W.heap.size 3 1 o v (enc1 (ks.take v)) ∧ Hid (Below W.heap.size W wr)) (fun _ i' _ => 3 - (intOf i').toNat)
  case atStart => exact ⟨0, Nat.zero_le _, rfl, hown0, HB0⟩
  case round =>
    clear hown0 HB0
    obtain ⟨v, hv, rfl, hown, HB⟩ := hrel
    have hsz := HB.out.size
    by_cases hlt : v < 3
    · obtain ⟨b9, o9, c9, y, ev, n9, m9, q9, HY⟩ := HK.out.num2 HK3.out hlt
      subst ev
      unfold maxLen at m9
      have q9 := cell_keep HB.out q9
      have hlt' : (v : Int) < 3 := by omega
      have hlen : (ks.take v).length = v := by rw [List.length_take, HK3.out]; omega
      have HLn := Lib.hid hlen
      have HT : Hid (ks.take (v + 1) = ks.take v ++ [y]) := by
        show _ = _
        rw [take_snoc_getD ks v 0 (by rw [HK3.out]; exact hlt), HY.out]
      obtain ⟨X, hX⟩ : ∃ X, ks.take v = X := ⟨_, rfl⟩
      rw [hX] at hown HT HLn
      clear hlen hX
      have hown' := hown
      rw [← HLn.out] at hown'
      have hX3 : X.length ≤ 3 := by rw [HLn.out]; omega
      go_wp2_with (at_builtin; refine wpList_app1 _ rfl _ _ 24 rfl W.heap.size 3 Try.underlying24 info_int0 _ X rfl hown' _ _ _ rfl (by omega) hsz ?_)
      intro v' w4 qs hqs hql hown4 hg4
      have hb4 := Lib.hid (HB.out.grown hg4 hsz (fun k hk => (hown.lt k hk).1))
      have hql2 : qs.length = v + 1 := by rw [hqs.out]; simp; exact HLn.out
      rw [hql2, hqs.out, ← HT.out] at hown4
      clear hown hown' hg4 q9 hqs hql hql2
      go_wp2
      go_roundw
      case rel => exact ⟨v + 1, by omega, by go_num, hown4, hb4⟩
      case measure => simp [intOf]; omega
    · obtain rfl : v = 3 := by omega
      rw [List.take_of_length_le (by rw [HK3.out]; exact Nat.le_refl _), lst3_of HK3.out] at hown
      obtain ⟨b, cap, rfl, hb1, hb2, hb3, hb4, hcell⟩ := own_three hown rfl
      unfold maxLen at hb4
      have cw := (hcell w hw).1
      have fw := (hcell w hw).2
      obtain ⟨b5, o5, c5, a6, c6, ev, -, -, q5, q6, q7, -⟩ := (H.out.below HB.out).feed (j := w) (by rw [HJ.out.1]; exact hw)
      rw [HJ.out.1] at ev
      simp only [Value.slice.injEq] at ev
      obtain ⟨rfl, -, rfl⟩ := ev
      unfold maxLen at q7
      have hw' : (w : Int) < 3 := by omega
      have hst := (hown.stored w (.int .i64 (ln F w : Nat))).1
      rw [← lst3_set _ hw] at hst
      have hst : (wr.setCell ⟨b, w, none⟩ (.int .i64 (ln F w : Nat))).ownsRow W.heap.size 3 1 (.slice (some ⟨b, 0, none⟩) 3 cap) 3 (enc1 (lst3 f)) := by rw [← HF.out]; exact hst
      have HST := Lib.hid hst
      have HBS : Hid (Below W.heap.size W (wr.setCell ⟨b, w, none⟩ (.int .i64 (ln F w : Nat)))) := HB.out.setCell hb1 _
      clear hown hst hcell
      go_wp2
      have R0 : ∀ (g : Nat → Int), Rch F f g 0 0 := fun g u hu y hy huy _ => by omega
      have HR0 := Lib.hid R0
      clear R0 cw fw q5
      go_loopw [9] (fun i' wr => ∃ (rd : Nat) (g : Nat → Int), rd ≤ 3 ∧ i' = .int .i64 rd ∧ Hid (wr.ownsRow W.heap.size 3 1 (.slice (some ⟨b, 0, none⟩) 3 cap) 3 (enc1 (lst3 g))) ∧ Hid (Below W.heap.size W wr) ∧ Hid (Btw F f g) ∧ Hid (1 ≤ rd → Ful F f g)) (fun i' _ => 3 - (intOf i').toNat)
      case atStart => exact ⟨0, f, by omega, rfl, HST, HBS, Btw.refl F f, fun h => by omega⟩
      case round =>
        clear HST HBS HB hsz
        obtain ⟨rd, g, hrd, rfl, HO, HB, HT, HFu⟩ := hrel
        by_cases hlt : rd < 3
        · have hlt' : (rd : Int) < 3 := by omega
          go_wp2
          go_loopw [10] (fun i' wr => ∃ (v : Nat) (g : Nat → Int), v ≤ 3 ∧ i' = .int .i64 v ∧ Hid (wr.ownsRow W.heap.size 3 1 (.slice (some ⟨b, 0, none⟩) 3 cap) 3 (enc1 (lst3 g))) ∧ Hid (Below W.heap.size W wr) ∧ Hid (Btw F f g) ∧ Hid (1 ≤ rd → Ful F f g) ∧ Hid (Rch F f g v 0)) (fun i' _ => 3 - (intOf i').toNat)
          case atStart => exact ⟨0, g, by omega, rfl, HO, HB, HT, HFu, HR0.out g⟩
          case round =>
            clear HO HB HT HFu g
            obtain ⟨v, g, hv, rfl, HO, HB, HT, HFu, HRc⟩ := hrel
            by_cases hv3 : v < 3
            · have hv3' : (v : Int) < 3 := by omega
              go_wp2
              go_loopw [11] (fun i' wr => ∃ (x : Nat) (g : Nat → Int), x ≤ 3 ∧ i' = .int .i64 x ∧ Hid (wr.ownsRow W.heap.size 3 1 (.slice (some ⟨b, 0, none⟩) 3 cap) 3 (enc1 (lst3 g))) ∧ Hid (Below W.heap.size W wr) ∧ Hid (Btw F f g) ∧ Hid (1 ≤ rd → Ful F f g) ∧ Hid (Rch F f g v x)) (fun i' _ => 3 - (intOf i').toNat)
              case atStart => exact ⟨0, g, by omega, rfl, HO, HB, HT, HFu, HRc⟩
              case round =>
                clear HO HB HT HFu HRc g
                obtain ⟨x, g, hx, rfl, HO, HB, HT, HFu, HRc⟩ := hrel
                have hcell := own_cells3 HO.out
                have hbt := HT.out v hv3
                have hnr := nw_rng HJ.out HKn.out hv3
                have hfn := HKn.out v hv3
                have cv := (hcell v hv3).1
                obtain ⟨z, hz⟩ : ∃ z, g v = z := ⟨_, rfl⟩
                rw [hz] at cv hbt
                by_cases hx3 : x < 3
                · have hx3' : (x : Int) < 3 := by omega
                  by_cases hp : 0 < z
                  · obtain ⟨n, hn⟩ : ∃ n : Nat, z = (n : Int) + 1 := ⟨(z - 1).toNat, by omega⟩
                    have h8 := HJ.out.2.1 v hv3
                    have hwr : IntKind.i64.wrap (z - 1) = (n : Int) := by rw [IntKind.wrap_i64]; omega
                    have hnl : n < ln F v := by omega
                    obtain ⟨b8, o8, c8, bA, oA, cA, aB, cB, ev, -, -, d1, d1n, d1m, d2, -, -, hrr⟩ := (H.out.below HB.out).entry (j := v) (i := n) (by rw [HJ.out.1]; exact hv3) hnl
                    rw [HJ.out.1] at ev
                    simp only [Value.slice.injEq, Option.some.injEq, Addr.mk.injEq, and_true] at ev
                    obtain ⟨⟨rfl, rfl⟩, -, rfl⟩ := ev
                    have hLc := (HJ.out.2.2.1 v hv3 n hnl).1
                    obtain ⟨b9, o9, c9, y, ev, -, m9, d3, HYY⟩ := hrr.num' hLc hx3
                    rw [hLc] at d2 ev
                    simp only [Value.slice.injEq] at ev
                    obtain ⟨rfl, -, rfl⟩ := ev
                    unfold maxLen at d1m m9
                    have cx := (hcell x hx3).1
                    have fx := (hcell x hx3).2
                    obtain ⟨u, hu⟩ : ∃ u, g x = u := ⟨_, rfl⟩
                    rw [hu] at cx
                    have hnl' : (n : Int) < (ln F v : Int) := by omega
                    have hgz : 0 < g v := by rw [hz]; exact hp
                    have hnn : (g v - 1).toNat = n := by rw [hz]; omega
                    have hck : ck F v n x = y := HYY.out
                    have HT' : Hid (Btw F f (upd1 g x (max u y))) := by
                      have := HT.out.step HJ.out HKn.out hv3 hx3 hgz
                      rw [hnn, hck, hu] at this
                      exact this
                    have HR' : Hid (Rch F f (upd1 g x (max u y)) v (x + 1)) := by
                      have := HRc.out.step HJ.out HKn.out HT.out hv3 hx3 hgz
                      rw [hnn, hck, hu] at this
                      exact this
                    have HF' : Hid (1 ≤ rd → Ful F f (upd1 g x (max u y))) := fun h => by rw [← hu]; exact (HFu.out h).step x y
                    have HO' : Hid ((wr.setCell ⟨b, x, none⟩ (.int .i64 (max u y))).ownsRow W.heap.size 3 1 (.slice (some ⟨b, 0, none⟩) 3 cap) 3 (enc1 (lst3 (upd1 g x (max u y))))) := by
                      have := (HO.out.stored x (.int .i64 (max u y))).1
                      rw [← lst3_set g hx3] at this
                      exact this
                    have HB' : Hid (Below W.heap.size W (wr.setCell ⟨b, x, none⟩ (.int .i64 (max u y)))) := HB.out.setCell hb1 _
                    clear hrr hLc hnn hgz hck hz hu hn hbt hnr hfn hcell HYY
                    by_cases huy : u < y
                    · rw [Int.max_eq_right (by omega)] at HT' HR' HF' HO' HB'
                      have HO'' := Lib.hid (own_below HO'.out (Below.refl _ _).drew)
                      have HB'' := Lib.hid HB'.out.drew
                      go_wp2
                      go_still_tail 23, (by kernel_rfl)
                      go_wp2
                      go_roundw
                      case rel => first | exact ⟨x + 1, upd1 g x y, by omega, by go_num, HO'', HB'', HT', HF', HR'⟩ | exact ⟨x + 1, by omega, by omega, upd1 g x y, HO'', HT', HF', HR'⟩ | ((repeat apply Exists.intro); exact ⟨⟨x + 1, upd1 g x y, by omega, by go_num, HO'', HB'', HT', HF', HR'⟩, rfl⟩)
                      case measure => simp [intOf]; omega
                    · rw [Int.max_eq_left (by omega)] at HT' HR' HF' HO' HB'
                      have HO'' := Lib.hid (own_below HO'.out (Below.refl _ _).drew)
                      have HB'' := Lib.hid HB'.out.drew
                      go_wp2
                      go_still_tail 23, (by kernel_rfl)
                      go_wp2
                      go_roundw
                      case rel => first | exact ⟨x + 1, upd1 g x u, by omega, by go_num, HO'', HB'', HT', HF', HR'⟩ | exact ⟨x + 1, by omega, by omega, upd1 g x u, HO'', HT', HF', HR'⟩ | ((repeat apply Exists.intro); exact ⟨⟨x + 1, upd1 g x u, by omega, by go_num, HO'', HB'', HT', HF', HR'⟩, rfl⟩)
                      case measure => simp [intOf]; omega
                  · have hRz := Lib.hid (Rch.zero HKn.out HT.out hv3 (by rw [hz]; exact hp) HRc.out)
                    have hp' : z ≤ 0 := by omega
                    clear hz hcell hbt hnr hfn hp
                    go_wp2
                    go_roundw
                    case rel => exact ⟨v + 1, g, by omega, by go_num, HO, HB, HT, HFu, hRz⟩
                    case measure => simp [intOf]; omega
                · obtain rfl : x = 3 := by omega
                  have hRz := Lib.hid (Rch.next HRc.out)
                  clear hz hcell hbt hnr hfn cv
                  go_wp2
                  go_roundw
                  case rel => exact ⟨v + 1, g, by omega, by go_num, HO, HB, HT, HFu, hRz⟩
                  case measure => simp [intOf]; omega
            · obtain rfl : v = 3 := by omega
              have HFz : Hid (1 ≤ rd + 1 → Ful F f g) := fun _ u hu => Int.le_of_eq (Rch.all HT.out HRc.out hu).symm
              go_wp2
              go_roundw
              case rel => exact ⟨rd + 1, g, by omega, by go_num, HO, HB, HT, HFz⟩
              case measure => simp [intOf]; omega
        · obtain rfl : rd = 3 := by omega
          have HE := Lib.hid (lst3_congr ((HFu.out (by omega)).eq HT.out))
          go_wp2
          go_ret
          exact ⟨_, rfl, by rw [← HE.out]; exact HO.out, HB.out⟩
end Go.Proofs.Ythnepmhkeceadaa
