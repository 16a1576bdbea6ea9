/- Walks: the places of all entries; whether an entry is valid by itself, and a pair. -/
import Derived.Test.YthnepmhkeceadaaJwA
import Derived.StillTailTactics
import Derived.Outline
namespace Go.Proofs.Ythnepmhkeceadaa
open Go.RowKit
theorem info_ref : (Try.prog.info? 37).map (fun i => (i.zero, i.size, i.bytes)) = some (some zero2, 2, 16) := by kernel_rfl
def Shp (F : Fd) : Prop := F.length = 3 ∧ ∀ w, w < 3 → ln F w ≤ 8
set_option maxHeartbeats 800000 in
theorem refs_c {S : Nat → Prop} (F : Fd) (fv : Value) (W : World) (h : RdF S W fv F) (hs : Shp F) :
    Calls Try.prog 44 #[fv] W (RetOwn 37 2 (rfsN F 3).length (enc2 (rfsN F 3)) W) := by
  have HS := Lib.hid hs
  obtain ⟨a, cap, rfl, h1, h2⟩ := h.shape
  unfold maxLen at h2
  rw [hs.1] at h1 h
  have H := Lib.hid h
  rw [hs.1]
  clear h hs
  have hown0 := own_empty W W.heap.size 37 2 (Nat.le_refl _)
  have hb0 := (Below.refl W.heap.size W).alloc (Nat.le_refl _) (.cells #[] 37)
  go_enter Try.func44, Try.ntmps44
  go_wp2
  go_loopw [3, 10] (fun o i wr => ∃ k : Nat, k ≤ 3 ∧ i = .int .i64 k ∧ wr.ownsRow W.heap.size 37 2 o (rfsN F k).length (enc2 (rfsN F k)) ∧ Below W.heap.size W wr) (fun _ i _ => 3 - (intOf i).toNat)
  case atStart => exact ⟨0, Nat.zero_le _, rfl, hown0, hb0⟩
  case round =>
    clear hown0 hb0
    obtain ⟨k, hk, rfl, hown, hb⟩ := hrel
    have hle := rfsN_le HS.out.2 k hk
    by_cases hlt : k < 3
    · obtain ⟨b, off, cap', a2, cap2, e1, -, -, c1, g1, g2, hr⟩ := (H.out.below hb).feed (j := k) (by rw [HS.out.1]; exact hlt)
      simp only [Value.slice.injEq] at e1
      obtain ⟨rfl, -, rfl⟩ := e1
      have h8 := HS.out.2 k hlt
      unfold maxLen at g2
      clear hr
      have hlt3 : (k : Int) < 3 := by omega
      obtain ⟨X, hX⟩ : ∃ X, rfsN F k = X := ⟨_, rfl⟩
      rw [hX] at hown hle
      have HX := Lib.hid hX
      clear hX
      go_wp2
      go_loopw [3, 17] (fun o i wr => ∃ (j : Nat) (Y : List P2), j ≤ ln F k ∧ i = .int .i64 j ∧ wr.ownsRow W.heap.size 37 2 o Y.length (enc2 Y) ∧ Below W.heap.size W wr ∧ Hid (Y = X ++ rng1 k j) ∧ Y.length = X.length + j) (fun _ i _ => ln F k - (intOf i).toNat)
      case atStart => exact ⟨0, X, Nat.zero_le _, rfl, hown, hb, by show _ = _; simp [rng1], rfl⟩
      case round =>
        clear hown hb c1
        obtain ⟨j, Y, hj, rfl, hown, hb, HY, hyl⟩ := hrel
        have hsz := hb.size
        by_cases hlt2 : j < ln F k
        · go_wp2_with (at_builtin; refine wpList_app2 _ rfl _ _ 47 rfl W.heap.size 37 Try.underlying47 info_ref _ Y rfl hown _ _ _ _ rfl (by omega) hsz ?_)
          intro v' w4 qs hqs hql hown4 hg4
          have hb4 := hb.grown hg4 hsz (fun k hk => (hown.lt k hk).1)
          have HQ : Hid (qs = X ++ rng1 k (j + 1)) := by show _ = _; rw [hqs.out, HY.out, rng1_succ, List.append_assoc]
          have hql2 : qs.length = X.length + (j + 1) := by rw [hqs.out]; simp; omega
          clear hown hb hg4 hqs
          go_wp2
          go_roundw
          case rel => exact ⟨j + 1, qs, by omega, by go_num, hown4, hb4, HQ, hql2⟩
          case measure => simp [intOf]; omega
        · obtain rfl : j = ln F k := by omega
          have e2 : rfsN F (k + 1) = Y := by rw [HY.out, ← HX.out]; rfl
          have HE := Lib.hid e2
          clear e2
          go_wp2
          go_roundw
          case rel => exact ⟨k + 1, by omega, by go_num, by rw [HE.out]; exact hown, hb⟩
          case measure => simp [intOf]; omega
    · obtain rfl : k = 3 := by omega
      go_wp2
      go_ret
      exact ⟨_, rfl, hown, hb⟩
open Classical in
noncomputable def evB (F : Fd) (w i : Nat) : Bool := decide (EntOk F w i)
theorem evB_t {F : Fd} {w i : Nat} (h : EntOk F w i) : evB F w i = true := by unfold evB; simp [h]
theorem evB_f {F : Fd} {w i : Nat} (h : ¬ EntOk F w i) : evB F w i = false := by unfold evB; simp [h]
set_option maxHeartbeats 1600000 in
theorem entryValid_c {S : Nat → Prop} (F : Fd) (fv : Value) (w i : Nat) (W : World) (h : RdF S W fv F) (hs : Shp F) (hw : w < 3) (hi : i < ln F w) :
    Calls Try.prog 45 #[fv, .agg #[.int .i64 w, .int .i64 i]] W (SeesPost (evB F w i) W) := by
  obtain ⟨b, off, cap, b2, off2, cap2, a3, cap3, rfl, h1, h2, c1, h3, h4, c2, c3, c4, hr⟩ := h.all.entry (by rw [hs.1]; exact hw) hi
  have HR := Lib.hid hr
  obtain ⟨L, hL⟩ : ∃ L, (ent F w i).1.length = L := ⟨_, rfl⟩
  obtain ⟨key, hkey⟩ : ∃ L, (ent F w i).2.1 = L := ⟨_, rfl⟩
  obtain ⟨val, hval⟩ : ∃ L, (ent F w i).2.2 = L := ⟨_, rfl⟩
  rw [hkey] at c3
  rw [hval] at c4
  rw [hL] at c2
  rw [hs.1] at h1 h ⊢
  have H := Lib.hid h
  have HE := Lib.hid (And.intro hL (And.intro hkey hval))
  have HS := Lib.hid hs
  unfold maxLen at h2 h4
  have z1 := World.new_ne W _ c1
  have z2 := World.new_ne W _ c2
  clear h hr hL hkey hval hs
  have hw' : (w : Int) < 3 := by omega
  have hi' : (i : Int) < (ln F w : Int) := by omega
  go_enter Try.func45, Try.ntmps45
  go_wp2
  go_region_held3 (fun w' => w'.cell? ⟨W.heap.size, 0, none⟩ = some (.int .i64 w) ∧ w'.cell? ⟨W.heap.size, 1, none⟩ = some (.int .i64 i) ∧ w'.cell? ⟨b, off + w, none⟩ = some (.slice (some ⟨b2, off2, none⟩) (ln F w) cap2) ∧ w'.cell? ⟨b2, off2 + i * 3, none⟩ = some (.slice a3 L cap3) ∧ w'.cell? ⟨b2, off2 + i * 3 + 1, none⟩ = some (.int .i64 key) ∧ w'.cell? ⟨b2, off2 + i * 3 + 2, none⟩ = some (.int .i64 val)) (go_keep) (fail)
  go_wp2
  obtain ⟨W2, hW2⟩ : ∃ W2, W2 = ((W.alloc (.cells #[.int .i64 w, .int .i64 i] 37)).alloc (.cells #[.slice a3 L cap3, .int .i64 key, .int .i64 val] 32)).drew := ⟨_, rfl⟩
  rw [← hW2]
  have x0 : W2.cell? ⟨W.heap.size, 0, none⟩ = some (.int .i64 w) := by rw [hW2]; simp
  have x1 : W2.cell? ⟨W.heap.size, 1, none⟩ = some (.int .i64 i) := by rw [hW2]; simp
  have y0 : W2.cell? ⟨W.heap.size + 1, 0, none⟩ = some (.slice a3 L cap3) := by rw [hW2]; simp
  have y1 : W2.cell? ⟨W.heap.size + 1, 1, none⟩ = some (.int .i64 key) := by rw [hW2]; simp
  have y2 : W2.cell? ⟨W.heap.size + 1, 2, none⟩ = some (.int .i64 val) := by rw [hW2]; simp
  have hB2 : Below W.heap.size W W2 := by rw [hW2]; (repeat' (first | exact Below.refl _ _ | assumption | refine Below.drew ?_ | refine below_drewN ?_ _ | refine Below.alloc ?_ (by omega) _ | refine Below.alloc ?_ (by simp; omega) _ | refine Below.alloc ?_ (by simp) _ | refine Below.setCell ?_ (by omega) _ | refine Below.setCell ?_ (by simp; omega) _ | refine Below.setCell ?_ (by simp) _))
  have HB := Lib.hid hB2
  have HR2 := Lib.hid (HR.out.below hB2)
  have HF2 := Lib.hid (H.out.below hB2)
  clear hW2 hB2 HR H c1 c2 c3 c4
  by_cases e1 : L = 3
  · subst e1
    obtain ⟨b3, o3, c3', z, ev, q1, q2, q3, HZ⟩ := HR2.out.num' HE.out.1 hw
    simp only [Value.slice.injEq] at ev
    obtain ⟨rfl, -, rfl⟩ := ev
    unfold maxLen at q2
    have hw1 : IntKind.i64.wrap ((i : Int) + 1) = (i : Int) + 1 := by rw [IntKind.wrap_i64]; have := HS.out.2 w hw; omega
    by_cases e2 : z = (i : Int) + 1
    · subst e2
      by_cases e3 : 0 ≤ key ∧ key ≤ 9
      · obtain ⟨k1, k2⟩ := e3
        by_cases e4 : 0 ≤ val ∧ val ≤ 99
        · obtain ⟨v1, v2⟩ := e4
          go_quiet ((first | exact within_qt _ _ _ _ _ (by assumption) (by assumption)))
          go_wp2
          have HV := Lib.hid (And.intro k1 (And.intro k2 (And.intro v1 v2)))
          clear k1 k2 v1 v2
          go_loop [48] (fun i' => ∃ v : Nat, v ≤ 3 ∧ i' = .int .i64 v ∧ Hid (∀ u, u < v → 0 ≤ ck F w i u ∧ ck F w i u ≤ (ln F u : Int))) (fun i' => 3 - (intOf i').toNat)
          case atStart => exact ⟨0, Nat.zero_le _, rfl, fun u hu => absurd hu (Nat.not_lt_zero _)⟩
          case round =>
            obtain ⟨v, hv, rfl, HN⟩ := hrel
            by_cases hlt : v < 3
            · obtain ⟨b4, o4, c4', y, ev, -, -, q4, HY⟩ := HR2.out.num' HE.out.1 hlt
              simp only [Value.slice.injEq, Option.some.injEq, Addr.mk.injEq, and_true] at ev
              obtain ⟨⟨rfl, rfl⟩, -, rfl⟩ := ev
              obtain ⟨b5, o5, c5', a6, c6, ev, -, -, q5, q6, q7, -⟩ := HF2.out.feed (j := v) (by rw [HS.out.1]; exact hlt)
              simp only [Value.slice.injEq, Option.some.injEq, Addr.mk.injEq, and_true] at ev
              obtain ⟨⟨rfl, rfl⟩, -, rfl⟩ := ev
              unfold maxLen at q7
              by_cases hyr : 0 ≤ y ∧ y ≤ (ln F v : Int)
              · obtain ⟨y1', y2'⟩ := hyr
                have HYR := Lib.hid (And.intro y1' y2')
                go_wp2_with fail
                refine (within_t y 0 (ln F v : Int) _ y1' y2').mono ?_
                rintro e _ ⟨rfl, rfl⟩
                clear y1' y2'
                go_wp2
                go_round
                case rel =>
                  refine ⟨v + 1, by omega, by go_num, fun u hu => ?_⟩
                  by_cases e : u = v
                  · subst e; have : ck F w i u = y := HY.out; rw [this]; exact HYR.out
                  · exact HN.out u (by omega)
                case measure => simp [intOf]; omega
              · have hyr' : y < 0 ∨ (ln F v : Int) < y := by omega
                clear hyr
                go_wp2_with fail
                refine (within_f y 0 (ln F v : Int) _ hyr').mono ?_
                rintro e _ ⟨rfl, rfl⟩
                have HYR := Lib.hid hyr'
                clear hyr'
                go_wp2
                go_ret
                exact ⟨ret_b (evB_f fun hh => by have h1 := hh.2.2.2.2 v hlt; have : ck F w i v = y := HY.out; rw [this] at h1; have := HYR.out; omega).symm, by have := HB.out; (repeat' (first | exact Below.refl _ _ | assumption | refine Below.drew ?_ | refine below_drewN ?_ _ | refine Below.alloc ?_ (by omega) _ | refine Below.alloc ?_ (by simp; omega) _ | refine Below.alloc ?_ (by simp) _ | refine Below.setCell ?_ (by omega) _ | refine Below.setCell ?_ (by simp; omega) _ | refine Below.setCell ?_ (by simp) _))⟩
            · obtain rfl : v = 3 := by omega
              have hT := Lib.hid (evB_t (F := F) (w := w) (i := i) ⟨HE.out.1, HZ.out, by rw [HE.out.2.1]; exact ⟨HV.out.1, HV.out.2.1⟩, by rw [HE.out.2.2]; exact HV.out.2.2, HN.out⟩)
              go_wp2
              go_ret
              exact ⟨ret_b hT.out.symm, by have := HB.out; (repeat' (first | exact Below.refl _ _ | assumption | refine Below.drew ?_ | refine below_drewN ?_ _ | refine Below.alloc ?_ (by omega) _ | refine Below.alloc ?_ (by simp; omega) _ | refine Below.alloc ?_ (by simp) _ | refine Below.setCell ?_ (by omega) _ | refine Below.setCell ?_ (by simp; omega) _ | refine Below.setCell ?_ (by simp) _))⟩
        · have hv : val < 0 ∨ 99 < val := by omega
          clear e4
          go_quiet ((first | exact within_qt _ _ _ _ _ (by assumption) (by assumption) | exact within_qf _ _ _ _ _ hv))
          go_wp2
          go_ret
          exact ⟨ret_b (evB_f fun hh => by have := hh.2.2.2.1; rw [HE.out.2.2] at this; omega).symm, by have := HB.out; (repeat' (first | exact Below.refl _ _ | assumption | refine Below.drew ?_ | refine below_drewN ?_ _ | refine Below.alloc ?_ (by omega) _ | refine Below.alloc ?_ (by simp; omega) _ | refine Below.alloc ?_ (by simp) _ | refine Below.setCell ?_ (by omega) _ | refine Below.setCell ?_ (by simp; omega) _ | refine Below.setCell ?_ (by simp) _))⟩
      · have hv : key < 0 ∨ 9 < key := by omega
        clear e3
        go_quiet ((first | exact within_qf _ _ _ _ _ hv))
        go_wp2
        go_ret
        exact ⟨ret_b (evB_f fun hh => by have := hh.2.2.1; rw [HE.out.2.1] at this; omega).symm, by have := HB.out; (repeat' (first | exact Below.refl _ _ | assumption | refine Below.drew ?_ | refine below_drewN ?_ _ | refine Below.alloc ?_ (by omega) _ | refine Below.alloc ?_ (by simp; omega) _ | refine Below.alloc ?_ (by simp) _ | refine Below.setCell ?_ (by omega) _ | refine Below.setCell ?_ (by simp; omega) _ | refine Below.setCell ?_ (by simp) _))⟩
    · have e2' : (z == (i : Int) + 1) = false := by rw [beq_eq_false_iff_ne]; exact e2
      have e2'' : (z != (i : Int) + 1) = true := by rw [bne_iff_ne]; exact e2
      have HN := Lib.hid e2
      clear e2
      go_quiet (fail)
      go_wp2
      go_ret
      exact ⟨ret_b (evB_f fun hh => HN.out (HZ.out.symm.trans hh.2.1)).symm, by have := HB.out; (repeat' (first | exact Below.refl _ _ | assumption | refine Below.drew ?_ | refine below_drewN ?_ _ | refine Below.alloc ?_ (by omega) _ | refine Below.alloc ?_ (by simp; omega) _ | refine Below.alloc ?_ (by simp) _ | refine Below.setCell ?_ (by omega) _ | refine Below.setCell ?_ (by simp; omega) _ | refine Below.setCell ?_ (by simp) _))⟩
  · have hf := Lib.hid (evB_f (F := F) (w := w) (i := i) (fun hh => e1 (HE.out.1 ▸ hh.1)))
    have e1' : ((L : Int) == 3) = false := by rw [beq_eq_false_iff_ne]; omega
    have e1'' : ((L : Int) != 3) = true := by simp; omega
    clear e1
    go_quiet (fail)
    go_wp2
    go_ret
    exact ⟨ret_b hf.out.symm, by have := HB.out; (repeat' (first | exact Below.refl _ _ | assumption | refine Below.drew ?_ | refine below_drewN ?_ _ | refine Below.alloc ?_ (by omega) _ | refine Below.alloc ?_ (by simp; omega) _ | refine Below.alloc ?_ (by simp) _ | refine Below.setCell ?_ (by omega) _ | refine Below.setCell ?_ (by simp; omega) _ | refine Below.setCell ?_ (by simp) _))⟩
end Go.Proofs.Ythnepmhkeceadaa
