/- Walks: ViewAt of the program. -/
import Derived.Test.YtedcolbbbohbaaaJxA
import Derived.Test.YtedcolbbbohbaaaJwB
import Derived.Maps.Own
import Derived.Maps.OwnSet
import Derived.Maps.OwnOps
import Derived.WalkArith
namespace Go.Proofs.Ytedcolbbbohbaaa
open Go.RowKit Go.Maps
theorem law3 : Keyed Try.prog 3 := int_keyed Try.underlying3
theorem zero3 (w : World) : (zeroValue 3).run Try.prog w = .ok (.int .i64 0) w := by kernel_rfl
/-- the map after the first n entries of the order -/
noncomputable def mpD (F : Fd) : Nat → DataW Unit
  | 0 => .map []
  | n + 1 => (mpD F n).put (.int .i64 (ent F (wk F n) (pst F n (wk F n))).2.1) (.lit (.int .i64 (ent F (wk F n) (pst F n (wk F n))).2.2))
theorem mpD_map (F : Fd) : ∀ n, IsMap (mpD F n)
  | 0 => isMap_empty
  | n + 1 => (mpD_map F n).put _ _
theorem mpD_at (F : Fd) (key : Int) (z : DataW Unit) : ∀ n, (mpD F n).atKey (.int .i64 key) z = match lastV F n key with
    | some v => .lit (.int .i64 v)
    | none => z
  | 0 => rfl
  | n + 1 => by
    unfold mpD lastV
    by_cases e : (ent F (wk F n) (pst F n (wk F n))).2.1 = key
    · rw [if_pos e, e, atKey_put_same (mpD_map F n) (show WideAt.IsKeyLit (.int .i64 key) from trivial)]
    · rw [if_neg e, atKey_put_other (fun h => e (by injection h with _ h2; first | exact h2 | exact h2.symm)), mpD_at F key z n]
theorem mpD_has (F : Fd) (key : Int) : ∀ n, has (mpD F n) (.int .i64 key) = (lastV F n key).isSome
  | 0 => rfl
  | n + 1 => by
    unfold mpD lastV
    by_cases e : (ent F (wk F n) (pst F n (wk F n))).2.1 = key
    · rw [if_pos e, e, has_put_same (mpD_map F n) (show WideAt.IsKeyLit (.int .i64 key) from trivial)]; rfl
    · rw [if_neg e, has_put_other (fun h => e (by injection h with _ h2; first | exact h2 | exact h2.symm)), mpD_has F key n]
theorem mpD_next {F : Fd} {k x y : Nat} (hx : wk F k = x ∧ ix F k = y) {c : List Int} {key val : Int} (he : (c, key, val) = ent F x y) : mpD F (k + 1) = (mpD F k).put (.int .i64 key) (.lit (.int .i64 val)) := by
  show (mpD F k).put _ _ = _
  rw [show pst F k (wk F k) = y from hx.2, hx.1, ← he]
def RefsPost (F : Fd) (W : World) (e : Ending) (W' : World) : Prop := ∃ a N cap, e = .returned (.slice a N cap) ∧ Hid (N = tot F) ∧ N ≤ 24 ∧ Below W.heap.size W W'
theorem refs_o {S : Nat → Prop} (F : Fd) (fv : Value) (W : World) (h : RdF S W fv F) (hj : JV F) : Calls Try.prog 54 #[fv] W (RefsPost F W) :=
  (refs_c F fv W h ⟨hj.1, hj.2.1⟩).mono fun _ _ ⟨v, he, ho, hb⟩ => by
    obtain ⟨a, cap, rfl⟩ := own_slice ho
    exact ⟨a, _, cap, he, rfsN_len F, by rw [rfsN_len]; exact tot_le hj, hb⟩
set_option maxRecDepth 100000 in
set_option maxHeartbeats 3200000 in
theorem viewAt_c {S : Nat → Prop} (F : Fd) (fv : Value) (n : Int) (W : World) (h : RdF S W fv F) :
    Calls Try.prog 26 #[fv, .int .i64 n] W (VaPost F n W) := by
  obtain ⟨a0, m0, c0, rfl, hm0, q1, q2⟩ : ∃ a m cap, fv = .slice a m cap ∧ m = F.length ∧ m ≤ cap ∧ cap ≤ maxLen := by
    obtain ⟨a, cap, rfl, h1, h2⟩ := h.shape; exact ⟨a, _, cap, rfl, rfl, h1, h2⟩
  unfold maxLen at q2
  have HM0 := Lib.hid hm0
  have H := Lib.hid h
  have NIL : Hid (∀ (w' : World), ¬ VaOk F n → Below W.heap.size W w' → VaPost F n W (.returned (.tuple #[.slice none 0 0, .bool false])) w') := fun w' hno hb =>
    ⟨_, ret_vb' (vaB_f hno).symm, by rw [vaL_f hno]; exact World.ownsRow_nil _ _ _ _, hb⟩
  clear h hm0
  have hmm := @run_makeMap Try.prog
  go_enter Try.func26, Try.ntmps26
  go_wp2_with fail
  refine (joinValid_c F _ _ H.out).mono ?_
  rintro e w1 ⟨rfl, hb1⟩
  have HB1 := Lib.hid hb1
  clear hb1
  by_cases hj : JV F
  · rw [jvB_t hj]
    have HJ := Lib.hid hj
    have hm3 : m0 = 3 := HM0.out.trans hj.1
    subst hm3
    clear hj
    go_wp2_with fail
    refine (refs_o F _ _ (H.out.below HB1.out) HJ.out).mono ?_
    rintro e w2 ⟨ar, RN, rc, rfl, HRN, hr24, hb2⟩
    have HB2 := Lib.hid (HB1.out.trans (hb2.mono HB1.out.size))
    clear hb2
    by_cases hn : 0 ≤ n ∧ n ≤ (RN : Int)
    · obtain ⟨k1, k2⟩ := hn
      obtain ⟨m, rfl⟩ := Int.eq_ofNat_of_zero_le k1
      have hmO : m ≤ RN := by omega
      have OK := Lib.hid (show VaOk F m from ⟨HJ.out, k1, by have := HRN.out; omega⟩)
      go_wp2_with fail
      refine (within_t m 0 RN _ k1 k2).mono ?_
      rintro e _ ⟨rfl, rfl⟩
      clear k1 k2
      obtain ⟨wm, hwm⟩ : ∃ wm, wm = w2.alloc (.map #[] 0) := ⟨_, rfl⟩
      have hbm : Below w2.heap.size w2 wm := by rw [hwm]; (repeat' (first | exact Below.refl _ _ | assumption | refine Below.drew ?_ | refine below_drewN ?_ _ | refine Below.alloc ?_ (by omega) _ | refine Below.alloc ?_ (by simp; omega) _ | refine Below.alloc ?_ (by simp) _ | refine Below.setCell ?_ (by omega) _ | refine Below.setCell ?_ (by simp; omega) _ | refine Below.setCell ?_ (by simp) _))
      have hown0 : wm.ownsMap Try.prog 3 (plainElem Try.prog 3) w2.heap.size 0 (mpD F 0) := by rw [hwm]; exact World.ownsMap_made _ _ _ _
      have hzm : wm.heap.size = w2.heap.size + 1 := by rw [hwm]; simp
      have HWM := Lib.hid hwm
      have HMm := Lib.hid hown0
      have HBm := Lib.hid (HB2.out.trans (hbm.mono HB2.out.size))
      have HZm := Lib.hid hzm
      clear hwm hbm hown0 hzm
      go_wp2_with fail
      rw [← HWM.out]
      refine (joinOrder_c F _ wm (H.out.below HBm.out)).mono ?_
      rintro e w4 ⟨ov, rfl, hown, hb4⟩
      obtain ⟨ON, hON⟩ : ∃ ON, (jo F).length = ON := ⟨_, rfl⟩
      rw [hON] at hown
      obtain ⟨-, ao, Oc, rfl, O1, O2, -⟩ := Rd.of_own hown
      have hmN : m ≤ ON := by rw [← hON, jo_len HJ.out]; have := HRN.out; omega
      have hmc : m ≤ Oc := by omega
      unfold maxLen at O2
      have HON := Lib.hid hON.symm
      have HOw := Lib.hid hown
      have HM4 := Lib.hid (HMm.out.kept (below_grown hb4 none) (by simp))
      have HB4 := Lib.hid (HBm.out.trans (hb4.mono HBm.out.size))
      have HG4 : Hid (w4.grownBy w4 (some w2.heap.size)) := World.grownBy.refl _ _
      have hz24 : w2.heap.size < w4.heap.size := by have := hb4.size; have := HZm.out; omega
      clear hown hb4 hON
      go_wp2
      go_loopw [31] (fun i' wr => ∃ k : Nat, k ≤ m ∧ i' = .int .i64 k ∧ Hid (wr.ownsMap Try.prog 3 (plainElem Try.prog 3) w2.heap.size k (mpD F k)) ∧ Hid (w4.grownBy wr (some w2.heap.size))) (fun i' _ => m - (intOf i').toNat)
      case atStart => exact ⟨0, Nat.zero_le _, rfl, HM4, HG4⟩
      case round =>
        clear HM4 HG4
        obtain ⟨k, hk, rfl, HM, HG⟩ := hrel
        have HBW := Lib.hid (HB4.out.grown HG.out HB4.out.size (fun b hb => by cases hb; exact HB2.out.size))
        by_cases hlt : k < m
        · have hlt' : (k : Int) < (m : Int) := by omega
          have hkO : k < ON := by omega
          have hne : ∀ b, (Value.slice ao ON Oc).ownBlock = some b → ¬ (some w2.heap.size = some b) := fun b hb e => by
            have := (HOw.out.lt b hb).1
            have := HZm.out
            simp at e; omega
          have hOk := own_chg HOw.out (Chg.of_grown HG.out) hne
          obtain ⟨g, o, x, y, rfl, d1, d2, HX, x3, yL⟩ := (show Ord F wr ao ON Oc from ⟨HON.out, Rd.of_own hOk⟩).at HJ.out hkO
          obtain ⟨b5, o5, c5, a6, c6, ev, -, -, q5, q6, q7, qr⟩ := (H.out.below HBW.out).feed (j := x) (by rw [HJ.out.1]; exact x3)
          rw [HJ.out.1] at ev
          simp only [Value.slice.injEq] at ev
          obtain ⟨rfl, -, rfl⟩ := ev
          unfold maxLen at q7
          have hx3' : (x : Int) < 3 := by omega
          have hyL' : (y : Int) < (ln F x : Int) := by omega
          obtain ⟨b8, o8, e, aB, cB, rfl, he, f2, f3, f4, hrr⟩ := qr.entry yL
          obtain ⟨c, key, val⟩ := e
          simp only [] at f2 f3 f4 hrr
          have hEO := HJ.out.2.2.1 x x3 y yL
          have hk9 : 0 ≤ key ∧ key ≤ 9 := by have := hEO.2.2.1; rw [show ent F x y = (c, key, val) from he.symm] at this; exact this
          have hv99 : 0 ≤ val ∧ val ≤ 99 := by have := hEO.2.2.2.1; rw [show ent F x y = (c, key, val) from he.symm] at this; exact this
          have HV := Lib.hid (mpD_next HX.out (show (c, key, val) = ent F x y from he))
          obtain ⟨cl, hcl⟩ : ∃ cl, c.length = cl := ⟨_, rfl⟩
          rw [hcl] at f2
          obtain ⟨L, hL⟩ : ∃ L, ln F x = L := ⟨_, rfl⟩
          rw [hL] at q5 q6 hyL'
          have z1 := World.block_lt_of_cell? wr _ d1
          have z2 := World.block_lt_of_cell? wr _ q5
          have z3 := World.block_lt_of_cell? wr _ f2
          have hkey : keyOf Try.prog 3 (.int .i64 key) = some (.int .i64 key) := keyOf_int_mk Try.underlying3 (WalkArith.wf_i64 (by omega))
          have hwv : (Lit.int .i64 val).wf = true := WalkArith.wf_i64 (by omega)
          clear hrr he qr hcl hL hOk hEO hk9 hv99
          go_wp2
          go_region
          go_wp2_with (first
            | (at_mapUpdate; refine wpList_mapUpdate_own (H := Unit) _ rfl _ _ _ 73 rfl 3 3 law3 Try.underlying73 _ w2.heap.size k _ rfl (HM.out.kept (below_grown (by (repeat' (first | exact Below.refl _ _ | assumption | refine Below.drew ?_ | refine below_drewN ?_ _ | refine Below.alloc ?_ (by omega) _ | refine Below.alloc ?_ (by simp; omega) _ | refine Below.alloc ?_ (by simp) _ | refine Below.setCell ?_ (by omega) _ | refine Below.setCell ?_ (by simp; omega) _ | refine Below.setCell ?_ (by simp) _))) none) (by simp)) (by unfold maxLen; omega) _ _ _ rfl rfl hkey _ [] (plainElem_int Try.underlying3 hwv) ?_)
            | go_in)
          intro w9 hown9 hg9
          have HG9 := Lib.hid (grown_trans (grown_trans HG.out (below_grown (by (repeat' (first | exact Below.refl _ _ | assumption | refine Below.drew ?_ | refine below_drewN ?_ _ | refine Below.alloc ?_ (by omega) _ | refine Below.alloc ?_ (by simp; omega) _ | refine Below.alloc ?_ (by simp) _ | refine Below.setCell ?_ (by omega) _ | refine Below.setCell ?_ (by simp; omega) _ | refine Below.setCell ?_ (by simp) _))) (some w2.heap.size))) hg9)
          rw [← HV.out] at hown9
          have HM9 := Lib.hid hown9
          clear hown9 hg9 d1 d2 q5 f2 f3 f4
          go_wp2
          go_end0
          go_wp2
          go_roundw
          case rel => exact ⟨k + 1, by omega, by go_num, HM9, HG9⟩
          case measure => simp [intOf]; omega
        · obtain rfl : k = m := by omega
          obtain ⟨wi, hwi⟩ : ∃ wi : World, wi = wr := ⟨_, rfl⟩
          have hown0 := own_empty wr wr.heap.size 43 2 (Nat.le_refl _)
          have HB0 : Hid (Below wr.heap.size wr (wr.alloc (.cells #[] 43))) := (Below.refl _ _).alloc (Nat.le_refl _) _
          go_wp2
          go_loopw [10, 53] (fun o i' wq => ∃ j : Nat, j ≤ 10 ∧ i' = .int .i64 j ∧ Hid (wq.ownsRow wi.heap.size 43 2 o (vwL (lastV F k) j).length (enc2 (vwL (lastV F k) j))) ∧ Hid (Below wi.heap.size wi wq)) (fun _ i' _ => 10 - (intOf i').toNat)
          case atStart => exact ⟨0, Nat.zero_le _, rfl, by subst hwi; exact hown0, by subst hwi; exact HB0⟩
          case round =>
            subst hwi
            clear hown0 HB0
            obtain ⟨j, hj10, rfl, HOv, HBr⟩ := hrel
            have HMr := Lib.hid (HM.out.kept (below_grown HBr.out none) (by simp))
            have HTr := Lib.hid (HBW.out.trans (HBr.out.mono HBW.out.size))
            by_cases hlt2 : j < 10
            · have hlt2' : (j : Int) < 10 := by omega
              have hkey : keyOf Try.prog 3 (.int .i64 (j : Int)) = some (.int .i64 (j : Int)) := keyOf_int_mk Try.underlying3 (WalkArith.wf_i64 (by omega))
              go_wp2_with (first
                | (at_lookup; refine wpList_lookup_own_ok_int (H := Unit) _ rfl _ _ 73 rfl 3 3 .i64 law3 Try.underlying73 Try.underlying3 (zero3 _) w2.heap.size k _ rfl HMr.out _ _ rfl hkey ?_))
              intro cv hat hwc
              rw [mpD_has]
              rw [mpD_at] at hat
              have HOj := HOv.out
              obtain ⟨ls, hls⟩ : ∃ ls, vwL (lastV F k) j = ls := ⟨_, rfl⟩
              have hl10 : ls.length ≤ j := by rw [← hls]; exact vwL_len _ _
              rw [hls] at HOj
              have HLS := Lib.hid hls
              clear hls hkey hwc
              cases hlv : lastV F k j with
              | none =>
                have HE : Hid (vwL (lastV F k) (j + 1) = ls) := by
                  show vwL _ _ ++ _ = _
                  rw [HLS.out, hlv]; simp
                clear hat hlv
                go_wp2
                go_roundw
                case rel => exact ⟨j + 1, by omega, by go_num, by rw [HE.out]; exact HOj, HBr⟩
                case measure => simp [intOf]; omega
              | some v =>
                have HE : Hid (vwL (lastV F k) (j + 1) = ls ++ [((j : Int), v)]) := by
                  show vwL _ _ ++ _ = _
                  rw [HLS.out, hlv]
                rw [hlv] at hat
                obtain rfl : v = cv := by simpa using hat
                have hsz := HBr.out.size
                clear hat hlv
                go_wp2_with (at_builtin; refine wpList_app2 _ rfl _ _ 38 rfl wi.heap.size 43 Try.underlying38 info_pairV _ ls rfl HOj (j : Int) v _ _ rfl (by omega) hsz ?_)
                intro v' w6 qs hqs hql hown6 hg6
                have HB6 := Lib.hid (HBr.out.grown hg6 hsz (fun b hb => (HOj.lt b hb).1))
                have hqe : qs = vwL (lastV F k) (j + 1) := by rw [hqs.out, HE.out]
                rw [hqe] at hown6
                have HO6 := Lib.hid hown6
                clear hown6 hg6 hqe hqs HOj
                go_wp2
                go_roundw
                case rel => exact ⟨j + 1, by omega, by go_num, HO6, HB6⟩
                case measure => simp [intOf]; omega
            · obtain rfl : j = 10 := by omega
              have HE := Lib.hid (vaL_t OK.out)
              go_wp2
              go_ret2
              exact ⟨_, ret_vb' (vaB_t OK.out).symm, by rw [HE.out, Int.toNat_natCast]; exact own_base HOv.out HBW.out.size, HTr.out⟩
    · have hn' : n < 0 ∨ (RN : Int) < n := by omega
      have NO := Lib.hid (show ¬ VaOk F n from fun hh => by have := HRN.out; have h1 := hh.2.1; have h2 := hh.2.2; omega)
      clear hn
      go_wp2_with fail
      refine (within_f n 0 RN _ hn').mono ?_
      rintro e _ ⟨rfl, rfl⟩
      clear hn'
      go_wp2
      go_ret2
      exact NIL.out _ NO.out HB2.out
  · rw [jvB_f hj]
    have NO := Lib.hid (show ¬ VaOk F n from fun hh => hj hh.1)
    clear hj
    go_wp2
    go_ret2
    exact NIL.out _ NO.out HB1.out
end Go.Proofs.Ytedcolbbbohbaaa
