/- Walks: copies of numbers and of entries (the program). -/
import Derived.Test.YthnepmhkeceadaaJwM
import Derived.Test.YthnepmhkeceadaaStep
namespace Go.Proofs.Ythnepmhkeceadaa
open Go.RowKit
set_option maxHeartbeats 800000 in
theorem cloneInt_c {S : Nat → Prop} (v : Value) (ps : List Int) (n : Nat) (w : World) (h : RdS S 1 w v n (enc1 ps)) (hp : ps.length = n) (hn : n ≤ 1048576) :
    Calls Try.prog 37 #[v] w (RetOwn 3 1 n (enc1 ps) w) := by
  have HR := h
  obtain ⟨a1, c1, rfl, h1, m1⟩ := h.shape
  unfold maxLen at m1
  obtain ⟨i0, hi, hz0, hz1, hz2⟩ := info_parts info_int0
  go_enter Try.func37, Try.ntmps37
  go_wp2_with (at_make; refine wpList_make_own _ rfl _ _ 24 rfl w.heap.size 3 i0 (.int .i64 0) 1 Try.underlying24 hi hz0 hz1 .i64 .i64 _ n rfl rfl rfl ?c1 ?c2 ?c3 ?_)
  case c1 => rw [hz2]; omega
  case c2 => unfold maxLen; omega
  case c3 => simp
  intro w1 hown hgrow
  have hb1 := grown_below hgrow (Nat.le_refl _) (fun k hk => by cases hk)
  have hsz := hb1.size
  have HR1 := HR.below hb1
  clear hz0 hz1 hz2 hi HR
  go_wp2_with (at_builtin; refine wpList_apps1 (S := S) _ rfl _ _ 24 rfl w.heap.size 3 Try.underlying24 info_int0 _ 0 [] rfl rfl hown _ n ps hp rfl HR1 (by omega) hsz ?_)
  intro v' w4 hown4 hg4
  have hb4 := hb1.grown hg4 hsz (fun k hk => (hown.lt k hk).1)
  clear hown hb1 hg4
  go_wp2
  go_ret
  exact ⟨_, rfl, hown4, hb4⟩
/-- one entry of a row -/
theorem RdR.entry {S : Nat → Prop} {w : World} {a : Option Addr} {n cap : Nat} {es : List Ent} (h : RdR S w (.slice a n cap) es) {i : Nat} (hi : i < n) :
    ∃ b off e a3 cap3, a = some ⟨b, off, none⟩ ∧ e = es.getD i e0 ∧ w.cell? ⟨b, off + i * 3, none⟩ = some (.slice a3 e.1.length cap3) ∧ w.cell? ⟨b, off + i * 3 + 1, none⟩ = some (.int .i64 e.2.1) ∧ w.cell? ⟨b, off + i * 3 + 2, none⟩ = some (.int .i64 e.2.2) ∧
      RdS S 1 w (.slice a3 e.1.length cap3) e.1.length (enc1 e.1) := by
  obtain ⟨-, a', cap', e, -, -, h3⟩ := h
  simp only [Value.slice.injEq] at e
  obtain ⟨rfl, rfl, rfl⟩ := e
  obtain ⟨b, off, rfl, hc⟩ := h3 (by omega)
  obtain ⟨cv, ⟨-, c1⟩, hr, ⟨-, c2⟩, -, c3⟩ := hc i hi
  have hr' := hr
  obtain ⟨-, -, a3, cap3, rfl, -⟩ := hr
  exact ⟨b, off, _, a3, cap3, rfl, rfl, c1, c2, c3, hr'⟩
set_option maxHeartbeats 3200000 in
theorem copyFeeds_c {S : Nat → Prop} (F : Fd) (fv : Value) (W : World) (h : RdF S W fv F) (hj : JV F) :
    Calls Try.prog 39 #[fv] W (RetF F W) := by
  have HJ := Lib.hid hj
  obtain ⟨a0, cap0, rfl, q1, q2⟩ := h.shape
  rw [hj.1] at q1 h ⊢
  unfold maxLen at q2
  have H := Lib.hid h
  clear h hj
  obtain ⟨i0, hi, hz0, hz1, hz2⟩ := info_parts info_entry
  have HI := Lib.hid (And.intro hi (And.intro hz0 (And.intro hz1 hz2)))
  clear hi hz0 hz1 hz2
  have HO0 : Hid (OwnF (fun b => W.heap.size ≤ b) (W.alloc (.cells #[] 30)) (.slice (some ⟨W.heap.size, 0, none⟩) 0 0) (F.take 0)) := OwnF.nil (own_zero (own_empty W W.heap.size 30 1 (Nat.le_refl _))) (fun b hb => by simp [Value.ownBlock] at hb; omega)
  have HB0 : Hid (Below W.heap.size W (W.alloc (.cells #[] 30))) := (Below.refl _ _).alloc (Nat.le_refl _) _
  go_enter Try.func39, Try.ntmps39
  go_wp2
  go_loopw [3, 12] (fun o i' wr => ∃ (v : Nat), v ≤ 3 ∧ i' = .int .i64 v ∧ Hid (OwnF (fun b => W.heap.size ≤ b) wr o (F.take v)) ∧ Hid (Below W.heap.size W wr)) (fun _ i' _ => 3 - (intOf i').toNat)
  case atStart => exact ⟨0, Nat.zero_le _, rfl, HO0, HB0⟩
  case round =>
    clear HO0 HB0
    obtain ⟨v, hv, rfl, HO, HB⟩ := hrel
    by_cases hlt : v < 3
    · have hlt' : (v : Int) < 3 := by omega
      obtain ⟨wo, hwo⟩ : ∃ wo : World, wo = wr := ⟨_, rfl⟩
      have h8 := HJ.out.2.1 v hlt
      obtain ⟨b5, o5, c5, a6, c6, ev, -, -, q5, q6, q7, qr⟩ := (H.out.below HB.out).feed (j := v) (by rw [HJ.out.1]; exact hlt)
      rw [HJ.out.1] at ev
      simp only [Value.slice.injEq] at ev
      obtain ⟨rfl, -, rfl⟩ := ev
      unfold maxLen at q7
      obtain ⟨L, hL⟩ : ∃ L, ln F v = L := ⟨_, rfl⟩
      rw [hL] at q5 q6 h8 qr
      have HL := Lib.hid hL
      have QR := Lib.hid qr
      clear hL qr
      have hLw : IntKind.i64.wrap ((L : Int) + 1) = ((L + 1 : Nat) : Int) := by rw [IntKind.wrap_i64]; omega
      go_wp2_with (at_make; refine wpList_make_own _ rfl _ _ 30 rfl wr.heap.size 32 i0 zeroE 3 Try.underlying30 HI.out.1 HI.out.2.1 HI.out.2.2.1 .i64 .i64 _ (L + 1) rfl rfl rfl ?c1 ?c2 ?c3 ?_)
      case c1 => rw [HI.out.2.2.2]; omega
      case c2 => unfold maxLen; omega
      case c3 => simp
      intro w1 hown hgrow
      have hb1 := grown_below hgrow (Nat.le_refl _) (fun k hk => by cases hk)
      have HR0 : Hid (OwnR (fun b => wr.heap.size ≤ b) w1 (.slice (some ⟨wr.heap.size, 0, none⟩) 0 (L + 1)) ((F.getD v []).take 0)) := OwnR.nil (own_zero hown) (fun b hb => by simp [Value.ownBlock] at hb; omega)
      have HBr0 := Lib.hid hb1
      clear hown hgrow hb1 q5
      go_wp2
      go_loopw [6, 22] (fun o i' wr => ∃ (i : Nat), i ≤ L ∧ i' = .int .i64 i ∧ Hid (OwnR (fun b => wo.heap.size ≤ b) wr o ((F.getD v []).take i)) ∧ Hid (Below wo.heap.size wo wr)) (fun _ i' _ => L - (intOf i').toNat)
      case atStart => exact ⟨0, Nat.zero_le _, rfl, by subst hwo; exact HR0, by subst hwo; exact HBr0⟩
      case round =>
        subst hwo
        clear HR0 HBr0
        obtain ⟨i, hi, rfl, HR, HBi⟩ := hrel
        have HBW := Lib.hid (HB.out.trans (HBi.out.mono HB.out.size))
        by_cases hil : i < L
        · obtain ⟨b8, o8, e, aB, cB, rfl, he, d2, d3, d4, hrr⟩ := (QR.out.below HBi.out).entry hil
          have hLc := (HJ.out.2.2.1 v hlt i (by rw [HL.out]; exact hil)).1
          rw [show ent F v i = e from he.symm] at hLc
          obtain ⟨c, key, val⟩ := e
          simp only [] at d2 d3 d4 hrr hLc
          rw [hLc] at d2 hrr
          have HE : Hid ((F.getD v []).take (i + 1) = (F.getD v []).take i ++ [(c, key, val)]) := by
            show _ = _
            rw [take_snoc_getD _ i e0 (by have := HL.out; unfold ln at this; omega), ← he]
          have HLc := Lib.hid hLc
          have HRR := Lib.hid hrr
          have hil' : (i : Int) < (L : Int) := by omega
          have hlen : ((F.getD v []).take i).length = i := by rw [List.length_take]; have := HL.out; unfold ln at this; omega
          have HLn := Lib.hid hlen
          have HRs := Lib.hid (HR.out.sub (S' := fun b => wo.heap.size ≤ b ∧ b < wr.heap.size) fun b hb hh => ⟨hh, hb⟩)
          have HBk := Lib.hid (fun b hb => (HR.out.blk b hb).1)
          obtain ⟨wA, hwA⟩ : ∃ wA, wA = wr.alloc (.cells #[.slice aB 3 cB, .int .i64 key, .int .i64 val] 32) := ⟨_, rfl⟩
          have hbA : Below wr.heap.size wr wA := by rw [hwA]; (repeat' (first | exact Below.refl _ _ | assumption | refine Below.drew ?_ | refine below_drewN ?_ _ | refine Below.alloc ?_ (by omega) _ | refine Below.alloc ?_ (by simp; omega) _ | refine Below.alloc ?_ (by simp) _ | refine Below.setCell ?_ (by omega) _ | refine Below.setCell ?_ (by simp; omega) _ | refine Below.setCell ?_ (by simp) _))
          have x0 : wA.cell? ⟨wr.heap.size, 0, none⟩ = some (.slice aB 3 cB) := by rw [hwA]; simp
          have x1 : wA.cell? ⟨wr.heap.size, 1, none⟩ = some (.int .i64 key) := by rw [hwA]; simp
          have x2 : wA.cell? ⟨wr.heap.size, 2, none⟩ = some (.int .i64 val) := by rw [hwA]; simp
          have hzA : wA.heap.size = wr.heap.size + 1 := by rw [hwA]; simp
          have HWA := Lib.hid hwA
          have HZA := Lib.hid hzA
          have HBA := Lib.hid hbA
          have HX := Lib.hid (And.intro x0 (And.intro x1 x2))
          clear hLc hrr hlen he hwA hbA hzA x0 x1 x2
          go_wp2
          rw [← HWA.out]
          have x0 := HX.out.1
          have x1 := HX.out.2.1
          have x2 := HX.out.2.2
          go_region_law (first
            | (refine step_call (vs := #[.slice aB 3 cB]) rfl 37 eg37 #[.tmp 28] #[24] rfl (by simp [Act.eval, Act.put]) (cloneInt_c (S := S) (.slice aB 3 cB) c 3 wA.drew (HRR.out.below (HBA.out.trans (Below.refl _ _).drew)) HLc.out (by omega)) ?_; rintro e w9 ⟨cv, rfl, hcv, hb9⟩; obtain ⟨a9, cap9, rfl⟩ := own_slice hcv; refine ⟨_, rfl, ?_⟩; have y1 : w9.cell? ⟨wr.heap.size, 1, none⟩ = some (.int .i64 key) := cell_keep hb9 (by simpa using x1); have y2 : w9.cell? ⟨wr.heap.size, 2, none⟩ = some (.int .i64 val) := cell_keep hb9 (by simpa using x2); have HCV := Lib.hid hcv; have HB9 := Lib.hid (HBA.out.trans ((show Below wA.heap.size wA wA.drew from (Below.refl _ _).drew).trans hb9 |>.mono HBA.out.size)); clear hcv hb9)
            | (refine step_pushE (T := fun b => wo.heap.size ≤ b ∧ b < wr.heap.size) _ rfl (.tmp 26) (.tmp 35) 30 rfl Try.underlying30 _ _ rfl ((HRs.out.below HB9.out).below (by (repeat' (first | exact Below.refl _ _ | assumption | refine Below.drew ?_ | refine below_drewN ?_ _ | refine Below.alloc ?_ (by omega) _ | refine Below.alloc ?_ (by simp; omega) _ | refine Below.alloc ?_ (by simp) _ | refine Below.setCell ?_ (by omega) _ | refine Below.setCell ?_ (by simp; omega) _ | refine Below.setCell ?_ (by simp) _)))) (.slice a9 3 cap9) c key val (by rw [HLc.out]; exact own_below (own_zero HCV.out) (by (repeat' (first | exact Below.refl _ _ | assumption | refine Below.drew ?_ | refine below_drewN ?_ _ | refine Below.alloc ?_ (by omega) _ | refine Below.alloc ?_ (by simp; omega) _ | refine Below.alloc ?_ (by simp) _ | refine Below.setCell ?_ (by omega) _ | refine Below.setCell ?_ (by simp; omega) _ | refine Below.setCell ?_ (by simp) _)))) (fun b hb hh => by have := (HCV.out.lt b hb).1; have := HZA.out; simp at *; omega) _ 1 rfl (by simp) (by simp) (by simp) (by rw [HLn.out]; omega) ?_; intro v91 w91 ho91 hg91))
          all_goals
            have hs1 := HBi.out.size
            have hs9 := HB9.out.size
            have hzA := HZA.out
            have HB6 : Hid (Below wo.heap.size wo w91) := ((HBi.out.trans (HB9.out.mono hs1)).alloc (Nat.le_trans hs1 hs9) _).grown hg91 (by simp; omega) (fun b hb => HBk.out b hb)
            have HR6 : Hid (OwnR (fun b => wo.heap.size ≤ b) w91 v91 ((F.getD v []).take (i + 1))) := by
              show OwnR _ _ _ _
              rw [HE.out]
              refine ho91.sub fun b _ hh => ?_
              rcases hh with hh | hh | hh
              · exact hh.1
              · have := (HCV.out.lt b hh).1; simp at this; omega
              · simp at hh; omega
            clear ho91 hg91
            go_wp2
            go_roundw
            case rel => exact ⟨i + 1, by omega, by go_num, HR6, HB6⟩
            case measure => simp [intOf]; omega
        · obtain rfl : i = L := by omega
          have hR' := HR.out
          rw [List.take_of_length_le (show (F.getD v []).length ≤ i by have := HL.out; unfold ln at this; omega)] at hR'
          have hlen : (F.take v).length = v := by rw [List.length_take, HJ.out.1]; omega
          have HE : Hid (F.take (v + 1) = F.take v ++ [F.getD v []]) := take_snoc_getD _ v [] (by rw [HJ.out.1]; exact hlt)
          have HLn := Lib.hid hlen
          have hO := HO.out
          have hbi := HBi.out
          have HSW := Lib.hid HB.out.size
          obtain ⟨a10, cap10, rfl⟩ := hR'.slice
          clear hlen HR
          go_wp2_with (at_builtin; refine wpList_pushR _ rfl _ _ 23 rfl Try.underlying23 _ _ rfl hO hbi _ _ hR' _ _ _ rfl (by simp) (by rw [HLn.out]; omega) (fun b hb => Nat.le_trans HSW.out hb) ?_)
          intro v' w6 hown6 hg6
          have HO6 := Lib.hid (show OwnF (fun b => W.heap.size ≤ b) w6 v' (F.take (v + 1)) from by rw [HE.out]; exact hown6)
          have HB6 : Hid (Below W.heap.size W w6) := HBW.out.grown hg6 HBW.out.size (fun k hk => (HO.out.blk k hk).1)
          clear hown6 hg6 hO hbi hR'
          go_wp2
          go_roundw
          case rel => exact ⟨v + 1, by omega, by go_num, HO6, HB6⟩
          case measure => simp [intOf]; omega
    · obtain rfl : v = 3 := by omega
      have hO := HO.out
      rw [List.take_of_length_le (by rw [HJ.out.1]; exact Nat.le_refl _)] at hO
      have HO' := Lib.hid hO
      clear hO HO
      go_wp2
      go_ret
      exact ⟨_, rfl, HO'.out, HB.out⟩
end Go.Proofs.Ythnepmhkeceadaa
