/- The walk of the exact law on JoinAppend. -/
import Derived.Test.YthnepmhkeceadaaJwS
import Derived.Test.YthnepmhkeceadaaEqE
import Derived.Test.YthnepmhkeceadaaMkH
namespace Go.Proofs.Ythnepmhkeceadaa
open Go.RowKit
theorem szR_five : ∀ es : List Ent, (∀ e, e ∈ es → e.1.length = 3) → szR es = 5 * es.length
  | [], _ => rfl
  | e :: es, h => by
    have h1 := h e (List.mem_cons_self ..)
    have h2 := szR_five es (fun x hx => h x (List.mem_cons_of_mem _ hx))
    simp only [szR, h1, h2, List.length_cons]; omega
theorem jv_row {F : Fd} (h : JV F) {w : Nat} (hw : w < 3) : szR (F.getD w []) ≤ 40 := by
  have h1 := h.2.1 w hw
  rw [szR_five _ (fun e he => by
    obtain ⟨i, hi, rfl⟩ := List.getElem_of_mem he
    have := (h.2.2.1 w hw i hi).1
    unfold ent at this
    rw [List.getD_eq_getElem?_getD (l := F.getD w []), List.getElem?_eq_getElem hi] at this
    exact this)]
  unfold ln at h1
  omega
theorem jv_sz {F : Fd} (h : JV F) : szT F ≤ 120 := by
  have h0 := jv_row h (w := 0) (by omega)
  have h1 := jv_row h (w := 1) (by omega)
  have h2 := jv_row h (w := 2) (by omega)
  have hl := h.1
  match F, hl with
  | [a, b, c], _ =>
    simp [List.getD] at h0 h1 h2
    simp only [szT]
    omega
theorem ja_jv {F : Fd} {m : Nat} {ks : List Int} {key val : Int} (h : AppArgs F m ks key val) : JV (jaF F m ks key val) := by
  have hm : m < 3 := by have := h.2.1.2; omega
  have h8 : ln F m < 8 := by have := h.2.2.2.2.2.1; simpa using this
  have hk := kf_knw (w := m) h.2.2.2.2.2.2
  rw [jaF_t h, Int.toNat_natCast]
  exact (Grw_app h.1 hm h8 (newc_ok h.1 hm hk (kf_own F m ks) h.2.2.2.1 h.2.2.2.2.1)).2.1
theorem ja_sz (F : Fd) (w : Int) (ks : List Int) (key val : Int) : szT (jaF F w ks key val) ≤ 1000 ∧ (jaF F w ks key val).length ≤ 3 := by
  by_cases h : AppArgs F w ks key val
  · obtain ⟨m, rfl⟩ := Int.eq_ofNat_of_zero_le h.2.1.1
    have hj := ja_jv h
    have h1 := jv_sz hj
    exact ⟨by omega, by rw [hj.1]; exact Nat.le_refl _⟩
  · rw [jaF_f h]; exact ⟨Nat.zero_le _, Nat.zero_le _⟩
set_option maxRecDepth 100000 in
set_option maxHeartbeats 3200000 in
theorem lawFnExactJoinAppend_c (w : World) (v : Value) (F : Fd) (h : RdF All w v F) (wi : Int) (_hw : -9223372036854775808 ≤ wi ∧ wi ≤ 9223372036854775807) (u : Value) (ks : List Int) (hk : RdS All 1 w u ks.length (enc1 ks)) (key : Int) (_hke : -9223372036854775808 ≤ key ∧ key ≤ 9223372036854775807) (val : Int) (_hva : -9223372036854775808 ≤ val ∧ val ≤ 9223372036854775807) :
    Calls Try.prog 5 #[v, .int .i64 wi, u, .int .i64 key, .int .i64 val] w fun e w' => e = .returned (.bool true) ∧ Below w.heap.size w w' := by
  have HV0 := Lib.hid h
  obtain ⟨ua, un, uc, rfl, hun, u1, u2⟩ : ∃ a n cap, u = .slice a n cap ∧ n = ks.length ∧ n ≤ cap ∧ cap ≤ maxLen := by
    obtain ⟨a, cap, rfl, h1, h2⟩ := hk.shape
    exact ⟨a, _, cap, rfl, rfl, h1, h2⟩
  unfold maxLen at u2
  have HK0 := Lib.hid hk
  have T : Hid (Below w.heap.size w w) := Below.refl _ _
  have HUN := Lib.hid hun
  clear h hk hun _hw _hke _hva
  by_cases hbig : 1048576 < un
  · go_enter Try.func5, Try.ntmps5
    go_wp2
    go_ret
    exact ⟨rfl, Below.refl _ _⟩
  · go_enter Try.func5, Try.ntmps5
    have HKL : Hid (ks.length ≤ 1048576) := by show _ ≤ _; rw [← HUN.out]; omega
    go_wp2_with fail
    refine (szEntrySS_c _ F 1048576 _ (HV0.out.below T.out) (by omega) (by omega)).mono ?_
    rintro e w1 ⟨r, rfl, r1, r2, r3, hbd⟩
    have T := Lib.hid (T.out.trans (hbd.mono T.out.size))
    clear hbd
    have HSF := Lib.hid r3
    clear r3
    by_cases hr : r < 0
    · go_wp2
      go_ret
      exact ⟨rfl, T.out⟩
    · have HSF := Lib.hid (HSF.out (by omega))
      obtain ⟨R, hR⟩ : ∃ R, jaF F wi ks key val = R := ⟨_, rfl⟩
      obtain ⟨z, hz⟩ : ∃ z, jaB F wi ks key val = z := ⟨_, rfl⟩
      have hzz : (z != z) = false := bne_self_eq_false z
      obtain ⟨N, hN⟩ : ∃ N, szT R = N := ⟨_, rfl⟩
      have hN1 : N ≤ 1000 := by rw [← hN, ← hR]; exact (ja_sz F wi ks key val).1
      have HRL : Hid (R.length ≤ 4294967296) := by show _ ≤ _; rw [← hR]; exact Nat.le_trans (ja_sz F wi ks key val).2 (by omega)
      have HR := Lib.hid hR
      have HZ := Lib.hid hz
      have HN := Lib.hid hN
      clear hR hz hN
      go_wp2_with fail
      refine (toEntrySS_c _ F _ (HV0.out.below T.out) HSF.out).mono ?_
      rintro e w2 ⟨vA0, rfl, hA0, hbd⟩
      have HSA0 := Lib.hid hbd.size
      have HTA0 := Lib.hid T.out.size
      have T := Lib.hid (T.out.trans (hbd.mono T.out.size))
      clear hbd
      have A0 : Hid (OwnF (fun b => w1.heap.size ≤ b ∧ b < w2.heap.size) w2 vA0 F) := hA0.sub fun b hb h => ⟨h, hb⟩
      clear hA0
      go_wp2_with fail
      refine (toIntS_c _ ks _ (HK0.out.below T.out) HKL.out).mono ?_
      rintro e w3 ⟨vC0, rfl, hC0, hbd⟩
      have HSC0 := Lib.hid hbd.size
      have HTC0 := Lib.hid T.out.size
      have A0 := Lib.hid (A0.out.below hbd)
      have T := Lib.hid (T.out.trans (hbd.mono T.out.size))
      clear hbd
      have C0 := Lib.hid hC0
      clear hC0
      go_wp2_with fail
      refine (specJoinAppend_c F _ wi _ ks key val _ A0.out.rd (RdS.of_own C0.out)).mono ?_
      rintro e w4 ⟨vW, rfl, hW, hbd⟩
      have A0 := Lib.hid (A0.out.below hbd)
      have C0 := Lib.hid (own_below C0.out hbd)
      have T := Lib.hid (T.out.trans (hbd.mono T.out.size))
      clear hbd
      rw [HR.out] at hW
      rw [HZ.out]
      have HW : Hid (OwnF (fun b => w3.heap.size ≤ b ∧ b < w4.heap.size) w4 vW R) := hW.sub fun b hb h => ⟨h, hb⟩
      clear hW
      clear A0 C0
      go_wp2_with fail
      refine (toEntrySS_c _ F _ (HV0.out.below T.out) HSF.out).mono ?_
      rintro e w5 ⟨vX0, rfl, hX0, hbd⟩
      have HSX0 := Lib.hid hbd.size
      have HTX0 := Lib.hid T.out.size
      have HW := Lib.hid (HW.out.below hbd)
      have T := Lib.hid (T.out.trans (hbd.mono T.out.size))
      clear hbd
      have X0 : Hid (OwnF (fun b => w4.heap.size ≤ b ∧ b < w5.heap.size) w5 vX0 F) := hX0.sub fun b hb h => ⟨h, hb⟩
      clear hX0
      go_wp2_with fail
      refine (toIntS_c _ ks _ (HK0.out.below T.out) HKL.out).mono ?_
      rintro e w6 ⟨vX2, rfl, hX2, hbd⟩
      have HSX2 := Lib.hid hbd.size
      have HTX2 := Lib.hid T.out.size
      have HW := Lib.hid (HW.out.below hbd)
      have X0 := Lib.hid (X0.out.below hbd)
      have T := Lib.hid (T.out.trans (hbd.mono T.out.size))
      clear hbd
      have HXD : Hid (∀ b, vX2.ownBlock = some b → b < w6.heap.size) := fun b hb => (hX2.lt b hb).2
      have X2 := Lib.hid hX2
      clear hX2
      go_wp2_with fail
      refine (joinAppend_c F _ wi _ ks key val _ X0.out.rd (RdS.of_own X2.out)).mono ?_
      rintro e w7 ⟨vG, rfl, hG, hbd⟩
      have HW := Lib.hid (HW.out.below hbd)
      have X0 := Lib.hid (X0.out.below hbd)
      have X2 := Lib.hid (own_below X2.out hbd)
      have T := Lib.hid (T.out.trans (hbd.mono T.out.size))
      clear hbd
      rw [HR.out] at hG
      rw [HZ.out]
      have HG : Hid (OwnF (fun b => w6.heap.size ≤ b ∧ b < w7.heap.size) w7 vG R) := hG.sub fun b hb h => ⟨h, hb⟩
      clear hG
      have HXB : Hid (∀ b, vX2.ownBlock = some b → w5.heap.size ≤ b ∧ b < w7.heap.size) := fun b hb => X2.out.lt b hb
      go_wp2_with fail
      refine (eqEntrySS_c _ _ R _ HG.out.rd HW.out.rd).mono ?_
      rintro e w8 ⟨rfl, hbd⟩
      have HW := Lib.hid (HW.out.below hbd)
      have X0 := Lib.hid (X0.out.below hbd)
      have X2 := Lib.hid (own_below X2.out hbd)
      have HG := Lib.hid (HG.out.below hbd)
      have T := Lib.hid (T.out.trans (hbd.mono T.out.size))
      clear hbd
      go_wp2_with fail
      refine (toEntrySS_c _ F _ (HV0.out.below T.out) HSF.out).mono ?_
      rintro e w9 ⟨vY0, rfl, hY0, hbd⟩
      have HSY0 := Lib.hid hbd.size
      have HTY0 := Lib.hid T.out.size
      have HW := Lib.hid (HW.out.below hbd)
      have X0 := Lib.hid (X0.out.below hbd)
      have X2 := Lib.hid (own_below X2.out hbd)
      have HG := Lib.hid (HG.out.below hbd)
      have T := Lib.hid (T.out.trans (hbd.mono T.out.size))
      clear hbd
      have Y0 : Hid (OwnF (fun b => w8.heap.size ≤ b ∧ b < w9.heap.size) w9 vY0 F) := hY0.sub fun b hb h => ⟨h, hb⟩
      clear hY0
      go_wp2_with fail
      refine (eqEntrySS_c _ _ F _ X0.out.rd Y0.out.rd).mono ?_
      rintro e w10 ⟨rfl, hbd⟩
      have HW := Lib.hid (HW.out.below hbd)
      have X0 := Lib.hid (X0.out.below hbd)
      have X2 := Lib.hid (own_below X2.out hbd)
      have HG := Lib.hid (HG.out.below hbd)
      have Y0 := Lib.hid (Y0.out.below hbd)
      have T := Lib.hid (T.out.trans (hbd.mono T.out.size))
      clear hbd
      clear Y0
      go_wp2_with fail
      refine (toIntS_c _ ks _ (HK0.out.below T.out) HKL.out).mono ?_
      rintro e w11 ⟨vY2, rfl, hY2, hbd⟩
      have HSY2 := Lib.hid hbd.size
      have HTY2 := Lib.hid T.out.size
      have HW := Lib.hid (HW.out.below hbd)
      have X0 := Lib.hid (X0.out.below hbd)
      have X2 := Lib.hid (own_below X2.out hbd)
      have HG := Lib.hid (HG.out.below hbd)
      have T := Lib.hid (T.out.trans (hbd.mono T.out.size))
      clear hbd
      have Y2 := Lib.hid hY2
      clear hY2
      go_wp2_with fail
      refine (eqIntS_c _ _ ks _ (Rd.of_own X2.out) (Rd.of_own Y2.out)).mono ?_
      rintro e w12 ⟨rfl, hbd⟩
      have HW := Lib.hid (HW.out.below hbd)
      have X0 := Lib.hid (X0.out.below hbd)
      have X2 := Lib.hid (own_below X2.out hbd)
      have HG := Lib.hid (HG.out.below hbd)
      have Y2 := Lib.hid (own_below Y2.out hbd)
      have T := Lib.hid (T.out.trans (hbd.mono T.out.size))
      clear hbd
      clear Y2
      go_wp2_with fail
      refine (markEntrySS_b _ F _ X0.out HSF.out).mono ?_
      rintro e w13 ⟨k, rfl, k0, k1, hc⟩
      have HW := Lib.hid (HW.out.chg hc (fun b hb e => by have h1 := hb.2; have h2 := e.1; omega))
      have HG := Lib.hid (HG.out.chg hc (fun b hb e => by have h1 := hb.1; have h2 := e.2; have h3 := HSX2.out; omega))
      have X2 := Lib.hid (own_chg X2.out hc (fun b hb e => by have h1 := (HXB.out b hb).1; have h2 := e.2; omega))
      have T := Lib.hid (T.out.trans (hc.below T.out.size (fun b e => Nat.le_trans HTX0.out e.1)))
      clear hc
      clear X0
      go_wp2_with fail
      refine (markIntSW_c _ ks.length (enc1 ks) _ k _ X2.out HKL.out k0 (by omega)).mono ?_
      rintro e w14 ⟨rfl, -, hg⟩
      have HW := Lib.hid (HW.out.chg (Chg.of_grown hg) (fun b hb e => by have h1 := hb.2; have h2 := (HXB.out b e).1; have h3 := HSX0.out; omega))
      have HG := Lib.hid (HG.out.chg (Chg.of_grown hg) (fun b hb e => by have h1 := hb.1; have h2 := HXD.out b e; omega))
      have T := Lib.hid (T.out.trans ((Chg.of_grown hg).below T.out.size (fun b e => by have h2 := (HXB.out b e).1; have h3 := HSX0.out; have h4 := HTX0.out; omega)))
      have hk2 : ¬ (k + (ks.length : Int) < 0) := by omega
      clear hg
      clear X2
      go_wp2_with fail
      refine (eqEntrySS_c _ _ R _ HG.out.rd HW.out.rd).mono ?_
      rintro e w15 ⟨rfl, hbd⟩
      have HW := Lib.hid (HW.out.below hbd)
      have HG := Lib.hid (HG.out.below hbd)
      have T := Lib.hid (T.out.trans (hbd.mono T.out.size))
      clear hbd
      go_wp2_with fail
      refine (markEntrySS_d _ R 1 _ HG.out (by omega) (by rw [HN.out]; omega) HRL.out).mono ?_
      rintro e w16 ⟨rfl, ⟨G1, hd, hO⟩, hc⟩
      rw [HN.out]
      have HW := Lib.hid (HW.out.chg hc (fun b hb e => by have h1 := hb.2; have h2 := e.1; have h3 := HSX0.out; have h4 := HSX2.out; omega))
      have T := Lib.hid (T.out.trans (hc.below T.out.size (fun b e => by have h2 := e.1; have h3 := HSX0.out; have h4 := HTX0.out; have h5 := HSX2.out; omega)))
      have HG := Lib.hid hO
      have HD := Lib.hid hd
      clear hc hO hd
      go_wp2_with fail
      refine (heldEntrySS_d _ R G1 1 _ HG.out.rd HD.out (by omega) (by rw [HN.out]; omega) HRL.out).mono ?_
      rintro e w17 ⟨rfl, hbd⟩
      rw [HN.out]
      have HW := Lib.hid (HW.out.below hbd)
      have HG := Lib.hid (HG.out.below hbd)
      have T := Lib.hid (T.out.trans (hbd.mono T.out.size))
      clear hbd
      go_wp2_with fail
      refine (toEntrySS_c _ F _ (HV0.out.below T.out) HSF.out).mono ?_
      rintro e w18 ⟨vZ0, rfl, hZ0, hbd⟩
      have HSZ0 := Lib.hid hbd.size
      have HTZ0 := Lib.hid T.out.size
      have HW := Lib.hid (HW.out.below hbd)
      have HG := Lib.hid (HG.out.below hbd)
      have T := Lib.hid (T.out.trans (hbd.mono T.out.size))
      clear hbd
      have Z0 : Hid (OwnF (fun b => w17.heap.size ≤ b ∧ b < w18.heap.size) w18 vZ0 F) := hZ0.sub fun b hb h => ⟨h, hb⟩
      clear hZ0
      go_wp2_with fail
      refine (toIntS_c _ ks _ (HK0.out.below T.out) HKL.out).mono ?_
      rintro e w19 ⟨vZ2, rfl, hZ2, hbd⟩
      have HSZ2 := Lib.hid hbd.size
      have HTZ2 := Lib.hid T.out.size
      have HW := Lib.hid (HW.out.below hbd)
      have HG := Lib.hid (HG.out.below hbd)
      have Z0 := Lib.hid (Z0.out.below hbd)
      have T := Lib.hid (T.out.trans (hbd.mono T.out.size))
      clear hbd
      have Z2 := Lib.hid hZ2
      clear hZ2
      go_wp2_with fail
      refine (joinAppend_c F _ wi _ ks key val _ Z0.out.rd (RdS.of_own Z2.out)).mono ?_
      rintro e w20 ⟨vH, rfl, hH, hbd⟩
      have HW := Lib.hid (HW.out.below hbd)
      have HG := Lib.hid (HG.out.below hbd)
      have Z0 := Lib.hid (Z0.out.below hbd)
      have Z2 := Lib.hid (own_below Z2.out hbd)
      have T := Lib.hid (T.out.trans (hbd.mono T.out.size))
      clear hbd
      rw [HR.out] at hH
      rw [HZ.out]
      have HH : Hid (OwnF (fun b => w19.heap.size ≤ b ∧ b < w20.heap.size) w20 vH R) := hH.sub fun b hb h => ⟨h, hb⟩
      clear hH
      clear Z0 Z2
      go_wp2_with fail
      refine (eqEntrySS_c _ _ R _ HH.out.rd HW.out.rd).mono ?_
      rintro e w21 ⟨rfl, hbd⟩
      have HW := Lib.hid (HW.out.below hbd)
      have HG := Lib.hid (HG.out.below hbd)
      have HH := Lib.hid (HH.out.below hbd)
      have T := Lib.hid (T.out.trans (hbd.mono T.out.size))
      clear hbd
      clear HH
      go_wp2_with fail
      refine (heldEntrySS_d _ R G1 1 _ HG.out.rd HD.out (by omega) (by rw [HN.out]; omega) HRL.out).mono ?_
      rintro e w22 ⟨rfl, hbd⟩
      rw [HN.out]
      have HW := Lib.hid (HW.out.below hbd)
      have HG := Lib.hid (HG.out.below hbd)
      have T := Lib.hid (T.out.trans (hbd.mono T.out.size))
      clear hbd
      go_wp2
      go_ret
      exact ⟨rfl, T.out⟩
end Go.Proofs.Ythnepmhkeceadaa
