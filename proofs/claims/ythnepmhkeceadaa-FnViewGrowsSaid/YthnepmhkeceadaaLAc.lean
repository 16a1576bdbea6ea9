/- The walks of more laws on a further entry. -/
import Derived.Test.YthnepmhkeceadaaLAa
import Derived.Test.YthnepmhkeceadaaJwV
import Derived.Deep.RegionLaw
namespace Go.Proofs.Ythnepmhkeceadaa
open Go.RowKit
attribute [local go_sem ↓] Go.wp_at_zero Go.wp_at_succ
set_option maxRecDepth 100000 in
set_option maxHeartbeats 6400000 in
theorem lawFnViewGrows_c (w : World) (v : Value) (n : Nat) (h : RdB w v n) : Calls Try.prog 10 #[v] w fun e w' => e = .returned (.bool true) ∧ Below w.heap.size w w' := by
  have hB := h
  obtain ⟨a, cap, rfl, h1, h2, -⟩ := h
  unfold maxLen at h2
  by_cases hn : 1048576 < n
  · go_enter Try.func10, Try.ntmps10
    go_wp2
    go_ret
    exact ⟨rfl, Below.refl _ _⟩
  · go_enter Try.func10, Try.ntmps10
    go_wp2_with fail
    refine (drawJoinAppend_c _ n _ hB).mono ?_
    rintro e w1 ⟨v, F, x, kv, ks, key, val, rfl, hF, hk, hbd⟩
    have HV := Lib.hid hF
    have HK := Lib.hid hk
    have T := Lib.hid hbd
    clear hF hk hbd
    go_wp2_with fail
    refine (joinAppend_c F _ x _ ks key val _ HV.out HK.out).mono ?_
    rintro e w2 ⟨vo, rfl, hO, hbd⟩
    have HV := Lib.hid (HV.out.below hbd)
    have HK := Lib.hid (HK.out.below hbd)
    have T := Lib.hid (T.out.trans (hbd.mono T.out.size))
    clear hbd
    have HO := Lib.hid hO
    clear hO
    go_wp2_with fail
    refine (specJoinAppend_c F _ x _ ks key val _ HV.out HK.out).mono ?_
    rintro e w3 ⟨vw, rfl, hW, hbd⟩
    have HV := Lib.hid (HV.out.below hbd)
    have HK := Lib.hid (HK.out.below hbd)
    have HO := Lib.hid (HO.out.below hbd)
    have T := Lib.hid (T.out.trans (hbd.mono T.out.size))
    clear hbd
    have HW := Lib.hid hW
    clear hW
    by_cases hok : AppArgs F x ks key val
    · rw [jaB_t hok]
      go_wp2_with fail
      refine (sameEntries_c _ _ _ _ HO.out.rd HW.out.rd).mono ?_
      rintro e w4 ⟨rfl, hbd⟩
      have HV := Lib.hid (HV.out.below hbd)
      have HK := Lib.hid (HK.out.below hbd)
      have HO := Lib.hid (HO.out.below hbd)
      have HW := Lib.hid (HW.out.below hbd)
      have T := Lib.hid (T.out.trans (hbd.mono T.out.size))
      clear hbd
      obtain ⟨m, rfl⟩ := Int.eq_ofNat_of_zero_le hok.2.1.1
      have OK := Lib.hid hok
      have AP := Lib.hid (app_facts hok)
      obtain ⟨G, hG⟩ : ∃ G, jaF F m ks key val = G := ⟨_, rfl⟩
      rw [hG] at HO AP
      clear hok hG HW
      have V1 := Lib.hid (vgrB_t (grwR_iff.2 ⟨AP.out.jv, AP.out.jv, fun _ _ => ⟨Nat.le_refl _, fun _ _ => rfl⟩⟩))
      have V2 := Lib.hid (vgrB_t (grwR_iff.2 AP.out.grw))
      have V3 : Hid (vgrB G F = false) := vgrB_f (fun h => by
        have h1 := (h.2.2 m AP.out.hm).1
        rw [AP.out.ln, if_pos rfl] at h1
        omega)
      go_wp2_with fail
      refine (viewGrows_c F F _ _ _ HV.out HV.out).mono ?_
      rintro e w5 ⟨rfl, hbd⟩
      rw [V1.out]
      have HV := Lib.hid (HV.out.below hbd)
      have HK := Lib.hid (HK.out.below hbd)
      have HO := Lib.hid (HO.out.below hbd)
      have T := Lib.hid (T.out.trans (hbd.mono T.out.size))
      clear hbd
      go_wp2_with fail
      refine (viewGrows_c F G _ _ _ HV.out HO.out.rd).mono ?_
      rintro e w6 ⟨rfl, hbd⟩
      rw [V2.out]
      have HV := Lib.hid (HV.out.below hbd)
      have HK := Lib.hid (HK.out.below hbd)
      have HO := Lib.hid (HO.out.below hbd)
      have T := Lib.hid (T.out.trans (hbd.mono T.out.size))
      clear hbd
      go_wp2_with fail
      refine (viewGrows_c G F _ _ _ HO.out.rd HV.out).mono ?_
      rintro e w7 ⟨rfl, hbd⟩
      rw [V3.out]
      have HV := Lib.hid (HV.out.below hbd)
      have HK := Lib.hid (HK.out.below hbd)
      have HO := Lib.hid (HO.out.below hbd)
      have T := Lib.hid (T.out.trans (hbd.mono T.out.size))
      clear hbd
      go_wp2
      go_ret
      exact ⟨rfl, T.out⟩
    · rw [jaB_f hok]
      clear hok
      go_wp2_with fail
      refine (sameEntries_c _ _ _ _ HO.out.rd HW.out.rd).mono ?_
      rintro e w4 ⟨rfl, hbd⟩
      have HV := Lib.hid (HV.out.below hbd)
      have HK := Lib.hid (HK.out.below hbd)
      have HO := Lib.hid (HO.out.below hbd)
      have HW := Lib.hid (HW.out.below hbd)
      have T := Lib.hid (T.out.trans (hbd.mono T.out.size))
      clear hbd
      go_wp2_with fail
      refine (sameEntries_c _ _ _ _ HO.out.rd HW.out.rd).mono ?_
      rintro e w5 ⟨rfl, hbd⟩
      have HV := Lib.hid (HV.out.below hbd)
      have HK := Lib.hid (HK.out.below hbd)
      have HO := Lib.hid (HO.out.below hbd)
      have HW := Lib.hid (HW.out.below hbd)
      have T := Lib.hid (T.out.trans (hbd.mono T.out.size))
      clear hbd
      go_wp2
      go_ret
      exact ⟨rfl, T.out⟩
end Go.Proofs.Ythnepmhkeceadaa
