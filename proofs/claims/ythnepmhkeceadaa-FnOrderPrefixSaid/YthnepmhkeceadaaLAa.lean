/- The walks of laws on a further entry. -/
import Derived.Test.YthnepmhkeceadaaJwS
import Derived.Test.YthnepmhkeceadaaLJs
import Derived.Test.YthnepmhkeceadaaJwU
import Derived.Test.YthnepmhkeceadaaShF
import Derived.Deep.RegionWith
namespace Go.Proofs.Ythnepmhkeceadaa
open Go.RowKit
attribute [local go_sem ↓] Go.wp_at_zero Go.wp_at_succ
/-- what a further entry leaves: F's entries and one more, of writer m -/
structure Apd (F : Fd) (m : Nat) (ks : List Int) (key val : Int) (G : Fd) : Prop where
  jv : JV F
  hm : m < 3
  h8 : ln F m < 8
  ok : AppOk F m (newc F m (kf F m ks), key, val)
  eq : G = app F m (newc F m (kf F m ks), key, val)
  knw : Knw F (kf F m ks)
  kn : ∀ v, v < 3 → 0 ≤ ks.getD v 0 ∧ ks.getD v 0 ≤ (ln F v : Int)
  k3 : ks.length = 3
theorem app_facts {F : Fd} {m : Nat} {ks : List Int} {key val : Int} (h : AppArgs F m ks key val) : Apd F m ks key val (jaF F m ks key val) := by
  have hm : m < 3 := by have := h.2.1.2; omega
  have h8 : ln F m < 8 := by have := h.2.2.2.2.2.1; simpa using this
  have hk := kf_knw (w := m) h.2.2.2.2.2.2
  refine ⟨h.1, hm, h8, newc_ok h.1 hm hk (kf_own F m ks) h.2.2.2.1 h.2.2.2.2.1, ?_, hk, h.2.2.2.2.2.2, h.2.2.1⟩
  rw [jaF_t h, Int.toNat_natCast]
theorem Apd.grw {F : Fd} {m : Nat} {ks : List Int} {key val : Int} {G : Fd} (h : Apd F m ks key val G) : Grw F G := by rw [h.eq]; exact Grw_app h.jv h.hm h.h8 h.ok
theorem Apd.tot {F : Fd} {m : Nat} {ks : List Int} {key val : Int} {G : Fd} (h : Apd F m ks key val G) : tot G = tot F + 1 := by rw [h.eq]; exact tot_app h.jv.1 h.hm
theorem Apd.ln {F : Fd} {m : Nat} {ks : List Int} {key val : Int} {G : Fd} (h : Apd F m ks key val G) (v : Nat) : Proofs.Ythnepmhkeceadaa.ln G v = if v = m then Proofs.Ythnepmhkeceadaa.ln F m + 1 else Proofs.Ythnepmhkeceadaa.ln F v := by
  rw [h.eq]; exact app_ln (by rw [h.jv.1]; exact h.hm) v
theorem Apd.new {F : Fd} {m : Nat} {ks : List Int} {key val : Int} {G : Fd} (h : Apd F m ks key val G) : ent G m (Proofs.Ythnepmhkeceadaa.ln F m) = (newc F m (kf F m ks), key, val) := by
  rw [h.eq]; exact app_new (by rw [h.jv.1]; exact h.hm)
theorem Apd.row {F : Fd} {m : Nat} {ks : List Int} {key val : Int} {G : Fd} (h : Apd F m ks key val G) (v : Nat) : (G.getD v []).take (Proofs.Ythnepmhkeceadaa.ln F v) = F.getD v [] := by
  rw [h.eq, app_row (by rw [h.jv.1]; exact h.hm)]
  unfold Proofs.Ythnepmhkeceadaa.ln
  split
  · rename_i e; subst e; simp
  · simp
theorem rds_len {S : Nat → Prop} {w : World} {v : Value} {xs : List Int} (h : RdS S 1 w v xs.length (enc1 xs)) : ∃ a n cap, v = .slice a n cap ∧ n = xs.length ∧ n ≤ cap ∧ cap ≤ maxLen := by
  obtain ⟨a, cap, rfl, h1, h2⟩ := h.shape
  exact ⟨a, _, cap, rfl, rfl, h1, h2⟩
theorem jo_kept {F G : Fd} (h : Grw F G) : (jo G).take (stv F) = (jo F).take (stv F) := by
  have h1 := stv_le F
  have h2 := h.tot
  have h3 := take_ordv (stv F) h1 (by omega) (kept h)
  rw [jo_t h.1, jo_t h.2.1]
  exact h3
set_option maxRecDepth 100000 in
set_option maxHeartbeats 6400000 in
theorem lawFnStableGrows_c (w : World) (v : Value) (n : Nat) (h : RdB w v n) : Calls Try.prog 6 #[v] w fun e w' => e = .returned (.bool true) ∧ Below w.heap.size w w' := by
  have hB := h
  obtain ⟨a, cap, rfl, h1, h2, -⟩ := h
  unfold maxLen at h2
  by_cases hn : 1048576 < n
  · go_enter Try.func6, Try.ntmps6
    go_wp2
    go_ret
    exact ⟨rfl, Below.refl _ _⟩
  · go_enter Try.func6, Try.ntmps6
    go_wp2_with fail
    refine (drawJoinAppend_c _ n _ hB).mono ?_
    rintro e w1 ⟨v, F, x, kv, ks, key, val, rfl, hF, hk, hbd⟩
    have HV := Lib.hid hF
    have HK := Lib.hid hk
    have T := Lib.hid hbd
    clear hF hk hbd
    go_wp2_with fail
    refine (joinAppend_c F _ x _ ks key val _ HV.out HK.out).mono ?_
    rintro e w2 ⟨vo, rfl, hO, hbd⟩
    have HV := Lib.hid (HV.out.below hbd)
    have HK := Lib.hid (HK.out.below hbd)
    have T := Lib.hid (T.out.trans (hbd.mono T.out.size))
    clear hbd
    have HO := Lib.hid hO
    clear hO
    go_wp2_with fail
    refine (specJoinAppend_c F _ x _ ks key val _ HV.out HK.out).mono ?_
    rintro e w3 ⟨vw, rfl, hW, hbd⟩
    have HV := Lib.hid (HV.out.below hbd)
    have HK := Lib.hid (HK.out.below hbd)
    have HO := Lib.hid (HO.out.below hbd)
    have T := Lib.hid (T.out.trans (hbd.mono T.out.size))
    clear hbd
    have HW := Lib.hid hW
    clear hW
    by_cases hok : AppArgs F x ks key val
    · rw [jaB_t hok]
      go_wp2_with fail
      refine (sameEntries_c _ _ _ _ HO.out.rd HW.out.rd).mono ?_
      rintro e w4 ⟨rfl, hbd⟩
      have HV := Lib.hid (HV.out.below hbd)
      have HK := Lib.hid (HK.out.below hbd)
      have HO := Lib.hid (HO.out.below hbd)
      have HW := Lib.hid (HW.out.below hbd)
      have T := Lib.hid (T.out.trans (hbd.mono T.out.size))
      clear hbd
      obtain ⟨m, rfl⟩ := Int.eq_ofNat_of_zero_le hok.2.1.1
      have OK := Lib.hid hok
      have AP := Lib.hid (app_facts hok)
      obtain ⟨G, hG⟩ : ∃ G, jaF F m ks key val = G := ⟨_, rfl⟩
      rw [hG] at HO AP
      clear hok hG HW
      go_wp2_with fail
      refine (joinStable_c G _ _ HO.out.rd).mono ?_
      rintro e w5 ⟨rfl, hbd⟩
      have HV := Lib.hid (HV.out.below hbd)
      have HK := Lib.hid (HK.out.below hbd)
      have HO := Lib.hid (HO.out.below hbd)
      have T := Lib.hid (T.out.trans (hbd.mono T.out.size))
      clear hbd
      go_wp2_with fail
      refine (joinStable_c F _ _ HV.out).mono ?_
      rintro e w6 ⟨rfl, hbd⟩
      have HV := Lib.hid (HV.out.below hbd)
      have HK := Lib.hid (HK.out.below hbd)
      have HO := Lib.hid (HO.out.below hbd)
      have T := Lib.hid (T.out.trans (hbd.mono T.out.size))
      clear hbd
      have hle : jsv F ≤ jsv G := by rw [jsv_t AP.out.jv, jsv_t AP.out.grw.2.1]; have := stable_up AP.out.grw; omega
      go_wp2
      go_ret
      exact ⟨by first | rfl | (simp; exact hle), T.out⟩
    · rw [jaB_f hok]
      clear hok
      go_wp2_with fail
      refine (sameEntries_c _ _ _ _ HO.out.rd HW.out.rd).mono ?_
      rintro e w4 ⟨rfl, hbd⟩
      have HV := Lib.hid (HV.out.below hbd)
      have HK := Lib.hid (HK.out.below hbd)
      have HO := Lib.hid (HO.out.below hbd)
      have HW := Lib.hid (HW.out.below hbd)
      have T := Lib.hid (T.out.trans (hbd.mono T.out.size))
      clear hbd
      go_wp2_with fail
      refine (sameEntries_c _ _ _ _ HO.out.rd HW.out.rd).mono ?_
      rintro e w5 ⟨rfl, hbd⟩
      have HV := Lib.hid (HV.out.below hbd)
      have HK := Lib.hid (HK.out.below hbd)
      have HO := Lib.hid (HO.out.below hbd)
      have HW := Lib.hid (HW.out.below hbd)
      have T := Lib.hid (T.out.trans (hbd.mono T.out.size))
      clear hbd
      go_wp2
      go_ret
      exact ⟨rfl, T.out⟩
set_option maxRecDepth 100000 in
set_option maxHeartbeats 6400000 in
theorem lawFnStableKeeps_c (w : World) (v : Value) (n : Nat) (h : RdB w v n) : Calls Try.prog 7 #[v] w fun e w' => e = .returned (.bool true) ∧ Below w.heap.size w w' := by
  have hB := h
  obtain ⟨a, cap, rfl, h1, h2, -⟩ := h
  unfold maxLen at h2
  by_cases hn : 1048576 < n
  · go_enter Try.func7, Try.ntmps7
    go_wp2
    go_ret
    exact ⟨rfl, Below.refl _ _⟩
  · go_enter Try.func7, Try.ntmps7
    go_wp2_with fail
    refine (drawJoinAppend_c _ n _ hB).mono ?_
    rintro e w1 ⟨v, F, x, kv, ks, key, val, rfl, hF, hk, hbd⟩
    have HV := Lib.hid hF
    have HK := Lib.hid hk
    have T := Lib.hid hbd
    clear hF hk hbd
    go_wp2_with fail
    refine (joinAppend_c F _ x _ ks key val _ HV.out HK.out).mono ?_
    rintro e w2 ⟨vo, rfl, hO, hbd⟩
    have HV := Lib.hid (HV.out.below hbd)
    have HK := Lib.hid (HK.out.below hbd)
    have T := Lib.hid (T.out.trans (hbd.mono T.out.size))
    clear hbd
    have HO := Lib.hid hO
    clear hO
    go_wp2_with fail
    refine (specJoinAppend_c F _ x _ ks key val _ HV.out HK.out).mono ?_
    rintro e w3 ⟨vw, rfl, hW, hbd⟩
    have HV := Lib.hid (HV.out.below hbd)
    have HK := Lib.hid (HK.out.below hbd)
    have HO := Lib.hid (HO.out.below hbd)
    have T := Lib.hid (T.out.trans (hbd.mono T.out.size))
    clear hbd
    have HW := Lib.hid hW
    clear hW
    by_cases hok : AppArgs F x ks key val
    · rw [jaB_t hok]
      go_wp2_with fail
      refine (sameEntries_c _ _ _ _ HO.out.rd HW.out.rd).mono ?_
      rintro e w4 ⟨rfl, hbd⟩
      have HV := Lib.hid (HV.out.below hbd)
      have HK := Lib.hid (HK.out.below hbd)
      have HO := Lib.hid (HO.out.below hbd)
      have HW := Lib.hid (HW.out.below hbd)
      have T := Lib.hid (T.out.trans (hbd.mono T.out.size))
      clear hbd
      obtain ⟨m, rfl⟩ := Int.eq_ofNat_of_zero_le hok.2.1.1
      have OK := Lib.hid hok
      have AP := Lib.hid (app_facts hok)
      obtain ⟨G, hG⟩ : ∃ G, jaF F m ks key val = G := ⟨_, rfl⟩
      rw [hG] at HO AP
      clear hok hG HW
      go_wp2_with fail
      refine (joinStable_c F _ _ HV.out).mono ?_
      rintro e w5 ⟨rfl, hbd⟩
      have HV := Lib.hid (HV.out.below hbd)
      have HK := Lib.hid (HK.out.below hbd)
      have HO := Lib.hid (HO.out.below hbd)
      have T := Lib.hid (T.out.trans (hbd.mono T.out.size))
      clear hbd
      go_wp2_with fail
      refine (joinOrder_o F _ _ HV.out).mono ?_
      rintro e w6 ⟨ap, PN, Pc, rfl, Pb, P1, P2, hP, hbd⟩
      unfold maxLen at P2
      have HV := Lib.hid (HV.out.below hbd)
      have HK := Lib.hid (HK.out.below hbd)
      have HO := Lib.hid (HO.out.below hbd)
      have T := Lib.hid (T.out.trans (hbd.mono T.out.size))
      clear hbd
      have HP := Lib.hid hP
      clear hP
      go_wp2_with fail
      refine (joinOrder_o G _ _ HO.out.rd).mono ?_
      rintro e w7 ⟨aq, QN, Qc, rfl, Qb, Q1, Q2, hQ, hbd⟩
      unfold maxLen at Q2
      have HV := Lib.hid (HV.out.below hbd)
      have HK := Lib.hid (HK.out.below hbd)
      have HO := Lib.hid (HO.out.below hbd)
      have HP := Lib.hid (HP.out.below hbd)
      have T := Lib.hid (T.out.trans (hbd.mono T.out.size))
      clear hbd
      have HQ := Lib.hid hQ
      clear hQ
      obtain ⟨s, hs⟩ : ∃ s, stv F = s := ⟨_, rfl⟩
      have hjs : jsv F = (s : Int) := by rw [jsv_t AP.out.jv, hs]
      have hlen : QN = PN + 1 := by rw [HQ.out.tot AP.out.grw.2.1, HP.out.tot AP.out.jv, AP.out.tot]
      have hsP : s ≤ PN := by rw [HP.out.tot AP.out.jv, ← hs]; exact stv_le F
      have hsQ : s ≤ QN := by omega
      have HKP : Hid ((jo G).take s = (jo F).take s) := by show _ = _; rw [← hs]; exact jo_kept AP.out.grw
      rw [hjs]
      have hw1 : IntKind.i64.wrap ((PN : Int) + 1) = (PN : Int) + 1 := by rw [IntKind.wrap_i64]; omega
      have hlq : ((QN : Int) == (PN : Int) + 1) = true := by rw [beq_iff_eq]; omega
      have hcP : s ≤ Pc := by omega
      have hcQ : s ≤ Qc := by omega
      clear hs hjs
      go_wp2
      refine wp_region_sub (by kernel_rfl) (by kernel_rfl) ?_
      repeat (go_big_quiet_step (exact Calls.sub (v := .bool true) (fun w hb => sameRefs_two w (HP.out.below hb) (HQ.out.below hb) hsP hsQ HKP.out)))
      refine wpQuiet_nil ?_
      rintro _ ⟨xs, rfl⟩
      have HX := Lib.hid (T.out.trans (xs.b.mono T.out.size))
      go_wp2
      go_ret
      exact ⟨rfl, HX.out⟩
    · rw [jaB_f hok]
      clear hok
      go_wp2_with fail
      refine (sameEntries_c _ _ _ _ HO.out.rd HW.out.rd).mono ?_
      rintro e w4 ⟨rfl, hbd⟩
      have HV := Lib.hid (HV.out.below hbd)
      have HK := Lib.hid (HK.out.below hbd)
      have HO := Lib.hid (HO.out.below hbd)
      have HW := Lib.hid (HW.out.below hbd)
      have T := Lib.hid (T.out.trans (hbd.mono T.out.size))
      clear hbd
      go_wp2_with fail
      refine (sameEntries_c _ _ _ _ HO.out.rd HW.out.rd).mono ?_
      rintro e w5 ⟨rfl, hbd⟩
      have HV := Lib.hid (HV.out.below hbd)
      have HK := Lib.hid (HK.out.below hbd)
      have HO := Lib.hid (HO.out.below hbd)
      have HW := Lib.hid (HW.out.below hbd)
      have T := Lib.hid (T.out.trans (hbd.mono T.out.size))
      clear hbd
      go_wp2
      go_ret
      exact ⟨rfl, T.out⟩
end Go.Proofs.Ythnepmhkeceadaa
