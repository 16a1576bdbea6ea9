/- Contracts of the reference's trees of digests: l2Leaves, l2Size, l2Root, l2Cover, l2Fold, TreeDigest, at leaves that are digests. -/
import Derived.Test.YtbjndbaljenlgaaTe
namespace Go.Proofs.Ytbjndbaljenlgaa
open Go.RowKit
theorem l2Leaves_c (v : Value) (L : List Int) (w : World) (h : Rd 1 w v L.length (enc1 L)) (hL : ∀ x ∈ L, Dg x) (hn : L.length ≤ 16) : Calls Try.prog 113 #[v] w (RetBool true w) := by
  obtain ⟨-, a, cap, rfl, h1, h2, h3⟩ := h
  unfold maxLen at h2
  have HC := Lib.hid h3
  have HL := Lib.hid hL
  clear h3 hL
  go_enter Try.func113, Try.ntmps113
  go_wp2
  go_loopw [3] (fun i wr => ∃ k : Nat, k ≤ L.length ∧ i = .int .i64 k ∧ Below w.heap.size w wr) (fun i _ => L.length - (intOf i).toNat)
  case atStart => exact ⟨0, Nat.zero_le _, rfl, Below.refl _ _⟩
  case round =>
    obtain ⟨k, hk, rfl, hb⟩ := hrel
    by_cases hlt : k < L.length
    · obtain ⟨b, off, rfl, hc⟩ := HC.out (by omega)
      obtain ⟨z, hz, c1⟩ := at1 hb hc k hlt
      have hd := inB_t (HL.out z (hz ▸ getD_mem hlt)).1 (HL.out z (hz ▸ getD_mem hlt)).2
      clear hc HC hz
      go_wp2_with fail
      refine (l1Digest_c z _).mono ?_
      rintro e w' ⟨rfl, rfl⟩
      go_wp2
      go_roundw
      case rel => exact ⟨k + 1, by omega, by go_num, hb⟩
      case measure => simp [intOf]; omega
    · go_wp2
      go_ret
      exact ⟨ret_bb (by simp; omega), hb⟩
theorem l2Size_c (a n : Nat) (w : World) (hn : n ≤ 16) (ha : a < n) : Calls Try.prog 142 #[.int .i64 a, .int .i64 n] w fun e w' => e = .returned (.int .i64 ((2 ^ sk a n : Nat) : Int)) ∧ w = w' := by
  have HQE := Lib.hid (show ∃ q, q = 2 ^ sk a n from ⟨_, rfl⟩)
  go_enter Try.func142, Try.ntmps142
  go_wp2
  go_loop [5] (fun s => ∃ (j q : Nat), Hid (j ≤ sk a n) ∧ Hid (q = 2 ^ j) ∧ s = .int .i64 q ∧ 1 ≤ q ∧ q ≤ 16) (fun s => 16 - (intOf s).toNat)
  case atStart => exact ⟨0, 1, Lib.hid (Nat.zero_le _), Lib.hid rfl, rfl, by omega, by omega⟩
  case round =>
    obtain ⟨j, q, HJ, HQ, rfl, hq1, hq2⟩ := hrel
    have hq0 : ((2 * (q : Int)) == 0) = false := by rw [beq_eq_false_iff_ne]; omega
    have ht := sk_test hn HJ.out
    rw [← HQ.out] at ht
    by_cases hjs : j < sk a n
    · have ht2 := ht.2 hjs
      have c1 : (a : Int) + 2 * (q : Int) ≤ (n : Int) := by omega
      have c2 : ((a : Int) % (2 * (q : Int)) == 0) = true := by rw [beq_iff_eq]; have := ht2.1; exact_mod_cast congrArg (fun (x : Nat) => (x : Int)) this
      have hq3 : 2 * q ≤ 16 := by omega
      have HJ2 := Lib.hid (show j + 1 ≤ sk a n from hjs)
      have HQ2 := Lib.hid (show 2 * q = 2 ^ (j + 1) by rw [HQ.out, Nat.pow_succ]; omega)
      clear ht ht2 hjs
      go_wp2
      go_round
      case rel => exact ⟨j + 1, 2 * q, HJ2, HQ2, by go_num, by omega, by omega⟩
      case measure => simp [intOf]; omega
    · have hj : j = sk a n := by have := HJ.out; omega
      have HE := Lib.hid (show ((2 ^ sk a n : Nat) : Int) = (q : Int) by rw [HQ.out, hj])
      have hnt := fun h => hjs (ht.1 h)
      clear ht hjs hj HQ HJ
      by_cases h0 : (a : Int) % (2 * (q : Int)) = 0
      · have c2 : ((a : Int) % (2 * (q : Int)) == 0) = true := by rw [beq_iff_eq]; exact h0
        have c1 : ¬ ((a : Int) + 2 * (q : Int) ≤ (n : Int)) := fun h => hnt ⟨by exact_mod_cast h0, by omega⟩
        clear hnt h0
        go_wp2
        go_ret
        exact ⟨ret_i HE.out.symm, rfl⟩
      · have c2 : ((a : Int) % (2 * (q : Int)) == 0) = false := by rw [beq_eq_false_iff_ne]; exact h0
        clear hnt h0
        go_wp2
        go_ret
        exact ⟨ret_i HE.out.symm, rfl⟩
theorem l2Root_c (L : List Int) (hL : ∀ x ∈ L, Dg x) (hn : L.length ≤ 16) (b : Nat) (k : Nat) : ∀ (s o cap : Nat) (w : World), (∀ j, j < 2 ^ k → w.cell? ⟨b, o + j, none⟩ = some (.int .i64 (L.getD (s + j) 0))) → s + 2 ^ k ≤ L.length → 2 ^ k ≤ cap → cap ≤ maxLen →
    Calls Try.prog 143 #[.slice (some ⟨b, o, none⟩) (2 ^ k) cap] w (RetInt (rt L k s) w) := by
  induction k with
  | zero =>
    intro s o cap w h hs hc1 hc2
    unfold maxLen at hc2
    have c1 := h 0 (by simp)
    simp only [Nat.add_zero] at c1
    have hlt : b < w.heap.size := World.block_lt_of_cell? w _ c1
    simp only [rt]
    generalize L.getD s 0 = z at *
    clear h hs hL
    simp only [Nat.pow_zero] at hc1 ⊢
    go_enter Try.func143, Try.ntmps143
    go_wp2
    go_ret
    exact ⟨rfl, by (repeat' (first | exact Below.refl _ _ | assumption | refine Below.drew ?_ | refine below_drewN ?_ _ | refine Below.alloc ?_ (by omega) _ | refine Below.alloc ?_ (by simp; omega) _ | refine Below.alloc ?_ (by simp) _ | refine Below.setCell ?_ (by omega) _ | refine Below.setCell ?_ (by simp; omega) _ | refine Below.setCell ?_ (by simp) _))⟩
  | succ k ih =>
    intro s o cap w h hs hc1 hc2
    have hq1 : 1 ≤ 2 ^ k := Nat.one_le_two_pow
    have hq2 : 2 ^ (k + 1) = 2 * 2 ^ k := by rw [Nat.pow_succ]; omega
    obtain ⟨m, hm⟩ : ∃ m, m = 2 ^ (k + 1) := ⟨_, rfl⟩
    rw [← hm] at h hs hq2 hc1 ⊢
    have d1 := rt_in hL k s (by omega)
    have d2 := rt_in hL k (s + 2 ^ k) (by omega)
    have i1 : ∀ (W : World) (hb : Below w.heap.size w W), Calls Try.prog 143 #[.slice (some ⟨b, o, none⟩) (2 ^ k) cap] W (fun e w' => e = .returned (.int .i64 (rt L k s)) ∧ Below W.heap.size W w') :=
      fun W hb => ih s o cap W (fun j hj => cell_keep hb (h j (by omega))) (by omega) (by omega) hc2
    have i2 : ∀ (W : World) (hb : Below w.heap.size w W), Calls Try.prog 143 #[.slice (some ⟨b, o + 2 ^ k, none⟩) (2 ^ k) (cap - 2 ^ k)] W (fun e w' => e = .returned (.int .i64 (rt L k (s + 2 ^ k))) ∧ Below W.heap.size W w') :=
      fun W hb => ih (s + 2 ^ k) (o + 2 ^ k) (cap - 2 ^ k) W (fun j hj => by have := cell_keep hb (h (2 ^ k + j) (by omega)); rwa [← Nat.add_assoc, ← Nat.add_assoc] at this) (by omega) (by omega) (by omega)
    have e : rt L (k + 1) s = pair (rt L k s) (rt L k (s + 2 ^ k)) := rfl
    rw [e]
    clear e ih h hm
    generalize rt L k s = x1 at *
    generalize rt L k (s + 2 ^ k) = x2 at *
    generalize 2 ^ k = q at *
    unfold maxLen at hc2
    have I1 := Lib.hid i1
    have I2 := Lib.hid i2
    have HD := Lib.hid (And.intro d1 d2)
    have e1 : ((m : Int) == 1) = false := by rw [beq_eq_false_iff_ne]; omega
    have e2 : (m : Int) / 2 = (q : Int) := by clear HD I1 I2; omega
    have hm2 : m = 2 * q := hq2
    have hqc : q < cap := by omega
    have hms : m - q = q := by omega
    have hq16 : q ≤ 16 := by omega
    clear i1 i2 d1 d2 hq2 hm2 hL hs hn
    go_enter Try.func143, Try.ntmps143
    go_wp2
    refine wp_region_sub (by kernel_rfl) (by kernel_rfl) ?_
    repeat (go_big_quiet_step (with_reducible (first | exact Calls.sub (v := .int .i64 x1) (fun W hb => I1.out W hb) | exact Calls.sub (v := .int .i64 x2) (fun W hb => I2.out W hb) | exact Calls.sub_same (v := .int .i64 (pair x1 x2)) (fun W _ => l1Pair_c x1 x2 W HD.out.1 HD.out.2))))
    refine wpQuiet_nil ?_
    rintro _ ⟨xs, rfl⟩
    have HX := Lib.hid xs.b
    go_wp2
    go_ret
    exact ⟨rfl, HX.out⟩
theorem l2Cover_c (v : Value) (L : List Int) (w : World) (h : Rd 1 w v L.length (enc1 L)) (hL : ∀ x ∈ L, Dg x) (hn : L.length ≤ 16) :
    Calls Try.prog 115 #[v, .int .i64 0] w (RetOwn 3 1 (roots L (trees L.length)).length (enc1 (roots L (trees L.length))) w) := by
  obtain ⟨-, a, cap, rfl, h1, h2, h3⟩ := h
  have HM := Lib.hid h2
  unfold maxLen at h2
  have HC := Lib.hid h3
  have HL := Lib.hid hL
  clear h3 hL
  go_enter Try.func115, Try.ntmps115
  go_wp2
  go_loopw [6, 5, 7] (fun i o _ wr => ∃ (p f : Nat) (ts : List (Nat × Nat)) (rs : List Int), i = .int .i64 p ∧ p ≤ L.length ∧ rs.length ≤ p ∧ L.length - p ≤ f ∧ Hid (ts ++ cov L.length f p = trees L.length) ∧ Hid (rs = roots L ts) ∧ wr.ownsRow w.heap.size 3 1 o rs.length (enc1 rs) ∧ Below w.heap.size w wr) (fun i _ _ _ => L.length - (intOf i).toNat)
  case atStart => exact ⟨0, 16, [], [], rfl, Nat.zero_le _, Nat.le_refl _, by omega, Lib.hid rfl, Lib.hid rfl, own_empty w w.heap.size _ 1 (Nat.le_refl _), by (repeat' (first | exact Below.refl _ _ | assumption | refine Below.drew ?_ | refine below_drewN ?_ _ | refine Below.alloc ?_ (by omega) _ | refine Below.alloc ?_ (by simp; omega) _ | refine Below.alloc ?_ (by simp) _ | refine Below.setCell ?_ (by omega) _ | refine Below.setCell ?_ (by simp; omega) _ | refine Below.setCell ?_ (by simp) _))⟩
  case round =>
    obtain ⟨p, f, ts, rs, rfl, hp, hrl, hf, HT, HRS, hown, hb⟩ := hrel
    have hsz := hb.size
    by_cases hlt : p < L.length
    · obtain ⟨b, off, rfl, hc⟩ := HC.out (by omega)
      obtain ⟨f', hf', hcv⟩ := cov_go hlt hf
      have hfit := sk_fit hlt
      have hpos := sk_pos p L.length
      have RC := Lib.hid (fun (W : World) (hB : Below w.heap.size w W) => l2Root_c L HL.out hn b (sk p L.length) p (off + p) (cap - p) W (fun j hj => by
        have := cell_keep hB (hc (p + j) _ (enc1_at L (p + j) 0 (by omega)))
        rwa [← Nat.add_assoc] at this) hfit (by omega) (by unfold maxLen; omega))
      have HT2 := Lib.hid (show (ts ++ [(p, sk p L.length)]) ++ cov L.length f' (p + 2 ^ sk p L.length) = trees L.length by rw [← HT.out, hcv]; simp)
      have HS := Lib.hid (show roots L (ts ++ [(p, sk p L.length)]) = rs ++ [rt L (sk p L.length) p] by rw [roots_app, HRS.out]; rfl)
      have SC := Lib.hid (fun (W : World) => l2Size_c p L.length W hn hlt)
      generalize rt L (sk p L.length) p = x at *
      generalize hqq : 2 ^ sk p L.length = q at *
      have hpc : p < cap := by omega
      have e1 : p + q - p = q := by omega
      have HB := Lib.hid hb
      clear hc HC hcv hqq hf HT HRS
      go_wp2_with fail
      refine (SC.out _).mono ?_
      rintro e w' ⟨rfl, rfl⟩
      go_wp2_with fail
      refine (RC.out _ HB.out).mono ?_
      rintro e w2 ⟨rfl, hb2⟩
      have hown2 := own_below hown hb2
      have hb5 := hb.trans (hb2.mono hsz)
      have hsz2 := hb5.size
      clear hown hb hb2 RC SC HB
      go_wp2_with (at_builtin; refine wpList_app1 _ rfl _ _ 48 rfl w.heap.size 3 Try.underlying48 info_int _ rs rfl hown2 _ _ _ rfl (by omega) hsz2 ?_)
      intro v' w4 qs hqs hql hown4 hg4
      have hb4 := hb5.grown hg4 hsz2 (fun k hk => (hown2.lt k hk).1)
      have HQ4 := Lib.hid (show qs = roots L (ts ++ [(p, sk p L.length)]) by rw [hqs.out, HS.out])
      clear hown2 hb5 hg4 hqs HS
      go_wp2
      go_roundw
      case rel => exact ⟨p + q, f', _, qs, by go_num, by omega, by omega, by omega, HT2, HQ4, hown4, hb4⟩
      case measure => simp [intOf]; omega
    · have e : rs = roots L (trees L.length) := by
        have := HT.out
        rw [cov_end _ f p (by omega), List.append_nil] at this
        rw [← this]; exact HRS.out
      subst e
      go_wp2
      go_ret
      exact ⟨_, rfl, hown, hb⟩
theorem l2Fold_c (v : Value) (n : Int) (ps : List Int) (w : World) (h : Rd 1 w v ps.length (enc1 ps)) (hL : ∀ x ∈ ps, Dg x) (hn : Dg n) : Calls Try.prog 114 #[.int .i64 n, v] w (RetInt (fold n ps) w) := by
  obtain ⟨-, a, cap, rfl, h1, h2, h3⟩ := h
  unfold maxLen at h2
  have HC := Lib.hid h3
  have HL := Lib.hid hL
  have HN := Lib.hid hn
  clear h3 hL hn
  go_enter Try.func114, Try.ntmps114
  go_wp2
  go_loopw [6, 5] (fun i o wr => ∃ (k : Nat) (m : Int), k ≤ ps.length ∧ i = .int .i64 k ∧ o = .int .i64 m ∧ Hid (fold n (ps.take k) = m) ∧ Below w.heap.size w wr) (fun i _ _ => ps.length - (intOf i).toNat)
  case atStart => exact ⟨0, n, Nat.zero_le _, rfl, rfl, Lib.hid rfl, Below.refl _ _⟩
  case round =>
    obtain ⟨k, m, hk, rfl, rfl, HM, hb⟩ := hrel
    by_cases hlt : k < ps.length
    · obtain ⟨b, off, rfl, hc⟩ := HC.out (by omega)
      obtain ⟨z, hz, c1⟩ := at1 hb hc k hlt
      have hd := HL.out z (hz ▸ getD_mem hlt)
      have hm : Dg m := HM.out ▸ fold_in _ _ HN.out
      have HS := Lib.hid (show fold n (ps.take (k + 1)) = pair m z by rw [take_snoc_getD ps k 0 hlt, fold_snoc, HM.out, hz])
      have PC := Lib.hid (fun W => l1Pair_c m z W hm hd)
      clear hc HC hz hd hm
      go_wp2_with fail
      refine (PC.out _).mono ?_
      rintro e w' ⟨rfl, rfl⟩
      go_wp2
      go_roundw
      case rel => exact ⟨k + 1, _, by omega, by go_num, rfl, HS, hb⟩
      case measure => simp [intOf]; omega
    · have e : fold n ps = m := by have := HM.out; rwa [List.take_of_length_le (by omega)] at this
      have HE := Lib.hid e
      clear e
      go_wp2
      go_ret
      exact ⟨ret_i HE.out.symm, hb⟩
theorem specDigest_c (v : Value) (L : List Int) (w : World) (h : Rd 1 w v L.length (enc1 L)) (hL : ∀ x ∈ L, Dg x) (hn : L.length ≤ 16) : Calls Try.prog 75 #[v] w (RetInt (digest L) w) := by
  have HR := Lib.hid h
  have HL := Lib.hid hL
  obtain ⟨-, a, cap, rfl, h1, h2, h3⟩ := h
  unfold maxLen at h2
  clear h3 hL
  go_enter Try.func75, Try.ntmps75
  go_wp2_with fail
  refine (l2Leaves_c _ L _ HR.out HL.out hn).mono ?_
  rintro e w1 ⟨rfl, hb1⟩
  have HR1 := Lib.hid (HR.out.below hb1)
  go_wp2_with fail
  refine (l2Cover_c _ L _ HR1.out HL.out hn).mono ?_
  rintro e w2 ⟨v2, rfl, hown2, hb2⟩
  have hb12 := hb1.trans (hb2.mono hb1.size)
  have HT := Lib.hid (Rd.of_own hown2)
  have HI := Lib.hid (roots_in HL.out)
  have HD := Lib.hid (show Dg (L.length : Int) by unfold Dg; omega)
  clear hb1 hb2 hown2
  go_wp2_with fail
  refine (l2Fold_c _ _ _ _ HT.out HI.out HD.out).mono ?_
  rintro e w3 ⟨rfl, hb3⟩
  have hb4 := hb12.trans (hb3.mono hb12.size)
  clear hb3 hb12
  go_wp2
  go_ret
  exact ⟨rfl, hb4⟩
end Go.Proofs.Ytbjndbaljenlgaa
