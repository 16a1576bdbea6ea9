/- Contracts of the program's roots, digestOf, TreePeaks, TreeDigest, at leaves that are digests. -/
import Derived.Test.YtbjndbaljenlgaaTd
namespace Go.Proofs.Ytbjndbaljenlgaa
open Go.RowKit
theorem trs_at (ts : List (Nat × Nat)) (i : Nat) (h : i < ts.length) : (trs ts).getD i (0, 0) = ((ts[i].1 : Int), ((2 ^ ts[i].2 : Nat) : Int)) := by
  rw [List.getD_eq_getElem?_getD, List.getElem?_eq_getElem (by rw [trs_len]; exact h)]; simp [trs]
theorem roots_take (L : List Int) (ts : List (Nat × Nat)) (i : Nat) (h : i < ts.length) : roots L (ts.take (i + 1)) = roots L (ts.take i) ++ [rt L ts[i].2 ts[i].1] := by
  rw [List.take_succ_eq_append_getElem h, roots_app]; rfl
theorem roots_len (L : List Int) (ts : List (Nat × Nat)) : (roots L ts).length = ts.length := by simp [roots]
theorem roots_c (tv v : Value) (L : List Int) (ts : List (Nat × Nat)) (w : World) (h : Rd 1 w v L.length (enc1 L)) (hL : ∀ x ∈ L, Dg x) (hn : L.length ≤ 16) (ht : Rd 2 w tv (trs ts).length (enc2 (trs ts))) (hts : ts.length ≤ 16) (hp : ∀ p ∈ ts, p.1 + 2 ^ p.2 ≤ L.length) :
    Calls Try.prog 123 #[tv, v] w (RetOwn 3 1 (roots L ts).length (enc1 (roots L ts)) w) := by
  have HR := Lib.hid h
  have HL := Lib.hid hL
  have HP := Lib.hid hp
  rw [trs_len] at ht
  obtain ⟨-, a, cap, rfl, h1, h2, h3⟩ := ht
  unfold maxLen at h2
  have HC := Lib.hid h3
  clear h3 h hL hp
  go_enter Try.func123, Try.ntmps123
  go_wp2
  go_loopw [11, 5, 7] (fun i o _ wr => ∃ (k : Nat) (rs : List Int), k ≤ ts.length ∧ i = .int .i64 k ∧ rs.length ≤ k ∧ Hid (rs = roots L (ts.take k)) ∧ wr.ownsRow w.heap.size 3 1 o rs.length (enc1 rs) ∧ Below w.heap.size w wr) (fun i _ _ _ => ts.length - (intOf i).toNat)
  case atStart => exact ⟨0, [], Nat.zero_le _, rfl, Nat.zero_le _, Lib.hid rfl, own_empty w w.heap.size _ 1 (Nat.le_refl _), by (repeat' (first | exact Below.refl _ _ | assumption | refine Below.drew ?_ | refine below_drewN ?_ _ | refine Below.alloc ?_ (by omega) _ | refine Below.alloc ?_ (by simp; omega) _ | refine Below.alloc ?_ (by simp) _ | refine Below.setCell ?_ (by omega) _ | refine Below.setCell ?_ (by simp; omega) _ | refine Below.setCell ?_ (by simp) _))⟩
  case round =>
    obtain ⟨k, rs, hk, rfl, hrl, HRS, hown, hb⟩ := hrel
    have hsz := hb.size
    by_cases hlt : k < ts.length
    · obtain ⟨b, off, rfl, hc⟩ := HC.out (by omega)
      obtain ⟨x, y, hxy, c1, c2⟩ := at2 hb hc k (by rw [trs_len]; exact hlt)
      rw [trs_at ts k hlt, Prod.mk.injEq] at hxy
      obtain ⟨rfl, rfl⟩ := hxy
      have HB0 := Lib.hid hb
      have hpk := HP.out ts[k] (List.getElem_mem hlt)
      have HS := Lib.hid (roots_take L ts k hlt)
      obtain ⟨s, es⟩ : ∃ s, ts[k].1 = s := ⟨_, rfl⟩
      obtain ⟨j, ej⟩ : ∃ j, ts[k].2 = j := ⟨_, rfl⟩
      rw [es, ej] at HS
      rw [es] at c1
      rw [ej] at c2
      rw [es, ej] at hpk
      have RC := Lib.hid (fun W (hB : Below w.heap.size w W) => root_c v L HL.out hn j s W (HR.out.below hB) hpk)
      obtain ⟨q, eq⟩ : ∃ q, 2 ^ j = q := ⟨_, rfl⟩
      rw [eq] at RC c2 hpk
      have hown0 := own_below hown ((Below.refl wr.heap.size wr).alloc (Nat.le_refl _) (.cells #[.int .i64 s, .int .i64 q] 138))
      clear hc HC es ej eq
      go_wp2_with fail
      refine (RC.out _ (by (repeat' (first | exact Below.refl _ _ | assumption | refine Below.drew ?_ | refine below_drewN ?_ _ | refine Below.alloc ?_ (by omega) _ | refine Below.alloc ?_ (by simp; omega) _ | refine Below.alloc ?_ (by simp) _ | refine Below.setCell ?_ (by omega) _ | refine Below.setCell ?_ (by simp; omega) _ | refine Below.setCell ?_ (by simp) _)))).mono ?_
      rintro e w2 ⟨rfl, hb2⟩
      have hown2 := own_below hown0 hb2
      have hb3 := HB0.out.trans (((Below.refl wr.heap.size wr).alloc (Nat.le_refl _) (.cells #[.int .i64 s, .int .i64 q] 138)).mono hsz)
      have hb5 := hb3.trans (hb2.mono hb3.size)
      have hsz2 := hb5.size
      clear hown hown0 hb hb2 hb3 RC
      go_wp2_with (at_builtin; refine wpList_app1 _ rfl _ _ 48 rfl w.heap.size 3 Try.underlying48 info_int _ rs rfl hown2 _ _ _ rfl (by omega) hsz2 ?_)
      intro v' w4 qs hqs hql hown4 hg4
      have hb4 := hb5.grown hg4 hsz2 (fun k hk => (hown2.lt k hk).1)
      have HQ4 := Lib.hid (show qs = roots L (ts.take (k + 1)) by rw [hqs.out, HRS.out, HS.out])
      clear hown2 hb5 hg4 hqs HRS HS
      go_wp2
      go_roundw
      case rel => exact ⟨k + 1, qs, by omega, by go_num, by omega, HQ4, hown4, hb4⟩
      case measure => simp [intOf]; omega
    · have e : rs = roots L ts := by have := HRS.out; rwa [List.take_of_length_le (by omega)] at this
      subst e
      go_wp2
      go_ret
      exact ⟨_, rfl, hown, hb⟩
theorem digestOf_c (v : Value) (n : Int) (ps : List Int) (w : World) (h : Rd 1 w v ps.length (enc1 ps)) (hL : ∀ x ∈ ps, Dg x) (hl : ps.length ≤ 16) (hn : Dg n) : Calls Try.prog 90 #[.int .i64 n, v] w (RetInt (fold n ps) w) := by
  obtain ⟨-, a, cap, rfl, h1, h2, h3⟩ := h
  unfold maxLen at h2
  have HC := Lib.hid h3
  have HL := Lib.hid hL
  have HN := Lib.hid hn
  clear h3 hL hn
  go_enter Try.func90, Try.ntmps90
  go_wp2
  go_loopw [9, 0, 6] (fun i o _ wr => ∃ (k : Nat) (m : Int), k ≤ ps.length ∧ i = .int .i64 k ∧ o = .int .i64 m ∧ Hid (fold n (ps.take k) = m) ∧ Below w.heap.size w wr) (fun i _ _ _ => ps.length - (intOf i).toNat)
  case atStart => exact ⟨0, n, Nat.zero_le _, rfl, rfl, Lib.hid rfl, Below.refl _ _⟩
  case round =>
    obtain ⟨k, m, hk, rfl, rfl, HM, hb⟩ := hrel
    by_cases hlt : k < ps.length
    · obtain ⟨b, off, rfl, hc⟩ := HC.out (by omega)
      obtain ⟨z, hz, c1⟩ := at1 hb hc k hlt
      have hd := HL.out z (hz ▸ getD_mem hlt)
      have hm : Dg m := HM.out ▸ fold_in _ _ HN.out
      have HS := Lib.hid (show fold n (ps.take (k + 1)) = pair m z by rw [take_snoc_getD ps k 0 hlt, fold_snoc, HM.out, hz])
      have PC := Lib.hid (fun W => pair_c m z W hm hd)
      clear hc HC hz hd hm
      go_wp2_with fail
      refine (PC.out _).mono ?_
      rintro e w' ⟨rfl, rfl⟩
      go_wp2
      go_roundw
      case rel => exact ⟨k + 1, _, by omega, by go_num, rfl, HS, hb⟩
      case measure => simp [intOf]; omega
    · have e : fold n ps = m := by have := HM.out; rwa [List.take_of_length_le (by omega)] at this
      have HE := Lib.hid e
      clear e
      go_wp2
      go_ret
      exact ⟨ret_i HE.out.symm, hb⟩
theorem peaks_c (v : Value) (L : List Int) (w : World) (h : Rd 1 w v L.length (enc1 L)) (hL : ∀ x ∈ L, Dg x) (hn : L.length ≤ 16) :
    Calls Try.prog 91 #[v] w (RetOwn 3 1 (roots L (trees L.length)).length (enc1 (roots L (trees L.length))) w) := by
  have HR := Lib.hid h
  have HL := Lib.hid hL
  obtain ⟨-, a, cap, rfl, h1, h2, h3⟩ := h
  unfold maxLen at h2
  clear h3 hL
  go_enter Try.func91, Try.ntmps91
  go_wp2_with fail
  refine (areLeaves_c _ L _ HR.out HL.out hn).mono ?_
  rintro e w1 ⟨rfl, hb1⟩
  have HR1 := Lib.hid (HR.out.below hb1)
  go_wp2_with fail
  refine (treesFrom_c L.length _ hn).mono ?_
  rintro e w2 ⟨v2, rfl, hown2, hb2⟩
  have HR2 := Lib.hid (HR1.out.below hb2)
  have hb12 := hb1.trans (hb2.mono hb1.size)
  have ht : Rd 2 w2 v2 (trs (trees L.length)).length (enc2 (trs (trees L.length))) := by rw [trs_len]; exact Rd.of_own hown2
  have HT := Lib.hid ht
  clear hb1 hb2 hown2 ht
  go_wp2_with fail
  refine (roots_c _ _ L (trees L.length) _ HR2.out HL.out hn HT.out (trees_len _) (fun p hp => (cov_in _ _ _ p hp).1)).mono ?_
  rintro e w3 ⟨v3, rfl, hown3, hb3⟩
  have hown4 := own_base hown3 hb12.size
  have hb4 := hb12.trans (hb3.mono hb12.size)
  clear hown3 hb3 hb12
  go_wp2
  go_ret
  exact ⟨_, rfl, hown4, hb4⟩
theorem digest_c (v : Value) (L : List Int) (w : World) (h : Rd 1 w v L.length (enc1 L)) (hL : ∀ x ∈ L, Dg x) (hn : L.length ≤ 16) : Calls Try.prog 39 #[v] w (RetInt (digest L) w) := by
  have HR := Lib.hid h
  have HL := Lib.hid hL
  obtain ⟨-, a, cap, rfl, h1, h2, h3⟩ := h
  unfold maxLen at h2
  clear h3 hL
  go_enter Try.func39, Try.ntmps39
  go_wp2_with fail
  refine (areLeaves_c _ L _ HR.out HL.out hn).mono ?_
  rintro e w1 ⟨rfl, hb1⟩
  have HR1 := Lib.hid (HR.out.below hb1)
  go_wp2_with fail
  refine (peaks_c _ L _ HR1.out HL.out hn).mono ?_
  rintro e w2 ⟨v2, rfl, hown2, hb2⟩
  have hb12 := hb1.trans (hb2.mono hb1.size)
  have HT := Lib.hid (Rd.of_own hown2)
  have HI := Lib.hid (roots_in HL.out)
  have HN := Lib.hid (show (roots L (trees L.length)).length ≤ 16 by rw [roots_len]; exact trees_len _)
  have HD := Lib.hid (show Dg (L.length : Int) by unfold Dg; omega)
  clear hb1 hb2 hown2
  go_wp2_with fail
  refine (digestOf_c _ _ _ _ HT.out HI.out HN.out HD.out).mono ?_
  rintro e w3 ⟨rfl, hb3⟩
  have hb4 := hb12.trans (hb3.mono hb12.size)
  clear hb3 hb12
  go_wp2
  go_ret
  exact ⟨rfl, hb4⟩
end Go.Proofs.Ytbjndbaljenlgaa
