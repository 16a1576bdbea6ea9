/- The walks of the laws on sweeps. -/
import Derived.Test.YtonahamnkbjipaaDrawD
import Derived.Test.YtonahamnkbjipaaEq
namespace Go.Proofs.Ytonahamnkbjipaa
open Go.RowKit
def tm (node : Int) (ps : List P2) : Int := ((ps.find? fun p => p.1 == node).map (·.2)).getD (-1)
theorem tm_none {node : Int} {ps : List P2} (h : ∀ j, j < ps.length → (ps.getD j (0, 0)).1 ≠ node) : tm node ps = -1 := by
  unfold tm
  rw [List.find?_eq_none.2]
  · rfl
  · intro p hp
    obtain ⟨k, hk, rfl⟩ := List.getElem_of_mem hp
    have := h k hk
    rw [List.getD_eq_getElem?_getD, List.getElem?_eq_getElem hk] at this
    simpa using this
theorem tm_at {node : Int} {ps : List P2} (k : Nat) (hk : k < ps.length) (h1 : (ps.getD k (0, 0)).1 = node) (h2 : ∀ j, j < k → (ps.getD j (0, 0)).1 ≠ node) : tm node ps = (ps.getD k (0, 0)).2 := by
  unfold tm
  have e : ps.find? (fun p => p.1 == node) = some (ps.getD k (0, 0)) := by
    rw [List.find?_eq_some_iff_getElem]
    refine ⟨by rw [beq_iff_eq]; exact h1, k, hk, ?_, fun j hj => ?_⟩
    · rw [List.getD_eq_getElem?_getD, List.getElem?_eq_getElem hk]; rfl
    · have := h2 j hj
      rw [List.getD_eq_getElem?_getD, List.getElem?_eq_getElem (Nat.lt_trans hj hk)] at this
      simpa using this
  rw [e]; rfl
theorem rd_drewN {sz : Nat} {w : World} {v : Value} {n : Nat} {flat : List Value} (h : Rd sz w v n flat) (k : Nat) : Rd sz (w.drewN k) v n flat := h.below (below_drewN (Below.refl _ _) _)
theorem ret_i {a b : Int} (h : a = b) : Ending.returned (.int .i64 a) = .returned (.int .i64 b) := by rw [h]
set_option maxHeartbeats 800000 in
theorem timeOf_c (v : Value) (ps : List P2) (node : Int) (w : World) (h : Rd 2 w v ps.length (enc2 ps)) :
    Calls Try.prog 19 #[v, .int .i64 node] w fun e w' => e = .returned (.int .i64 (tm node ps)) ∧ w = w' := by
  obtain ⟨-, a1, c1, rfl, h1, m1, k1⟩ := h
  unfold maxLen at m1
  go_enter Try.func19, Try.ntmps19
  go_wp2
  go_loop [5] (fun i => ∃ k : Nat, k ≤ ps.length ∧ i = .int .i64 k ∧ Hid (∀ j, j < k → (ps.getD j (0, 0)).1 ≠ node)) (fun i => ps.length - (intOf i).toNat)
  case atStart => exact ⟨0, Nat.zero_le _, rfl, fun j hj => absurd hj (Nat.not_lt_zero _)⟩
  case round =>
    obtain ⟨k, hk, rfl, HN⟩ := hrel
    by_cases hlt : k < ps.length
    · obtain ⟨b1, o1, rfl, g1⟩ := k1 (by omega)
      obtain ⟨x, y, e1, u1, u2⟩ := at2 (Below.refl _ _) g1 k hlt
      have HE := Lib.hid e1
      clear e1 g1 k1
      by_cases hx : x = node
      · have hx' : (x == node) = true := by simpa using hx
        have HT := Lib.hid (tm_at (node := node) k hlt (by rw [HE.out]; exact hx) HN.out)
        clear hx
        go_wp2
        go_ret
        exact ⟨ret_i (by rw [HT.out, HE.out]), rfl⟩
      · have hx' : (x == node) = false := by simpa using hx
        have HX := Lib.hid hx
        clear hx
        go_wp2
        go_round
        case rel =>
          refine ⟨k + 1, by omega, by go_num, fun j hj => ?_⟩
          by_cases e : j = k
          · subst e; rw [HE.out]; exact HX.out
          · exact HN.out j (by omega)
        case measure => simp [intOf]; omega
    · have HT := Lib.hid (tm_none (node := node) (ps := ps) (fun j hj => HN.out j (by omega)))
      clear k1
      go_wp2
      go_ret
      exact ⟨ret_i (by rw [HT.out]), rfl⟩
theorem dv_lt {ps : List P2} (h : DV ps) : ∀ i j, i < j → j < ps.length → (ps.getD i (0, 0)).1 < (ps.getD j (0, 0)).1 := by
  intro i j hij hj
  induction j with
  | zero => omega
  | succ j ih =>
    have h1 := (h.2 (j + 1) hj).2.2.2.2 (by omega)
    rw [show j + 1 - 1 = j from by omega] at h1
    by_cases e : i = j
    · subst e; exact h1
    · have := ih (by omega) (by omega); omega
theorem getD_mem {ps : List P2} {k : Nat} (h : k < ps.length) : ps.getD k (0, 0) ∈ ps := by
  rw [List.getD_eq_getElem?_getD, List.getElem?_eq_getElem h]; exact List.getElem_mem h
theorem dv_iff (ps : List P2) : DV ps ↔ ps.length ≤ 8 ∧ (∀ p ∈ ps, 0 ≤ p.1 ∧ p.1 ≤ 99 ∧ 0 ≤ p.2 ∧ p.2 ≤ 999) ∧ ps.Pairwise (fun a b => a.1 < b.1) := by
  constructor
  · intro h
    refine ⟨h.1, fun p hp => ?_, ?_⟩
    · obtain ⟨k, hk, rfl⟩ := List.getElem_of_mem hp
      have := h.2 k hk
      unfold dvAt at this
      rw [List.getD_eq_getElem?_getD, List.getElem?_eq_getElem hk] at this
      exact ⟨this.1, this.2.1, this.2.2.1, this.2.2.2.1⟩
    · rw [List.pairwise_iff_getElem]
      intro i j hi hj hij
      have := dv_lt h i j hij hj
      rwa [List.getD_eq_getElem?_getD, List.getD_eq_getElem?_getD, List.getElem?_eq_getElem hi, List.getElem?_eq_getElem hj] at this
  · rintro ⟨h1, h2, h3⟩
    refine ⟨h1, fun k hk => ?_⟩
    have := h2 _ (getD_mem hk)
    refine ⟨this.1, this.2.1, this.2.2.1, this.2.2.2, fun hk0 => ?_⟩
    rw [List.pairwise_iff_getElem] at h3
    have := h3 (k - 1) k (by omega) hk (by omega)
    rwa [List.getD_eq_getElem?_getD, List.getD_eq_getElem?_getD, List.getElem?_eq_getElem hk, List.getElem?_eq_getElem (show k - 1 < ps.length by omega)]
theorem dv_sw {now : Int} {ps : List P2} (h : DV ps) : DV (sw now ps) := by
  rw [dv_iff] at h ⊢
  exact ⟨Nat.le_trans (sw_le now ps) h.1, fun p hp => h.2.1 p (List.mem_filter.1 hp).1, h.2.2.sublist List.filter_sublist⟩
theorem sw_sw (now : Int) (ps : List P2) : sw now (sw now ps) = sw now ps := by unfold sw; rw [List.filter_filter]; simp
theorem dsw_dsw (now : Int) (ps : List P2) : dsw now (dsw now ps) = dsw now ps := by
  by_cases h : DV ps ∧ 0 ≤ now ∧ now ≤ 999
  · rw [dsw_yes h.1 h.2.1 h.2.2, dsw_yes (dv_sw h.1) h.2.1 h.2.2, sw_sw]
  · rw [dsw_no h]; unfold dsw; split <;> rfl
theorem dsw_le (now : Int) (ps : List P2) : (dsw now ps).length ≤ ps.length := by
  unfold dsw; split
  · exact sw_le now ps
  · simp
/-- In a valid directory the swept one has a node's time exactly if the node is fresh. -/
theorem tm_sw {now : Int} {ps : List P2} (h : DV ps) (k : Nat) (hk : k < ps.length) :
    tm (ps.getD k (0, 0)).1 (sw now ps) = if keepB now (ps.getD k (0, 0)) then (ps.getD k (0, 0)).2 else -1 := by
  have hd := dv_sw (now := now) h
  by_cases hf : keepB now (ps.getD k (0, 0)) = true
  · rw [if_pos hf]
    have hm : ps.getD k (0, 0) ∈ sw now ps := List.mem_filter.2 ⟨getD_mem hk, hf⟩
    obtain ⟨i, hi, he⟩ := List.getElem_of_mem hm
    have he' : (sw now ps).getD i (0, 0) = ps.getD k (0, 0) := by rw [List.getD_eq_getElem?_getD, List.getElem?_eq_getElem hi]; exact he
    rw [tm_at i hi (by rw [he']) (fun j hj => by have := dv_lt hd j i hj hi; rw [he'] at this; omega), he']
  · rw [if_neg hf]
    refine tm_none fun j hj heq => ?_
    have hm := getD_mem hj
    obtain ⟨hm1, hm2⟩ := List.mem_filter.1 hm
    obtain ⟨i, hi, he⟩ := List.getElem_of_mem hm1
    have he' : ps.getD i (0, 0) = (sw now ps).getD j (0, 0) := by rw [List.getD_eq_getElem?_getD, List.getElem?_eq_getElem hi]; exact he
    have hik : i = k := by
      rcases Nat.lt_trichotomy i k with hlt | e | hgt
      · have := dv_lt h i k hlt hk; rw [he'] at this; omega
      · exact e
      · have := dv_lt h k i hgt hi; rw [he'] at this; omega
    subst hik
    rw [he'] at hf
    exact hf hm2
end Go.Proofs.Ytonahamnkbjipaa
