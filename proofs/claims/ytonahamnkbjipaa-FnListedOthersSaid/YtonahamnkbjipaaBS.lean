/- slices.BinarySearchFunc over a directory, with the comparison of DirectoryPut. -/
import Derived.Test.YtonahamnkbjipaaPutS
namespace Go.Proofs.Ytonahamnkbjipaa
open Go.RowKit
theorem cmp_c (x y node : Int) (w : World) (h1 : 0 ≤ x) (h2 : x ≤ 99) (h3 : 0 ≤ node) (h4 : node ≤ 99) : Calls Try.prog 26 #[.agg #[.int .i64 x, .int .i64 y], .int .i64 node] w fun e w' => e = .returned (.int .i64 (x - node)) ∧ Below w.heap.size w w' := by
  go_enter Try.func26, Try.ntmps26
  go_wp2
  go_ret
  exact ⟨rfl, by (repeat' (first | exact Below.refl _ _ | assumption | refine Below.drew ?_ | refine below_drewN ?_ _ | refine Below.alloc ?_ (by omega) _ | refine Below.alloc ?_ (by simp; omega) _ | refine Below.alloc ?_ (by simp) _ | refine Below.setCell ?_ (by omega) _ | refine Below.setCell ?_ (by simp; omega) _ | refine Below.setCell ?_ (by simp) _))⟩
def BSPost (node : Int) (ps : List P2) (w : World) (e : Ending) (w' : World) : Prop :=
  ∃ k : Nat, k ≤ ps.length ∧ (∀ j, j < k → (ps.getD j (0, 0)).1 < node) ∧ (k < ps.length → node ≤ (ps.getD k (0, 0)).1) ∧
    e = .returned (.tuple #[.int .i64 k, .bool (decide (k < ps.length ∧ (ps.getD k (0, 0)).1 = node))]) ∧ Below w.heap.size w w'
def Sorted1 (ps : List P2) : Prop := ∀ i j, i < j → j < ps.length → (ps.getD i (0, 0)).1 < (ps.getD j (0, 0)).1
def Nodes (ps : List P2) : Prop := ∀ k, k < ps.length → 0 ≤ (ps.getD k (0, 0)).1 ∧ (ps.getD k (0, 0)).1 ≤ 99
set_option maxHeartbeats 1600000 in
theorem bs_c (v : Value) (ps : List P2) (node : Int) (w : World) (h : Rd 2 w v ps.length (enc2 ps)) (hs : Sorted1 ps) (ht : Nodes ps) (hn1 : 0 ≤ node) (hn2 : node ≤ 99) (h8 : ps.length ≤ 1000) :
    Calls Try.prog 27 #[v, .int .i64 node, .func (.func 26) #[] #[]] w (BSPost node ps w) := by
  obtain ⟨-, a1, c1, rfl, h1, m1, k1⟩ := h
  unfold maxLen at m1
  have HT := Lib.hid (And.intro hs ht)
  clear hs ht
  obtain ⟨N, hN⟩ : ∃ N, N = ps.length := ⟨_, rfl⟩
  go_enter Try.func27, Try.ntmps27
  go_wp2
  go_loopw [9, 10, 11] (fun i j _ wr => ∃ (p q : Nat), p ≤ q ∧ q ≤ ps.length ∧ i = .int .i64 p ∧ j = .int .i64 q ∧ Below w.heap.size w wr ∧ Hid ((∀ t, t < p → (ps.getD t (0, 0)).1 < node) ∧ (q < ps.length → node ≤ (ps.getD q (0, 0)).1))) (fun i j _ _ => (intOf j).toNat - (intOf i).toNat)
  case atStart => exact ⟨0, ps.length, Nat.zero_le _, Nat.le_refl _, rfl, rfl, Below.refl _ _, fun t ht => absurd ht (Nat.not_lt_zero _), fun h => absurd h (Nat.lt_irrefl _)⟩
  case round =>
    obtain ⟨p, q, hpq, hq, rfl, rfl, hb, HK⟩ := hrel
    have hsz := hb.size
    by_cases hlt : p < q
    · obtain ⟨m, hm1, hm2, hm3⟩ : ∃ m : Nat, ((p : Int) + (q : Int)) / 2 = (m : Int) ∧ p ≤ m ∧ m < q := ⟨(p + q) / 2, by omega, by omega, by omega⟩
      have hm4 : ((p : Int) + (q : Int)) >>> 1 = (m : Int) := by rw [Int.shiftRight_eq_div_pow]; simpa using hm1
      have hlt2 : m < ps.length := by omega
      obtain ⟨b1, o1, rfl, g1⟩ := k1 (by omega)
      obtain ⟨x, y, e1, u1, u2⟩ := at2 hb g1 m hlt2
      have hy := HT.out.2 m hlt2
      rw [e1] at hy
      obtain ⟨hy1, hy2⟩ := hy
      have HE := Lib.hid e1
      clear e1 k1 g1
      go_wp2_with fail
      refine (cmp_c x y node _ hy1 hy2 hn1 hn2).mono ?_
      rintro e w3 ⟨rfl, hb3⟩
      have hb := hb.trans (hb3.mono hsz)
      clear hb3 hsz
      by_cases hf : x < node
      · have hd : x - node < 0 := by omega
        go_wp2
        go_roundw
        case rel => exact ⟨m + 1, q, by omega, hq, by go_num, rfl, hb, fun t ht => by
          rcases Nat.lt_or_ge t m with h | h
          · have := HT.out.1 t m h hlt2
            rw [HE.out] at this
            exact Int.lt_trans this hf
          · obtain rfl : t = m := by omega
            rw [HE.out]; exact hf, HK.out.2⟩
        case measure => simp [intOf]; omega
      · have hd : ¬ (x - node < 0) := by omega
        go_wp2
        go_roundw
        case rel => exact ⟨p, m, hm2, by omega, rfl, rfl, hb, HK.out.1, fun _ => by rw [HE.out]; omega⟩
        case measure => simp [intOf]; omega
    · obtain rfl : p = q := by omega
      by_cases hpn : p < ps.length
      · obtain ⟨b1, o1, rfl, g1⟩ := k1 (by omega)
        obtain ⟨x, y, e1, u1, u2⟩ := at2 hb g1 p hpn
        have hy := HT.out.2 p hpn
        rw [e1] at hy
        obtain ⟨hy1, hy2⟩ := hy
        have HE := Lib.hid e1
        clear e1 k1 g1
        go_wp2_with fail
        refine (cmp_c x y node _ hy1 hy2 hn1 hn2).mono ?_
        rintro e w3 ⟨rfl, hb3⟩
        have hb := hb.trans (hb3.mono hsz)
        clear hb3 hsz
        by_cases hf : x = node
        · have hd : x - node = 0 := by omega
          go_wp2
          go_ret2
          exact ⟨p, hq, HK.out.1, HK.out.2, by rw [HE.out]; first | (simp [hpn, hf]; done) | (simp [hpn, hf]; omega), hb⟩
        · have hd : ¬ (x - node = 0) := by omega
          go_wp2
          go_ret2
          exact ⟨p, hq, HK.out.1, HK.out.2, by rw [HE.out]; first | (simp [hf]; done) | (simp [hf]; omega), hb⟩
      · obtain rfl : p = ps.length := by omega
        clear k1
        go_wp2
        go_ret2
        exact ⟨ps.length, hq, HK.out.1, HK.out.2, by simp, hb⟩
end Go.Proofs.Ytonahamnkbjipaa
