/- Contracts of the small functions on numbers: keys, digests, texts, pairs (both sides). No condition. -/
import Derived.Test.YtbjndbaljenlgaaRd
import Derived.Test.YtbjndbaljenlgaaTr
import Derived.Laws.Strings
import Derived.Laws.DeepStrings4
import Derived.PlainAid
namespace Go.Proofs.Ytbjndbaljenlgaa
open Go.RowKit
theorem ret_i {k : IntKind} {a b : Int} (h : a = b) : Ending.returned (.int k a) = .returned (.int k b) := by rw [h]
theorem ret_bb {a b : Bool} (h : a = b) : Ending.returned (.bool a) = .returned (.bool b) := by rw [h]
def inB (lo hi x : Int) : Bool := decide (lo ≤ x ∧ x ≤ hi)
theorem inB_t {lo hi x : Int} (h1 : lo ≤ x) (h2 : x ≤ hi) : inB lo hi x = true := by simp [inB, h1, h2]
theorem inB_f {lo hi x : Int} (h : ¬ (lo ≤ x ∧ x ≤ hi)) : inB lo hi x = false := by simp only [inB, decide_eq_false_iff_not]; exact h
theorem inB_iff {lo hi x : Int} : inB lo hi x = true ↔ lo ≤ x ∧ x ≤ hi := by simp [inB]
theorem within_c (n lo hi : Int) (w : World) : Calls Try.prog 64 #[.int .i64 n, .int .i64 lo, .int .i64 hi] w fun e w' => e = .returned (.bool (inB lo hi n)) ∧ w = w' := by
  by_cases h : lo ≤ n ∧ n ≤ hi
  · rw [inB_t h.1 h.2]; exact within_t n lo hi w h.1 h.2
  · rw [inB_f h]; exact within_f n lo hi w (by omega)
theorem l6In_c (n lo hi : Int) (w : World) : Calls Try.prog 48 #[.int .i64 n, .int .i64 lo, .int .i64 hi] w fun e w' => e = .returned (.bool (inB lo hi n)) ∧ w = w' := by
  by_cases h : lo ≤ n ∧ n ≤ hi
  · rw [inB_t h.1 h.2]; exact l6In_t n lo hi w h.1 h.2
  · rw [inB_f h]; exact l6In_f n lo hi w (by omega)
theorem isKey_c (n : Int) (w : World) : Calls Try.prog 51 #[.int .i64 n] w fun e w' => e = .returned (.bool (inB 1 996 n)) ∧ w = w' := by
  go_enter Try.func51, Try.ntmps51
  go_wp2_with fail
  refine (within_c n 1 996 _).mono ?_
  rintro e w' ⟨rfl, rfl⟩
  go_wp2
  go_ret
  exact ⟨rfl, rfl⟩
theorem isDigest_c (n : Int) (w : World) : Calls Try.prog 103 #[.int .i64 n] w fun e w' => e = .returned (.bool (inB 0 990 n)) ∧ w = w' := by
  go_enter Try.func103, Try.ntmps103
  go_wp2_with fail
  refine (within_c n 0 990 _).mono ?_
  rintro e w' ⟨rfl, rfl⟩
  go_wp2
  go_ret
  exact ⟨rfl, rfl⟩
theorem l3Key_c (n : Int) (w : World) : Calls Try.prog 47 #[.int .i64 n] w fun e w' => e = .returned (.bool (inB 1 996 n)) ∧ w = w' := by
  go_enter Try.func47, Try.ntmps47
  go_wp2_with fail
  refine (l6In_c n 1 996 _).mono ?_
  rintro e w' ⟨rfl, rfl⟩
  go_wp2
  go_ret
  exact ⟨rfl, rfl⟩
theorem l1Digest_c (n : Int) (w : World) : Calls Try.prog 110 #[.int .i64 n] w fun e w' => e = .returned (.bool (inB 0 990 n)) ∧ w = w' := by
  go_enter Try.func110, Try.ntmps110
  go_wp2_with fail
  refine (l6In_c n 0 990 _).mono ?_
  rintro e w' ⟨rfl, rfl⟩
  go_wp2
  go_ret
  exact ⟨rfl, rfl⟩
theorem pair_c (a b : Int) (w : World) (ha : Dg a) (hb : Dg b) : Calls Try.prog 122 #[.int .i64 a, .int .i64 b] w fun e w' => e = .returned (.int .i64 (pair a b)) ∧ w = w' := by
  have h1 := inB_t ha.1 ha.2
  have h2 := inB_t hb.1 hb.2
  obtain ⟨a0, a1⟩ := ha
  obtain ⟨b0, b1⟩ := hb
  go_enter Try.func122, Try.ntmps122
  go_wp2_with fail
  refine (isDigest_c a _).mono ?_
  rintro e w' ⟨rfl, rfl⟩
  go_wp2_with fail
  refine (isDigest_c b _).mono ?_
  rintro e w' ⟨rfl, rfl⟩
  go_wp2
  go_ret
  exact ⟨rfl, rfl⟩
theorem l1Pair_c (a b : Int) (w : World) (ha : Dg a) (hb : Dg b) : Calls Try.prog 141 #[.int .i64 a, .int .i64 b] w fun e w' => e = .returned (.int .i64 (pair a b)) ∧ w = w' := by
  obtain ⟨a0, a1⟩ := ha
  obtain ⟨b0, b1⟩ := hb
  go_enter Try.func141, Try.ntmps141
  go_wp2
  go_ret
  exact ⟨rfl, rfl⟩
theorem take_snoc (s : ByteArray) (k : Nat) (h : k < s.size) : s.data.toList.take (k + 1) = s.data.toList.take k ++ [s[k]] := by
  rw [List.take_succ_eq_append_getElem (by simpa using h)]; rfl
theorem txt_round (s : ByteArray) (k : Nat) (m : Int) (h : k < s.size) (hm : (s.data.toList.take k).foldl tstep 11 = m) : (s.data.toList.take (k + 1)).foldl tstep 11 = (257 * m + (s[k].toNat : Int) + 1) % 991 := by
  rw [take_snoc s k h, List.foldl_append, hm]; rfl
theorem txt_end (s : ByteArray) (k : Nat) (m : Int) (h : s.size ≤ k) (hm : (s.data.toList.take k).foldl tstep 11 = m) : txt s = m := by
  rw [List.take_of_length_le (by simpa using h)] at hm; exact hm
theorem text_c (s : ByteArray) (w : World) (hs : s.size ≤ 8) : Calls Try.prog 92 #[.string s] w fun e w' => e = .returned (.int .i64 (txt s)) ∧ w = w' := by
  go_enter Try.func92, Try.ntmps92
  go_wp2
  go_loop [3, 4] (fun n i => ∃ (k : Nat) (m : Int), k ≤ s.size ∧ i = .int .i64 k ∧ n = .int .i64 m ∧ 0 ≤ m ∧ m ≤ 990 ∧ Hid ((s.data.toList.take k).foldl tstep 11 = m)) (fun _ i => s.size - (intOf i).toNat)
  case atStart => exact ⟨0, 11, Nat.zero_le _, rfl, rfl, by omega, by omega, Lib.hid rfl⟩
  case round =>
    obtain ⟨k, m, hk, rfl, rfl, hm0, hm1, HM⟩ := hrel
    by_cases hlt : k < s.size
    · have HS := Lib.hid (txt_round s k m hlt HM.out)
      have hb0 : (s[k].toNat : Int) ≤ 255 := by have := UInt8.toNat_lt s[k]; omega
      go_wp2
      go_round
      case rel => exact ⟨k + 1, _, by omega, by go_num, rfl, by omega, by omega, HS⟩
      case measure => simp [intOf]; omega
    · go_wp2
      go_ret
      exact ⟨ret_i (txt_end s k m (by omega) HM.out).symm, rfl⟩
theorem l1Text_c (s : ByteArray) (w : World) (hs : s.size ≤ 64) : Calls Try.prog 116 #[.string s] w fun e w' => e = .returned (.int .i64 (txt s)) ∧ w = w' := by
  go_enter Try.func116, Try.ntmps116
  go_wp2
  go_loop [3, 4] (fun n i => ∃ (k : Nat) (m : Int), k ≤ s.size ∧ i = .int .i64 k ∧ n = .int .i64 m ∧ 0 ≤ m ∧ m ≤ 990 ∧ Hid ((s.data.toList.take k).foldl tstep 11 = m)) (fun _ i => s.size - (intOf i).toNat)
  case atStart => exact ⟨0, 11, Nat.zero_le _, rfl, rfl, by omega, by omega, Lib.hid rfl⟩
  case round =>
    obtain ⟨k, m, hk, rfl, rfl, hm0, hm1, HM⟩ := hrel
    by_cases hlt : k < s.size
    · have HS := Lib.hid (txt_round s k m hlt HM.out)
      have hb0 : (s[k].toNat : Int) ≤ 255 := by have := UInt8.toNat_lt s[k]; omega
      go_wp2
      go_round
      case rel => exact ⟨k + 1, _, by omega, by go_num, rfl, by omega, by omega, HS⟩
      case measure => simp [intOf]; omega
    · go_wp2
      go_ret
      exact ⟨ret_i (txt_end s k m (by omega) HM.out).symm, rfl⟩
end Go.Proofs.Ytbjndbaljenlgaa
