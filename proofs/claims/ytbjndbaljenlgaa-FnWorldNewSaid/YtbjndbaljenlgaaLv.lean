/- Readers of lists of texts and of bools, and contracts of BitsCount, l4Count, whole, l11Whole, leaves, l11Leaves. -/
import Derived.Test.YtbjndbaljenlgaaHc
namespace Go.Proofs.Ytbjndbaljenlgaa
open Go.RowKit
def encS (xs : List ByteArray) : List Value := xs.map Value.string
def encB (xs : List Bool) : List Value := xs.map Value.bool
theorem encS_len (xs : List ByteArray) : (encS xs).length = xs.length := by simp [encS]
theorem encB_len (xs : List Bool) : (encB xs).length = xs.length := by simp [encB]
theorem encS_at (xs : List ByteArray) (k : Nat) (h : k < xs.length) : (encS xs)[k]? = some (.string (xs.getD k ByteArray.empty)) := by
  simp [encS, List.getD, h]
theorem encB_at (xs : List Bool) (k : Nat) (h : k < xs.length) : (encB xs)[k]? = some (.bool (xs.getD k false)) := by
  simp [encB, List.getD, h]
theorem cnt_take (hv : List Bool) (k : Nat) (h : k < hv.length) : cnt (hv.take (k + 1)) = cnt (hv.take k) + (if hv.getD k false = true then 1 else 0) := by
  unfold cnt
  rw [take_snoc_getD hv k false h, List.count_append]
  cases hv.getD k false <;> simp
theorem cnt_le (hv : List Bool) : cnt hv ≤ hv.length := List.count_le_length
theorem bitsCount_c (v : Value) (hv : List Bool) (w : World) (h : Rd 1 w v hv.length (encB hv)) (hn : hv.length ≤ 16) : Calls Try.prog 38 #[v] w (RetInt (cnt hv) w) := by
  obtain ⟨-, a, cap, rfl, h1, h2, h3⟩ := h
  unfold maxLen at h2
  have HC := Lib.hid h3
  clear h3
  go_enter Try.func38, Try.ntmps38
  go_wp2
  go_loopw [11, 3, 5] (fun i o _ wr => ∃ k m : Nat, k ≤ hv.length ∧ i = .int .i64 k ∧ o = .int .i64 m ∧ m ≤ k ∧ Hid (cnt (hv.take k) = m) ∧ Below w.heap.size w wr) (fun i _ _ _ => hv.length - (intOf i).toNat)
  case atStart => exact ⟨0, 0, Nat.zero_le _, rfl, rfl, Nat.le_refl _, Lib.hid rfl, Below.refl _ _⟩
  case round =>
    obtain ⟨k, m, hk, rfl, rfl, hmk, HM, hb⟩ := hrel
    by_cases hlt : k < hv.length
    · obtain ⟨b, off, rfl, hc⟩ := HC.out (by omega)
      have c1 := cell_keep hb (hc k _ (encB_at hv k hlt))
      have HT := Lib.hid (cnt_take hv k hlt)
      generalize hv.getD k false = x at *
      clear hc HC
      cases x with
      | true =>
        have HT2 := Lib.hid (show cnt (hv.take (k + 1)) = m + 1 by rw [HT.out, HM.out]; rfl)
        go_wp2
        go_roundw
        case rel => exact ⟨k + 1, m + 1, by omega, by go_num, by go_num, by omega, HT2, hb⟩
        case measure => simp [intOf]; omega
      | false =>
        have HT2 := Lib.hid (show cnt (hv.take (k + 1)) = m by rw [HT.out, HM.out]; rfl)
        go_wp2
        go_roundw
        case rel => exact ⟨k + 1, m, by omega, by go_num, rfl, by omega, HT2, hb⟩
        case measure => simp [intOf]; omega
    · have e : cnt hv = m := by have := HM.out; rwa [List.take_of_length_le (by omega)] at this
      have HE := Lib.hid e
      clear e
      go_wp2
      go_ret
      exact ⟨ret_i (by rw [HE.out]), hb⟩
theorem l4Count_c (v : Value) (hv : List Bool) (w : World) (h : Rd 1 w v hv.length (encB hv)) (hn : hv.length ≤ 16) : Calls Try.prog 112 #[v] w (RetInt (cnt hv) w) := by
  obtain ⟨-, a, cap, rfl, h1, h2, h3⟩ := h
  unfold maxLen at h2
  have HC := Lib.hid h3
  clear h3
  go_enter Try.func112, Try.ntmps112
  go_wp2
  go_loopw [4, 3] (fun i o wr => ∃ k m : Nat, k ≤ hv.length ∧ i = .int .i64 k ∧ o = .int .i64 m ∧ m ≤ k ∧ Hid (cnt (hv.take k) = m) ∧ Below w.heap.size w wr) (fun i _ _ => hv.length - (intOf i).toNat)
  case atStart => exact ⟨0, 0, Nat.zero_le _, rfl, rfl, Nat.le_refl _, Lib.hid rfl, Below.refl _ _⟩
  case round =>
    obtain ⟨k, m, hk, rfl, rfl, hmk, HM, hb⟩ := hrel
    by_cases hlt : k < hv.length
    · obtain ⟨b, off, rfl, hc⟩ := HC.out (by omega)
      have c1 := cell_keep hb (hc k _ (encB_at hv k hlt))
      have HT := Lib.hid (cnt_take hv k hlt)
      generalize hv.getD k false = x at *
      clear hc HC
      cases x with
      | true =>
        have HT2 := Lib.hid (show cnt (hv.take (k + 1)) = m + 1 by rw [HT.out, HM.out]; rfl)
        go_wp2
        go_roundw
        case rel => exact ⟨k + 1, m + 1, by omega, by go_num, by go_num, by omega, HT2, hb⟩
        case measure => simp [intOf]; omega
      | false =>
        have HT2 := Lib.hid (show cnt (hv.take (k + 1)) = m by rw [HT.out, HM.out]; rfl)
        go_wp2
        go_roundw
        case rel => exact ⟨k + 1, m, by omega, by go_num, rfl, by omega, HT2, hb⟩
        case measure => simp [intOf]; omega
    · have e : cnt hv = m := by have := HM.out; rwa [List.take_of_length_le (by omega)] at this
      have HE := Lib.hid e
      clear e
      go_wp2
      go_ret
      exact ⟨ret_i (by rw [HE.out]), hb⟩
end Go.Proofs.Ytbjndbaljenlgaa
