/- Contracts on entries: sizes, copies, equality. -/
import Derived.Test.YthnepmhkeceadaaOw
import Derived.Test.YthnepmhkeceadaaJwA
import Derived.StillTailTactics
namespace Go.Proofs.Ythnepmhkeceadaa
open Go.RowKit
theorem info_int0 : (Try.prog.info? 3).map (fun i => (i.zero, i.size, i.bytes)) = some (some (.int .i64 0), 1, 8) := by kernel_rfl
abbrev zeroE : Value := .agg #[.slice none 0 0, .int .i64 0, .int .i64 0]
theorem info_entry : (Try.prog.info? 32).map (fun i => (i.zero, i.size, i.bytes)) = some (some zeroE, 3, 40) := by kernel_rfl
theorem info_row : (Try.prog.info? 30).map (fun i => (i.zero, i.size, i.bytes)) = some (some (.slice none 0 0), 1, 24) := by kernel_rfl
theorem at1s {S : Nat → Prop} {w : World} {xs : List Int} {b off n cap : Nat} (h : RdS S 1 w (.slice (some ⟨b, off, none⟩) n cap) n (enc1 xs)) (hn : xs.length = n) {k : Nat} (hk : k < n) : ∃ z, w.cell? ⟨b, off + k, none⟩ = some (.int .i64 z) ∧ Hid (xs.getD k 0 = z) := by
  subst hn
  obtain ⟨b', o', c', z, ev, -, -, q, hz⟩ := h.num hk
  simp only [Value.slice.injEq, Option.some.injEq, Addr.mk.injEq, and_true, true_and] at ev
  obtain ⟨⟨rfl, rfl⟩, rfl⟩ := ev
  exact ⟨z, q, hz⟩
def SzPost (left : Int) (small : Prop) (W : World) (e : Ending) (W' : World) : Prop := ∃ r : Int, e = .returned (.int .i64 r) ∧ -1 ≤ r ∧ r ≤ left ∧ (0 ≤ r → small) ∧ Below W.heap.size W W'
theorem szIntS_c (a : Option Addr) (n cap : Nat) (left : Int) (w : World) (hn : n ≤ maxLen) (h0 : 0 ≤ left) (h1 : left ≤ 1048576) :
    Calls Try.prog 68 #[.slice a n cap, .int .i64 left] w (SzPost left (n ≤ 1048576) w) := by
  unfold maxLen at hn
  by_cases hl : left - (n : Int) < 0
  · go_enter Try.func68, Try.ntmps68
    go_wp2
    go_ret
    exact ⟨-1, rfl, by omega, by omega, fun h => by omega, Below.refl _ _⟩
  · go_enter Try.func68, Try.ntmps68
    go_wp2
    go_ret
    exact ⟨_, rfl, by omega, by omega, fun h => by omega, Below.refl _ _⟩
theorem szEntry_c (a : Option Addr) (n cap : Nat) (x y left : Int) (w : World) (hn : n ≤ maxLen) (h0 : 0 ≤ left) (h1 : left ≤ 1048576) :
    Calls Try.prog 63 #[.agg #[.slice a n cap, .int .i64 x, .int .i64 y], .int .i64 left] w (SzPost left (n ≤ 1048576) w) := by
  have hb0 : Below w.heap.size w (w.alloc (.cells #[.slice a n cap, .int .i64 x, .int .i64 y] 75)) := by (repeat' (first | exact Below.refl _ _ | assumption | refine Below.drew ?_ | refine below_drewN ?_ _ | refine Below.alloc ?_ (by omega) _ | refine Below.alloc ?_ (by simp; omega) _ | refine Below.alloc ?_ (by simp) _ | refine Below.setCell ?_ (by omega) _ | refine Below.setCell ?_ (by simp; omega) _ | refine Below.setCell ?_ (by simp) _))
  have HB := Lib.hid hb0
  have hz := hb0.size
  clear hb0
  go_enter Try.func63, Try.ntmps63
  go_wp2_with fail
  refine (szIntS_c a n cap left _ hn h0 h1).mono ?_
  rintro e w1 ⟨r, rfl, r1, r2, r3, hb1⟩
  have HR := Lib.hid (And.intro r3 (HB.out.trans (hb1.mono hz)))
  clear r3 hb1
  by_cases hr : r < 0
  · go_wp2
    go_ret
    exact ⟨-1, rfl, by omega, by omega, fun h => by omega, HR.out.2⟩
  · go_wp2
    go_ret
    exact ⟨r, rfl, by omega, by omega, fun h => HR.out.1 (by omega), HR.out.2⟩
def SmR (es : List Ent) : Prop := es.length ≤ 1048576 ∧ ∀ i, i < es.length → (es.getD i e0).1.length ≤ 1048576
set_option maxHeartbeats 800000 in
theorem szEntryS_c {S : Nat → Prop} (v : Value) (es : List Ent) (left : Int) (w : World) (h : RdR S w v es) (h0 : 0 ≤ left) (h1 : left ≤ 1048576) :
    Calls Try.prog 49 #[v, .int .i64 left] w (SzPost left (SmR es) w) := by
  obtain ⟨-, a, cap, rfl, q1, q2, q3⟩ := h
  have HQ := Lib.hid q3
  unfold maxLen at q2
  clear q3
  by_cases hl : left - (es.length : Int) < 0
  · go_enter Try.func49, Try.ntmps49
    go_wp2
    go_ret
    exact ⟨-1, rfl, by omega, by omega, fun h => by omega, Below.refl _ _⟩
  · go_enter Try.func49, Try.ntmps49
    go_wp2
    go_loopw [5, 1] (fun i' l wr => ∃ (k : Nat) (r : Int), k ≤ es.length ∧ i' = .int .i64 k ∧ l = .int .i64 r ∧ 0 ≤ r ∧ r ≤ left - (es.length : Int) ∧ Hid (Below w.heap.size w wr) ∧ Hid (∀ i, i < k → (es.getD i e0).1.length ≤ 1048576)) (fun i' _ _ => es.length - (intOf i').toNat)
    case atStart => exact ⟨0, _, Nat.zero_le _, rfl, rfl, by omega, by omega, Below.refl _ _, fun i hi => absurd hi (Nat.not_lt_zero _)⟩
    case round =>
      obtain ⟨k, r, hk, rfl, rfl, r0, r1, HB, HN⟩ := hrel
      by_cases hlt : k < es.length
      · obtain ⟨b, off, rfl, hc⟩ := HQ.out (by omega)
        obtain ⟨cv, ⟨-, c1⟩, hr, ⟨-, c2⟩, -, c3⟩ := hc k hlt
        obtain ⟨a3, c3', rfl, p1, p2⟩ := hr.shape
        have c1 := cell_keep HB.out c1
        have c2 := cell_keep HB.out c2
        have c3 := cell_keep HB.out c3
        obtain ⟨key, hkey⟩ : ∃ L, (es.getD k e0).2.1 = L := ⟨_, rfl⟩
        obtain ⟨val, hval⟩ : ∃ L, (es.getD k e0).2.2 = L := ⟨_, rfl⟩
        obtain ⟨n, hn⟩ : ∃ L, (es.getD k e0).1.length = L := ⟨_, rfl⟩
        rw [hkey] at c2
        rw [hval] at c3
        rw [hn] at c1 p1
        have HNn := Lib.hid hn
        clear hc hr hkey hval hn
        have hsz := HB.out.size
        go_wp2_with fail
        refine (szEntry_c a3 n c3' key val r _ (by unfold maxLen at p2 ⊢; omega) r0 (by omega)).mono ?_
        rintro e w1 ⟨r', rfl, t1, t2, t3, hb1⟩
        have HT := Lib.hid t3
        have HB1 := Lib.hid (HB.out.trans (hb1.mono hsz))
        clear t3 hb1
        by_cases hr : r' < 0
        · go_wp2
          go_ret
          exact ⟨-1, rfl, by omega, by omega, fun h => by omega, HB1.out⟩
        · go_wp2
          go_roundw
          case rel => exact ⟨k + 1, r', by omega, by go_num, rfl, by omega, by omega, HB1, fun i hi => by
            by_cases e : i = k
            · subst e; rw [HNn.out]; exact HT.out (by omega)
            · exact HN.out i (by omega)⟩
          case measure => simp [intOf]; omega
      · obtain rfl : k = es.length := by omega
        go_wp2
        go_ret
        exact ⟨r, rfl, by omega, by omega, fun _ => ⟨by omega, HN.out⟩, HB.out⟩
def SmF (F : Fd) : Prop := F.length ≤ 1048576 ∧ ∀ j, j < F.length → SmR (F.getD j [])
set_option maxHeartbeats 800000 in
theorem szEntrySS_c {S : Nat → Prop} (v : Value) (F : Fd) (left : Int) (w : World) (h : RdF S w v F) (h0 : 0 ≤ left) (h1 : left ≤ 1048576) :
    Calls Try.prog 17 #[v, .int .i64 left] w (SzPost left (SmF F) w) := by
  obtain ⟨-, a, cap, rfl, q1, q2, q3⟩ := h
  have HQ := Lib.hid q3
  unfold maxLen at q2
  clear q3
  by_cases hl : left - (F.length : Int) < 0
  · go_enter Try.func17, Try.ntmps17
    go_wp2
    go_ret
    exact ⟨-1, rfl, by omega, by omega, fun h => by omega, Below.refl _ _⟩
  · go_enter Try.func17, Try.ntmps17
    go_wp2
    go_loopw [5, 1] (fun i' l wr => ∃ (k : Nat) (r : Int), k ≤ F.length ∧ i' = .int .i64 k ∧ l = .int .i64 r ∧ 0 ≤ r ∧ r ≤ left - (F.length : Int) ∧ Hid (Below w.heap.size w wr) ∧ Hid (∀ i, i < k → SmR (F.getD i []))) (fun i' _ _ => F.length - (intOf i').toNat)
    case atStart => exact ⟨0, _, Nat.zero_le _, rfl, rfl, by omega, by omega, Below.refl _ _, fun i hi => absurd hi (Nat.not_lt_zero _)⟩
    case round =>
      obtain ⟨k, r, hk, rfl, rfl, r0, r1, HB, HN⟩ := hrel
      by_cases hlt : k < F.length
      · obtain ⟨b, off, rfl, hc⟩ := HQ.out (by omega)
        obtain ⟨rv, ⟨-, c1⟩, hr⟩ := hc k hlt
        have c1 := cell_keep HB.out c1
        obtain ⟨R, hR⟩ : ∃ R, F.getD k [] = R := ⟨_, rfl⟩
        rw [hR] at hr
        have HRR := Lib.hid hR
        have HR := Lib.hid (hr.below HB.out)
        obtain ⟨-, a3, c3', rfl, p1, p2, -⟩ := hr
        clear hc hR
        have hsz := HB.out.size
        go_wp2_with fail
        refine (szEntryS_c _ R r _ HR.out r0 (by omega)).mono ?_
        rintro e w1 ⟨r', rfl, t1, t2, t3, hb1⟩
        have HT := Lib.hid t3
        have HB1 := Lib.hid (HB.out.trans (hb1.mono hsz))
        clear t3 hb1
        by_cases hr : r' < 0
        · go_wp2
          go_ret
          exact ⟨-1, rfl, by omega, by omega, fun h => by omega, HB1.out⟩
        · go_wp2
          go_roundw
          case rel => exact ⟨k + 1, r', by omega, by go_num, rfl, by omega, by omega, HB1, fun i hi => by
            by_cases e : i = k
            · subst e; rw [HRR.out]; exact HT.out (by omega)
            · exact HN.out i (by omega)⟩
          case measure => simp [intOf]; omega
      · obtain rfl : k = F.length := by omega
        go_wp2
        go_ret
        exact ⟨r, rfl, by omega, by omega, fun _ => ⟨by omega, HN.out⟩, HB.out⟩
theorem take_step1 {α : Type} (xs ys : List α) (k : Nat) (u : α) (hk : k < xs.length) (h : xs.take k = ys) : (xs.set k u).take (k + 1) = ys ++ [u] := take_step xs ys k u hk h
set_option maxHeartbeats 400000 in
theorem toIntS_c {S : Nat → Prop} (v : Value) (ps : List Int) (w : World) (h : RdS S 1 w v ps.length (enc1 ps)) (hn : ps.length ≤ 1048576) :
    Calls Try.prog 19 #[v] w (RetOwn 3 1 ps.length (enc1 ps) w) := by
  obtain ⟨-, -, a1, c1, rfl, h1, m1, k1⟩ := h
  unfold maxLen at m1
  obtain ⟨i0, hi, hz0, hz1, hz2⟩ := info_parts info_int0
  go_enter Try.func19, Try.ntmps19
  go_wp2_with (at_make; refine wpList_make_full _ rfl _ _ 24 rfl w.heap.size 3 i0 (.int .i64 0) 1 Try.underlying24 hi hz0 hz1 .i64 .i64 _ _ ps.length rfl rfl rfl rfl ?c1 ?c2 ?c3 ?_)
  case c1 => rw [hz2]; omega
  case c2 => unfold maxLen; omega
  case c3 => simp
  intro w1 hown hgrow
  have hb1 := grown_below hgrow (Nat.le_refl _) (fun k hk => by cases hk)
  clear hz0 hz1 hz2 hi
  go_wp2
  go_loopw [4] (fun i wr => ∃ k : Nat, k ≤ ps.length ∧ i = .int .i64 k ∧ Below w.heap.size w wr ∧ ∃ xs : List Value, xs.take k = enc1 (ps.take k) ∧ wr.ownsRow w.heap.size 3 1 (.slice (some ⟨w.heap.size, 0, none⟩) ps.length ps.length) ps.length xs) (fun i _ => ps.length - (intOf i).toNat)
  case atStart => exact ⟨0, Nat.zero_le _, rfl, hb1, _, rfl, hown⟩
  case round =>
    clear hown hb1 hgrow w1
    obtain ⟨k, hk, rfl, hb, xs, hxs, hown⟩ := hrel
    have hsz := hb.size
    by_cases hlt : k < ps.length
    · obtain ⟨b1, o1, rfl, g1⟩ := k1 (by omega)
      have u1 := cell_keep hb (g1 k _ (enc1_at ps k 0 hlt)).2
      obtain ⟨x, hx⟩ : ∃ x, ps.getD k 0 = x := ⟨_, rfl⟩
      rw [hx] at u1
      have hs := take_snoc_getD ps k 0 hlt
      rw [hx] at hs
      have HX := Lib.hid (And.intro hxs hs)
      clear k1 g1 hxs hs hx
      have hl : xs.length = ps.length * 1 := hown.1
      have c1 := hown.cellAt k (by omega)
      have f1 := hown.frozenAt k
      rw [List.getElem?_eq_getElem (by omega)] at c1
      obtain ⟨z1, hz1⟩ : ∃ z, xs[k]'(by omega) = z := ⟨_, rfl⟩
      rw [hz1] at c1
      have HL := Lib.hid hl
      clear hz1 hl
      go_wp2
      go_roundw
      case rel =>
        have s1 := hown.stored k (.int .i64 x)
        exact ⟨k + 1, by omega, by go_num, hb.setCell (Nat.le_refl _) _, _, by
          rw [HX.out.2, enc1_snoc]; exact take_step xs _ k _ (by rw [HL.out]; omega) HX.out.1, s1.1⟩
      case measure => simp [intOf]; omega
    · obtain rfl : k = ps.length := by omega
      have HX := Lib.hid hxs
      clear hxs
      go_wp2
      go_ret
      refine ⟨_, rfl, ?_, hb⟩
      have e2 := HX.out
      rw [List.take_of_length_le (by rw [hown.1]; omega), List.take_of_length_le (Nat.le_refl _)] at e2
      rw [← e2]
      exact hown
end Go.Proofs.Ythnepmhkeceadaa
