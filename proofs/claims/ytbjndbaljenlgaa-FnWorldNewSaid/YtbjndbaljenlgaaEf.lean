/- Contracts on feeds as the exact laws want them: sizes, copies, equality. -/
import Derived.Test.YtbjndbaljenlgaaFk
namespace Go.Proofs.Ytbjndbaljenlgaa
open Go.RowKit
/-- every text fits in memory -/
def Fits (bs : List ByteArray) : Prop := ∀ i, i < bs.length → (bs.getD i ByteArray.empty).size ≤ maxLen
def SzP (left : Int) (small : Prop) (w : World) (e : Ending) (w' : World) : Prop := ∃ r : Int, e = .returned (.int .i64 r) ∧ -1 ≤ r ∧ r ≤ left ∧ (0 ≤ r → small) ∧ Below w.heap.size w w'
theorem szBoolS_c (a : Option Addr) (n cap : Nat) (left : Int) (w : World) (hn : n ≤ maxLen) (h0 : 0 ≤ left) (h1 : left ≤ 1048576) :
    Calls Try.prog 72 #[.slice a n cap, .int .i64 left] w (SzP left (n ≤ 1048576) w) := by
  unfold maxLen at hn
  by_cases hl : left - (n : Int) < 0
  · go_enter Try.func72, Try.ntmps72
    go_wp2
    go_ret
    exact ⟨-1, rfl, by omega, by omega, fun h => by omega, Below.refl _ _⟩
  · go_enter Try.func72, Try.ntmps72
    go_wp2
    go_ret
    exact ⟨_, rfl, by omega, by omega, fun h => by omega, Below.refl _ _⟩
theorem szStringS_c (v : Value) (bs : List ByteArray) (left : Int) (w : World) (h : Rd 1 w v bs.length (encS bs)) (hf : Fits bs) (h0 : 0 ≤ left) (h1 : left ≤ 1048576) :
    Calls Try.prog 71 #[v, .int .i64 left] w (SzP left (bs.length ≤ 1048576) w) := by
  obtain ⟨-, a, cap, rfl, q1, q2, q3⟩ := h
  have HQ := Lib.hid q3
  have HF := Lib.hid hf
  unfold maxLen at q2
  clear q3 hf
  by_cases hl : left - (bs.length : Int) < 0
  · go_enter Try.func71, Try.ntmps71
    go_wp2
    go_ret
    exact ⟨-1, rfl, by omega, by omega, fun h => by omega, Below.refl _ _⟩
  · go_enter Try.func71, Try.ntmps71
    go_wp2
    go_loopw [5, 1] (fun i' l wr => ∃ (k : Nat) (r : Int), k ≤ bs.length ∧ i' = .int .i64 k ∧ l = .int .i64 r ∧ 0 ≤ r ∧ r ≤ left - (bs.length : Int) ∧ Hid (Below w.heap.size w wr)) (fun i' _ _ => bs.length - (intOf i').toNat)
    case atStart => exact ⟨0, _, Nat.zero_le _, rfl, rfl, by omega, by omega, Below.refl _ _⟩
    case round =>
      obtain ⟨k, r, hk, rfl, rfl, r0, r1, HB⟩ := hrel
      by_cases hlt : k < bs.length
      · obtain ⟨b, off, rfl, hc⟩ := HQ.out (by omega)
        have c1 := cell_keep HB.out (hc k _ (encS_at bs k hlt))
        have hz := HF.out k hlt
        unfold maxLen at hz
        generalize bs.getD k ByteArray.empty = s at *
        obtain ⟨z, ez⟩ : ∃ z, s.size = z := ⟨_, rfl⟩
        rw [ez] at hz
        clear hc HQ HF
        by_cases hr : r - (z : Int) < 0
        · have hr' : r - (s.size : Int) < 0 := by omega
          have hz' : s.size ≤ 2 ^ 63 - 1 := by omega
          go_wp2
          go_ret
          exact ⟨-1, rfl, by omega, by omega, fun h => by omega, HB.out⟩
        · have hr' : ¬ r - (s.size : Int) < 0 := by omega
          have hz' : s.size ≤ 2 ^ 63 - 1 := by omega
          go_wp2
          go_roundw
          case rel => exact ⟨k + 1, r - (s.size : Int), by omega, by go_num, by go_num, by omega, by omega, HB⟩
          case measure => simp [intOf]; omega
      · obtain rfl : k = bs.length := by omega
        clear HQ HF
        go_wp2
        go_ret
        exact ⟨r, rfl, by omega, by omega, fun h => by omega, HB.out⟩
theorem szFeed_c (f : FeedV) (vb vh : Value) (left : Int) (w : World) (hb : Rd 1 w vb f.bs.length (encS f.bs)) (hh : Rd 1 w vh f.hv.length (encB f.hv)) (hf : Fits f.bs) (h0 : 0 ≤ left) (h1 : left ≤ 1048576) :
    Calls Try.prog 30 #[.agg #[.int .i64 f.pub, .int .i64 f.len, .int .i64 f.dig, .int .i64 f.sign, vb, vh], .int .i64 left] w (SzP left (f.bs.length ≤ 1048576 ∧ f.hv.length ≤ 1048576) w) := by
  have SS := Lib.hid (fun W (hW : Below w.heap.size w W) => szStringS_c vb f.bs left W (hb.below hW) hf h0 h1)
  obtain ⟨-, a1, k1, rfl, hb1, hb2, -⟩ := hb
  obtain ⟨-, a2, k2, rfl, hh1, hh2, -⟩ := hh
  have SB := Lib.hid (fun l W (g0 : 0 ≤ l) (g1 : l ≤ 1048576) => szBoolS_c a2 f.hv.length k2 l W (Nat.le_trans hh1 hh2) g0 g1)
  obtain ⟨p, len, dig, sign, bs, hv⟩ := f
  dsimp only at *
  unfold maxLen at hb2 hh2
  clear hf
  generalize bs.length = n1 at *
  generalize hv.length = n2 at *
  obtain ⟨W0, hW0⟩ : ∃ W0, W0 = w.alloc (.cells #[.int .i64 p, .int .i64 len, .int .i64 dig, .int .i64 sign, .slice a1 n1 k1, .slice a2 n2 k2] 57) := ⟨_, rfl⟩
  have hB0 : Below w.heap.size w W0 := by rw [hW0]; (repeat' (first | exact Below.refl _ _ | assumption | refine Below.drew ?_ | refine below_drewN ?_ _ | refine Below.alloc ?_ (by omega) _ | refine Below.alloc ?_ (by simp; omega) _ | refine Below.alloc ?_ (by simp) _ | refine Below.setCell ?_ (by omega) _ | refine Below.setCell ?_ (by simp; omega) _ | refine Below.setCell ?_ (by simp) _))
  have c4 : W0.cell? ⟨w.heap.size, 4, none⟩ = some (.slice a1 n1 k1) := by rw [hW0]; simp
  have c5 : W0.cell? ⟨w.heap.size, 5, none⟩ = some (.slice a2 n2 k2) := by rw [hW0]; simp
  have HB := Lib.hid hB0
  clear hB0
  go_enter Try.func30, Try.ntmps30
  go_wp2_with fail
  rw [← hW0]
  clear hW0
  refine (SS.out _ HB.out).mono ?_
  rintro e w2 ⟨r, rfl, r1, r2, r3, hb2'⟩
  have c5 := cell_keep hb2' c5
  have HB := Lib.hid (HB.out.trans (hb2'.mono HB.out.size))
  have H3 := Lib.hid r3
  clear hb2' r3
  by_cases hr : r < 0
  · go_wp2
    go_ret
    exact ⟨-1, rfl, by omega, by omega, fun h => by omega, HB.out⟩
  · go_wp2_with fail
    refine (SB.out _ _ (by omega) (by omega)).mono ?_
    rintro e w3 ⟨q, rfl, q1, q2, q3, hb3⟩
    have HB := Lib.hid (HB.out.trans (hb3.mono HB.out.size))
    have H4 := Lib.hid q3
    clear hb3 q3
    by_cases hq : q < 0
    · go_wp2
      go_ret
      exact ⟨-1, rfl, by omega, by omega, fun h => by omega, HB.out⟩
    · go_wp2
      go_ret
      exact ⟨q, rfl, by omega, by omega, fun h => ⟨H3.out (by omega), H4.out (by omega)⟩, HB.out⟩
theorem toHead_c (len dig sign : Int) (w : World) : Calls Try.prog 77 #[.agg #[.int .i64 len, .int .i64 dig, .int .i64 sign]] w fun e w' => e = .returned (.agg #[.int .i64 len, .int .i64 dig, .int .i64 sign]) ∧ Below w.heap.size w w' := by
  go_enter Try.func77, Try.ntmps77
  go_wp2
  refine bodyPost_ret (v := .agg #[.int .i64 len, .int .i64 dig, .int .i64 sign]) (by simp [results, Try.results77, go_sem]) rfl ⟨rfl, ?_⟩
  (repeat' (first | exact Below.refl _ _ | assumption | refine Below.drew ?_ | refine below_drewN ?_ _ | refine Below.alloc ?_ (by omega) _ | refine Below.alloc ?_ (by simp; omega) _ | refine Below.alloc ?_ (by simp) _ | refine Below.setCell ?_ (by omega) _ | refine Below.setCell ?_ (by simp; omega) _ | refine Below.setCell ?_ (by simp) _))
theorem eqHead_c (len dig sign : Int) (w : World) : Calls Try.prog 80 #[.agg #[.int .i64 len, .int .i64 dig, .int .i64 sign], .agg #[.int .i64 len, .int .i64 dig, .int .i64 sign]] w (RetBool true w) := by
  go_enter Try.func80, Try.ntmps80
  go_wp2
  go_ret
  exact ⟨rfl, by (repeat' (first | exact Below.refl _ _ | assumption | refine Below.drew ?_ | refine below_drewN ?_ _ | refine Below.alloc ?_ (by omega) _ | refine Below.alloc ?_ (by simp; omega) _ | refine Below.alloc ?_ (by simp) _ | refine Below.setCell ?_ (by omega) _ | refine Below.setCell ?_ (by simp; omega) _ | refine Below.setCell ?_ (by simp) _))⟩
theorem encS_snoc (ps : List ByteArray) (p : ByteArray) : encS (ps ++ [p]) = encS ps ++ [.string p] := by simp [encS]
theorem encB_snoc (ps : List Bool) (p : Bool) : encB (ps ++ [p]) = encB ps ++ [.bool p] := by simp [encB]
theorem info_string : (Try.prog.info? 9).map (fun i => (i.zero, i.size, i.bytes)) = some (some (.string ByteArray.empty), 1, 16) := by kernel_rfl
theorem toStringS_c (v : Value) (ps : List ByteArray) (w : World) (h : Rd 1 w v ps.length (encS ps)) (hn : ps.length ≤ 1048576) :
    Calls Try.prog 78 #[v] w (RetOwn 9 1 ps.length (encS ps) w) := by
  obtain ⟨-, a1, c1, rfl, h1, m1, k1⟩ := h
  unfold maxLen at m1
  obtain ⟨i0, hi, hz0, hz1, hz2⟩ := info_parts info_string
  go_enter Try.func78, Try.ntmps78
  go_wp2_with (at_make; refine wpList_make_full _ rfl _ _ 36 rfl w.heap.size 9 i0 (.string ByteArray.empty) 1 Try.underlying36 hi hz0 hz1 .i64 .i64 _ _ ps.length rfl rfl rfl rfl ?c1 ?c2 ?c3 ?_)
  case c1 => rw [hz2]; omega
  case c2 => unfold maxLen; omega
  case c3 => simp
  intro w1 hown hgrow
  have hb1 := grown_below hgrow (Nat.le_refl _) (fun k hk => by cases hk)
  clear hz0 hz1 hz2 hi
  go_wp2
  go_loopw [4] (fun i wr => ∃ k : Nat, k ≤ ps.length ∧ i = .int .i64 k ∧ Below w.heap.size w wr ∧ ∃ xs : List Value, xs.take k = encS (ps.take k) ∧ wr.ownsRow w.heap.size 9 1 (.slice (some ⟨w.heap.size, 0, none⟩) ps.length ps.length) ps.length xs) (fun i _ => ps.length - (intOf i).toNat)
  case atStart => exact ⟨0, Nat.zero_le _, rfl, hb1, _, rfl, hown⟩
  case round =>
    clear hown hb1 hgrow w1
    obtain ⟨k, hk, rfl, hb, xs, hxs, hown⟩ := hrel
    have hsz := hb.size
    by_cases hlt : k < ps.length
    · obtain ⟨b1, o1, rfl, g1⟩ := k1 (by omega)
      have u1 := cell_keep hb (g1 k _ (encS_at ps k hlt))
      obtain ⟨x, hx⟩ : ∃ x, ps.getD k ByteArray.empty = x := ⟨_, rfl⟩
      rw [hx] at u1
      have hs := take_snoc_getD ps k ByteArray.empty hlt
      rw [hx] at hs
      have HX := Lib.hid (And.intro hxs hs)
      clear k1 g1 hxs hs hx
      have hl : xs.length = ps.length * 1 := hown.1
      have c1 := hown.cellAt k (by omega)
      have f1 := hown.frozenAt k
      rw [List.getElem?_eq_getElem (by omega)] at c1
      obtain ⟨z1, hz1⟩ : ∃ z, xs[k]'(by omega) = z := ⟨_, rfl⟩
      rw [hz1] at c1
      have HL := Lib.hid hl
      clear hz1 hl
      go_wp2
      go_roundw
      case rel =>
        have s1 := hown.stored k (.string x)
        exact ⟨k + 1, by omega, by go_num, hb.setCell (Nat.le_refl _) _, _, by
          rw [HX.out.2, encS_snoc]; exact take_step xs _ k _ (by rw [HL.out]; omega) HX.out.1, s1.1⟩
      case measure => simp [intOf]; omega
    · obtain rfl : k = ps.length := by omega
      have HX := Lib.hid hxs
      clear hxs
      go_wp2
      go_ret
      have hl : xs.length = ps.length * 1 := hown.1
      have e := HX.out
      rw [List.take_of_length_le (by omega), List.take_of_length_le (by omega)] at e
      subst e
      exact ⟨_, rfl, hown, hb⟩
theorem eqStringS_c (v1 v2 : Value) (ps : List ByteArray) (w : World) (h1 : Rd 1 w v1 ps.length (encS ps)) (h2 : Rd 1 w v2 ps.length (encS ps)) :
    Calls Try.prog 81 #[v1, v2] w (RetBool true w) := by
  obtain ⟨-, a1, c1, rfl, p1, m1, k1⟩ := h1
  obtain ⟨-, a2, c2, rfl, p2, m2, k2⟩ := h2
  unfold maxLen at m1 m2
  have HC1 := Lib.hid k1
  have HC2 := Lib.hid k2
  clear k1 k2
  go_enter Try.func81, Try.ntmps81
  go_wp2
  go_loopw [5] (fun i wr => ∃ k : Nat, k ≤ ps.length ∧ i = .int .i64 k ∧ Hid (Below w.heap.size w wr)) (fun i _ => ps.length - (intOf i).toNat)
  case atStart => exact ⟨0, Nat.zero_le _, rfl, Below.refl _ _⟩
  case round =>
    obtain ⟨k, hk, rfl, HB⟩ := hrel
    by_cases hlt : k < ps.length
    · obtain ⟨b1, o1, rfl, g1⟩ := HC1.out (by omega)
      obtain ⟨b2, o2, rfl, g2⟩ := HC2.out (by omega)
      have u1 := cell_keep HB.out (g1 k _ (encS_at ps k hlt))
      have u2 := cell_keep HB.out (g2 k _ (encS_at ps k hlt))
      generalize ps.getD k ByteArray.empty = x at *
      clear g1 g2 HC1 HC2
      skip
      all_goals
        go_wp2
        go_quiet (fail)
        go_wp2
        go_roundw
        case rel => exact ⟨k + 1, by omega, by go_num, below_drewN HB.out _⟩
        case measure => simp [intOf]; omega
    · clear HC1 HC2
      go_wp2
      go_ret
      exact ⟨rfl, HB.out⟩
theorem info_bool : (Try.prog.info? 4).map (fun i => (i.zero, i.size, i.bytes)) = some (some (.bool false), 1, 1) := by kernel_rfl
theorem toBoolS_c (v : Value) (ps : List Bool) (w : World) (h : Rd 1 w v ps.length (encB ps)) (hn : ps.length ≤ 1048576) :
    Calls Try.prog 79 #[v] w (RetOwn 4 1 ps.length (encB ps) w) := by
  obtain ⟨-, a1, c1, rfl, h1, m1, k1⟩ := h
  unfold maxLen at m1
  obtain ⟨i0, hi, hz0, hz1, hz2⟩ := info_parts info_bool
  go_enter Try.func79, Try.ntmps79
  go_wp2_with (at_make; refine wpList_make_full _ rfl _ _ 37 rfl w.heap.size 4 i0 (.bool false) 1 Try.underlying37 hi hz0 hz1 .i64 .i64 _ _ ps.length rfl rfl rfl rfl ?c1 ?c2 ?c3 ?_)
  case c1 => rw [hz2]; omega
  case c2 => unfold maxLen; omega
  case c3 => simp
  intro w1 hown hgrow
  have hb1 := grown_below hgrow (Nat.le_refl _) (fun k hk => by cases hk)
  clear hz0 hz1 hz2 hi
  go_wp2
  go_loopw [4] (fun i wr => ∃ k : Nat, k ≤ ps.length ∧ i = .int .i64 k ∧ Below w.heap.size w wr ∧ ∃ xs : List Value, xs.take k = encB (ps.take k) ∧ wr.ownsRow w.heap.size 4 1 (.slice (some ⟨w.heap.size, 0, none⟩) ps.length ps.length) ps.length xs) (fun i _ => ps.length - (intOf i).toNat)
  case atStart => exact ⟨0, Nat.zero_le _, rfl, hb1, _, rfl, hown⟩
  case round =>
    clear hown hb1 hgrow w1
    obtain ⟨k, hk, rfl, hb, xs, hxs, hown⟩ := hrel
    have hsz := hb.size
    by_cases hlt : k < ps.length
    · obtain ⟨b1, o1, rfl, g1⟩ := k1 (by omega)
      have u1 := cell_keep hb (g1 k _ (encB_at ps k hlt))
      obtain ⟨x, hx⟩ : ∃ x, ps.getD k false = x := ⟨_, rfl⟩
      rw [hx] at u1
      have hs := take_snoc_getD ps k false hlt
      rw [hx] at hs
      have HX := Lib.hid (And.intro hxs hs)
      clear k1 g1 hxs hs hx
      have hl : xs.length = ps.length * 1 := hown.1
      have c1 := hown.cellAt k (by omega)
      have f1 := hown.frozenAt k
      rw [List.getElem?_eq_getElem (by omega)] at c1
      obtain ⟨z1, hz1⟩ : ∃ z, xs[k]'(by omega) = z := ⟨_, rfl⟩
      rw [hz1] at c1
      have HL := Lib.hid hl
      clear hz1 hl
      go_wp2
      go_roundw
      case rel =>
        have s1 := hown.stored k (.bool x)
        exact ⟨k + 1, by omega, by go_num, hb.setCell (Nat.le_refl _) _, _, by
          rw [HX.out.2, encB_snoc]; exact take_step xs _ k _ (by rw [HL.out]; omega) HX.out.1, s1.1⟩
      case measure => simp [intOf]; omega
    · obtain rfl : k = ps.length := by omega
      have HX := Lib.hid hxs
      clear hxs
      go_wp2
      go_ret
      have hl : xs.length = ps.length * 1 := hown.1
      have e := HX.out
      rw [List.take_of_length_le (by omega), List.take_of_length_le (by omega)] at e
      subst e
      exact ⟨_, rfl, hown, hb⟩
theorem eqBoolS_c (v1 v2 : Value) (ps : List Bool) (w : World) (h1 : Rd 1 w v1 ps.length (encB ps)) (h2 : Rd 1 w v2 ps.length (encB ps)) :
    Calls Try.prog 82 #[v1, v2] w (RetBool true w) := by
  obtain ⟨-, a1, c1, rfl, p1, m1, k1⟩ := h1
  obtain ⟨-, a2, c2, rfl, p2, m2, k2⟩ := h2
  unfold maxLen at m1 m2
  have HC1 := Lib.hid k1
  have HC2 := Lib.hid k2
  clear k1 k2
  go_enter Try.func82, Try.ntmps82
  go_wp2
  go_loopw [5] (fun i wr => ∃ k : Nat, k ≤ ps.length ∧ i = .int .i64 k ∧ Hid (Below w.heap.size w wr)) (fun i _ => ps.length - (intOf i).toNat)
  case atStart => exact ⟨0, Nat.zero_le _, rfl, Below.refl _ _⟩
  case round =>
    obtain ⟨k, hk, rfl, HB⟩ := hrel
    by_cases hlt : k < ps.length
    · obtain ⟨b1, o1, rfl, g1⟩ := HC1.out (by omega)
      obtain ⟨b2, o2, rfl, g2⟩ := HC2.out (by omega)
      have u1 := cell_keep HB.out (g1 k _ (encB_at ps k hlt))
      have u2 := cell_keep HB.out (g2 k _ (encB_at ps k hlt))
      generalize ps.getD k false = x at *
      clear g1 g2 HC1 HC2
      cases x
      all_goals
        go_wp2
        go_quiet (fail)
        go_wp2
        go_roundw
        case rel => exact ⟨k + 1, by omega, by go_num, below_drewN HB.out _⟩
        case measure => simp [intOf]; omega
    · clear HC1 HC2
      go_wp2
      go_ret
      exact ⟨rfl, HB.out⟩
end Go.Proofs.Ytbjndbaljenlgaa
