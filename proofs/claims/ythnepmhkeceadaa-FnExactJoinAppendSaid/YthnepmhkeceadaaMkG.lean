/- Contracts: marks in entries of the call's own (what is written lies in their blocks alone). -/
import Derived.Test.YthnepmhkeceadaaMk
import Derived.Test.YthnepmhkeceadaaMkF
import Derived.Test.YthnepmhkeceadaaOw2
namespace Go.Proofs.Ythnepmhkeceadaa
open Go.RowKit
attribute [local go_sem ↓] Go.wp_at_zero Go.wp_at_succ
set_option maxHeartbeats 400000 in
theorem markIntSW_c (v : Value) (n : Nat) (flat : List Value) (base : Nat) (m : Int) (w : World) (h : w.ownsRow base 3 1 v n flat) (hn : n ≤ 1048576) (hm0 : 0 ≤ m) (hm1 : m ≤ 4611686018427387904) :
    Calls Try.prog 23 #[v, .int .i64 m] w fun e w' => e = .returned (.int .i64 (m + 1 * n)) ∧ w'.ownsRow base 3 1 v n (enc1 (marks1 m n)) ∧ w.grownBy w' v.ownBlock := by
  rcases own_cases h with ⟨rfl, rfl, rfl⟩ | ⟨g, cap, rfl, hg, hgs, hc, hcm⟩
  · go_enter Try.func23, Try.ntmps23
    go_wp2
    refine wp_loop_once ?_
    go_wp2
    go_ret
    exact ⟨by simp, h, World.grownBy.refl _ _⟩
  · unfold maxLen at hcm
    go_enter Try.func23, Try.ntmps23
    go_wp2
    go_loopw [5, 1] (fun i q wr => ∃ k : Nat, k ≤ n ∧ i = .int .i64 k ∧ q = .int .i64 (m + 1 * k) ∧ w.grownBy wr (some g) ∧ ∃ xs : List Value, xs.take (k) = enc1 (marks1 m k) ∧ wr.ownsRow base 3 1 (.slice (some ⟨g, 0, none⟩) n cap) n xs) (fun i _ _ => n - (intOf i).toNat)
    case atStart => exact ⟨0, Nat.zero_le _, rfl, by simp, World.grownBy.refl _ _, flat, by simp [marks1, enc1], h⟩
    case round =>
      clear h
      obtain ⟨k, hk, rfl, rfl, hgr, xs, hxs, hown⟩ := hrel
      have HX := Lib.hid hxs
      clear hxs
      by_cases hlt : k < n
      · have hl : xs.length = n * 1 := hown.1
        have c0 := hown.cellAt (k) (by omega)
        have f0 := hown.frozenAt (k)
        obtain ⟨z0, hz0⟩ : ∃ z, xs[k]'(by omega) = z := ⟨_, rfl⟩
        rw [List.getElem?_eq_getElem (by omega), hz0] at c0
        have HL := Lib.hid hl
        clear hz0 hl
        go_wp2
        go_roundw
        case rel =>
          have s1 := hown.stored k (.int .i64 (m + k))
          exact ⟨k + 1, by omega, by go_num, congrArg _ (by omega), grown_set hgr, _, by
            rw [marks1, enc1_snoc]; exact take_step xs _ k _ (by rw [HL.out]; omega) HX.out, s1.1⟩
        case measure => simp [intOf]; omega
      · obtain rfl : k = n := by omega
        go_wp2
        go_ret
        refine ⟨rfl, ?_, hgr⟩
        have e2 := HX.out
        rw [List.take_of_length_le (by rw [hown.1]; omega)] at e2
        rw [← e2]
        exact hown

/-- An entry's clock opened, with what may be written into it. -/
theorem OwnR.clock {S : Nat → Prop} {w : World} {v : Value} {es : List Ent} (h : OwnR S w v es) {i : Nat} (hi : i < es.length) :
    ∃ (g cap : Nat) (cv : Value), v = .slice (some ⟨g, 0, none⟩) es.length cap ∧ es.length ≤ cap ∧ cap ≤ maxLen ∧ S g ∧
      w.cell? ⟨g, i * 3, none⟩ = some cv ∧ w.ownsRow 0 3 1 cv (es.getD i e0).1.length (enc1 (es.getD i e0).1) ∧ (∀ b, cv.ownBlock = some b → S b) ∧
      (∀ w' c', Chg (fun b => cv.ownBlock = some b) w w' → w'.ownsRow 0 3 1 cv c'.length (enc1 c') → OwnR S w' v (es.set i (c', (es.getD i e0).2.1, (es.getD i e0).2.2))) := by
  obtain ⟨lab, cvs, h1, h2, h3, h4⟩ := h
  obtain ⟨g, cap, rfl, hg, hle, hcm⟩ : ∃ g cap, v = .slice (some ⟨g, 0, none⟩) es.length cap ∧ g < w.heap.size ∧ es.length ≤ cap ∧ cap ≤ maxLen := by
    rcases own_cases h2 with ⟨-, h0, -⟩ | ⟨g, cap, rfl, -, a, b, c⟩
    · omega
    · exact ⟨g, cap, rfl, a, b, c⟩
  have hgl := h3 g rfl
  obtain ⟨c1, c2, c3⟩ := encE_at cvs es h1 i hi
  have hl := encE_len cvs es h1
  obtain ⟨o1, o2⟩ := h4 i hi
  refine ⟨g, cap, cvs.getD i undef, rfl, hle, hcm, hgl.1, (h2.cellAt (i * 3) (by omega)).trans c1, o1, fun b hb => (o2 b hb).1, fun w' c' hc ho => ?_⟩
  refine ⟨lab, cvs, by rw [h1, List.length_set], ?_, h3, fun k hk => ?_⟩
  · rw [List.length_set]
    have e : encE cvs (es.set i (c', (es.getD i e0).2.1, (es.getD i e0).2.2)) = encE cvs es := by
      have := encE_set0 cvs es h1 i hi (cvs.getD i undef) (c', (es.getD i e0).2.1, (es.getD i e0).2.2)
      rw [set_get_id cvs i _ (by rw [List.getD_eq_getElem?_getD, List.getElem?_eq_getElem (by omega)]; rfl), set_get_id (encE cvs es) _ _ c1, set_get_id (encE cvs es) _ _ c2, set_get_id (encE cvs es) _ _ c3] at this
      exact this
    rw [e]
    exact own_chg h2 hc (fun b hb e => by have h5 := (h3 b hb).2; have h6 := (o2 b e).2; omega)
  · rw [List.length_set] at hk
    rw [getD_set es i k _ e0 hi]
    by_cases e : k = i
    · subst e
      rw [if_pos rfl]
      exact ⟨ho, (h4 k hk).2⟩
    · rw [if_neg e]
      refine ⟨own_chg (h4 k hk).1 hc (fun b hb e' => ?_), (h4 k hk).2⟩
      have h5 := ((h4 k hk).2 b hb).2
      have h6 := (o2 b e').2
      omega
/-- Key and value of an own entry written. -/
theorem OwnR.kv {S : Nat → Prop} {w : World} {g n cap : Nat} {es : List Ent} (h : OwnR S w (.slice (some ⟨g, 0, none⟩) n cap) es) {i : Nat} (hi : i < es.length) (x y : Int) :
    OwnR S ((w.setCell ⟨g, i * 3 + 1, none⟩ (.int .i64 x)).setCell ⟨g, i * 3 + 2, none⟩ (.int .i64 y)) (.slice (some ⟨g, 0, none⟩) n cap) (es.set i ((es.getD i e0).1, x, y)) := by
  obtain ⟨a', cap', ev⟩ := h.slice
  simp only [Value.slice.injEq] at ev
  obtain ⟨-, rfl, -⟩ := ev
  obtain ⟨lab, cvs, h1, h2, h3, h4⟩ := h
  have hgl := h3 g rfl
  obtain ⟨c1, c2, c3⟩ := encE_at cvs es h1 i hi
  have hch : Chg (fun b => b = g) w ((w.setCell ⟨g, i * 3 + 1, none⟩ (.int .i64 x)).setCell ⟨g, i * 3 + 2, none⟩ (.int .i64 y)) := Chg.setC (Chg.setC (Chg.refl _ _) rfl) rfl
  refine ⟨lab, cvs, by rw [h1, List.length_set], ?_, h3, fun k hk => ?_⟩
  · rw [List.length_set]
    have e : encE cvs (es.set i ((es.getD i e0).1, x, y)) = ((encE cvs es).set (i * 3 + 1) (.int .i64 x)).set (i * 3 + 2) (.int .i64 y) := by
      have := encE_set0 cvs es h1 i hi (cvs.getD i undef) ((es.getD i e0).1, x, y)
      rw [set_get_id cvs i _ (by rw [List.getD_eq_getElem?_getD, List.getElem?_eq_getElem (by omega)]; rfl), set_get_id (encE cvs es) _ _ c1] at this
      exact this
    rw [e]
    have s1 := h2.stored (i * 3 + 1) (.int .i64 x)
    exact (s1.1.stored (i * 3 + 2) (.int .i64 y)).1
  · rw [List.length_set] at hk
    have hk2 := own_chg (h4 k hk).1 hch (fun b hb e => by have h5 := ((h4 k hk).2 b hb).2; have := hgl.2; rw [← e] at this; omega)
    rw [getD_set es i k _ e0 hi]
    by_cases e : k = i
    · subst e; rw [if_pos rfl]; exact ⟨hk2, (h4 k hk).2⟩
    · rw [if_neg e]; exact ⟨hk2, (h4 k hk).2⟩
/-- what is left to mark is as it was -/
def Lft (S : Nat → Prop) (wr : World) (v : Value) (es : List Ent) (k : Nat) : Prop := ∃ es', es'.length = es.length ∧ (∀ j, k ≤ j → es'.getD j e0 = es.getD j e0) ∧ OwnR S wr v es'
def LftF (S : Nat → Prop) (wr : World) (v : Value) (F : Fd) (k : Nat) : Prop := ∃ F' : Fd, F'.length = F.length ∧ (∀ j, k ≤ j → F'.getD j [] = F.getD j []) ∧ OwnF S wr v F'
set_option maxHeartbeats 1600000 in
theorem markEntryS_c {S : Nat → Prop} (v : Value) (es : List Ent) (m : Int) (w : World) (h : OwnR S w v es) (hs : SmR es) (hm0 : 0 ≤ m) (hm1 : m ≤ 2305843009213693952) :
    Calls Try.prog 52 #[v, .int .i64 m] w fun e w' => ∃ r : Int, e = .returned (.int .i64 r) ∧ 0 ≤ r ∧ r ≤ m + 1099513724928 ∧ Lft S w' v es es.length ∧ Chg S w w' := by
  obtain ⟨a, cap, rfl⟩ := h.slice
  have HC : Hid (∀ j, j < es.length → (es.getD j e0).1.length ≤ 1048576) := fun j hj => hs.2 j hj
  have hn := hs.1
  have HL : Hid (Lft S w (.slice a es.length cap) es 0) := ⟨es, rfl, fun _ _ => rfl, h⟩
  clear h hs
  obtain ⟨L, hL⟩ : ∃ L, es.length = L := ⟨_, rfl⟩
  rw [hL] at HL HC hn ⊢
  have HLL := Lib.hid hL
  clear hL
  go_enter Try.func52, Try.ntmps52
  go_wp2
  go_loopw [5, 1] (fun i' q' wr => ∃ k : Nat, ∃ q : Int, k ≤ L ∧ i' = .int .i64 k ∧ q' = .int .i64 q ∧ 0 ≤ q ∧ q ≤ m + k * 1048578 ∧ Hid (Lft S wr (.slice a L cap) es k) ∧ Hid (Chg S w wr)) (fun i' _ _ => L - (intOf i').toNat)
  case atStart => exact ⟨0, m, Nat.zero_le _, rfl, rfl, hm0, by omega, HL, Chg.refl _ _⟩
  case round =>
    clear HL
    obtain ⟨k, q, hk, rfl, rfl, hq0, hq1, HL, HG⟩ := hrel
    by_cases hlt : k < L
    · obtain ⟨es', e1, e2, hO⟩ := HL.out
      have hkl : k < es'.length := by rw [e1, HLL.out]; exact hlt
      obtain ⟨g, cap', cv, ev, q1, q2, hS, c0, ho, hb, hput⟩ := hO.clock hkl
      simp only [Value.slice.injEq] at ev
      obtain ⟨rfl, -, rfl⟩ := ev
      unfold maxLen at q2
      have hcl : (es'.getD k e0).1.length ≤ 1048576 := by rw [e2 k (Nat.le_refl _)]; exact HC.out k hlt
      have hLc : L ≤ cap := by rw [← HLL.out, ← e1]; exact q1
      obtain ⟨n, hnn⟩ : ∃ n, (es'.getD k e0).1.length = n := ⟨_, rfl⟩
      obtain ⟨fl, hfl⟩ : ∃ fl, enc1 (es'.getD k e0).1 = fl := ⟨_, rfl⟩
      rw [hnn, hfl] at ho
      rw [hnn] at hcl
      have HPUT := Lib.hid hput
      have HE1 := Lib.hid e1
      have HE2 := Lib.hid e2
      have HBk := Lib.hid hb
      clear hO hput e1 e2 hb hnn hfl hkl q1
      go_wp2_with fail
      refine (markIntSW_c _ n fl 0 q _ ho hcl hq0 (by omega)).mono ?_
      rintro e w6 ⟨rfl, ho6, hg6⟩
      have hc6 := Chg.of_grown hg6
      have hO6 := HPUT.out w6 (marks1 q n) hc6 (by rw [marks1_len]; exact ho6)
      have hl6 : (es'.set k (marks1 q n, (es'.getD k e0).2.1, (es'.getD k e0).2.2)).length = L := by rw [List.length_set, HE1.out, HLL.out]
      have hk6 : k < (es'.set k (marks1 q n, (es'.getD k e0).2.1, (es'.getD k e0).2.2)).length := by omega
      obtain ⟨g7, cap7, cv7, ev, -, -, -, -, d1, d2, hf, -⟩ := hO6.entry hk6
      simp only [Value.slice.injEq, Option.some.injEq, Addr.mk.injEq, and_true] at ev
      obtain ⟨rfl, -, -⟩ := ev
      have f1 := hf (k * 3 + 1)
      have f2 := hf (k * 3 + 2)
      obtain ⟨z1, hz1⟩ : ∃ z, ((es'.set k (marks1 q n, (es'.getD k e0).2.1, (es'.getD k e0).2.2)).getD k e0).2.1 = z := ⟨_, rfl⟩
      obtain ⟨z2, hz2⟩ : ∃ z, ((es'.set k (marks1 q n, (es'.getD k e0).2.1, (es'.getD k e0).2.2)).getD k e0).2.2 = z := ⟨_, rfl⟩
      rw [hz1] at d1
      rw [hz2] at d2
      have HG6 : Hid (Chg S w w6) := HG.out.trans (hc6.mono fun b _ hb => HBk.out b hb)
      have HO6 : Hid (∀ x y : Int, Lft S ((w6.setCell ⟨g, k * 3 + 1, none⟩ (.int .i64 x)).setCell ⟨g, k * 3 + 2, none⟩ (.int .i64 y)) (.slice (some ⟨g, 0, none⟩) L cap) es (k + 1)) := fun x y => by
        have := hO6.kv hk6 x y
        refine ⟨_, ?_, fun j hj => ?_, this⟩
        · rw [List.length_set, hl6, HLL.out]
        · rw [getD_set _ _ _ _ _ hk6, if_neg (by omega), getD_set _ _ _ _ _ (by rw [HE1.out, HLL.out]; exact hlt), if_neg (by omega)]
          exact HE2.out j (by omega)
      have HSg := Lib.hid hS
      clear hc6 hO6 hl6 hk6 hf hz1 hz2 ho6 hg6 ho HPUT hS
      have hnI : (n : Int) ≤ 1048576 := by omega
      go_wp2
      go_roundw
      case rel => exact ⟨k + 1, _, by omega, by go_num, rfl, by omega, by omega, HO6.out _ _, (HG6.out.setC HSg.out).setC HSg.out⟩
      case measure => simp [intOf]; omega
    · obtain rfl : k = L := by omega
      go_wp2
      go_ret
      exact ⟨q, rfl, hq0, by omega, HL.out, HG.out⟩
set_option maxHeartbeats 1600000 in
theorem markEntrySS_c {S : Nat → Prop} (v : Value) (F : Fd) (w : World) (h : OwnF S w v F) (hs : SmF F) :
    Calls Try.prog 22 #[v, .int .i64 1] w fun e w' => ∃ r : Int, e = .returned (.int .i64 r) ∧ 0 ≤ r ∧ Chg S w w' := by
  obtain ⟨a, cap, rfl⟩ := h.slice
  have HC : Hid (∀ j, j < F.length → SmR (F.getD j [])) := fun j hj => hs.2 j hj
  have hn := hs.1
  have HL : Hid (LftF S w (.slice a F.length cap) F 0) := ⟨F, rfl, fun _ _ => rfl, h⟩
  clear h hs
  obtain ⟨L, hL⟩ : ∃ L, F.length = L := ⟨_, rfl⟩
  rw [hL] at HL HC hn ⊢
  have HLL := Lib.hid hL
  clear hL
  go_enter Try.func22, Try.ntmps22
  go_wp2
  go_loopw [5, 1] (fun i' q' wr => ∃ k : Nat, ∃ q : Int, k ≤ L ∧ i' = .int .i64 k ∧ q' = .int .i64 q ∧ 0 ≤ q ∧ q ≤ 1 + k * 1099513724928 ∧ Hid (LftF S wr (.slice a L cap) F k) ∧ Hid (Chg S w wr)) (fun i' _ _ => L - (intOf i').toNat)
  case atStart => exact ⟨0, 1, Nat.zero_le _, rfl, rfl, by omega, by omega, HL, Chg.refl _ _⟩
  case round =>
    clear HL
    obtain ⟨k, q, hk, rfl, rfl, hq0, hq1, HL, HG⟩ := hrel
    by_cases hlt : k < L
    · obtain ⟨F', e1, e2, hO⟩ := HL.out
      have hkl : k < F'.length := by rw [e1, HLL.out]; exact hlt
      obtain ⟨g, cap', rv, U, ev, q1, q2, -, hSg, c0, -, hR, hU, hput, -⟩ := hO.row hkl
      simp only [Value.slice.injEq] at ev
      obtain ⟨rfl, -, rfl⟩ := ev
      unfold maxLen at q2
      have hLc : L ≤ cap := by rw [← HLL.out, ← e1]; exact q1
      have hSm : SmR (F'.getD k []) := by rw [e2 k (Nat.le_refl _)]; exact HC.out k hlt
      have HPUT := Lib.hid hput
      have HE1 := Lib.hid e1
      have HE2 := Lib.hid e2
      have HU := Lib.hid hU
      have HR := Lib.hid hR
      have HSM := Lib.hid hSm
      clear hO hput e1 e2 hU hR hSm q1
      go_wp2_with fail
      refine (markEntryS_c _ _ q _ HR.out HSM.out hq0 (by omega)).mono ?_
      rintro e w6 ⟨r, rfl, r0, r1, ⟨es', -, -, hr6⟩, hc6⟩
      have hO6 := HPUT.out w6 es' hc6 hr6
      have HG6 : Hid (Chg S w w6) := HG.out.trans (hc6.mono fun b _ hb => (HU.out b hb).1)
      have HO6 : Hid (LftF S w6 (.slice (some ⟨g, 0, none⟩) L cap) F (k + 1)) := by
        refine ⟨_, ?_, fun j hj => ?_, hO6⟩
        · rw [List.length_set, HE1.out]
        · rw [getD_set _ _ _ _ _ hkl, if_neg (by omega)]
          exact HE2.out j (by omega)
      clear hc6 hO6 hr6 hkl HPUT
      go_wp2
      go_roundw
      case rel => exact ⟨k + 1, r, by omega, by go_num, rfl, by omega, by omega, HO6, HG6⟩
      case measure => simp [intOf]; omega
    · obtain rfl : k = L := by omega
      go_wp2
      go_ret
      exact ⟨q, rfl, hq0, HG.out⟩
end Go.Proofs.Ythnepmhkeceadaa
