/- Contracts: marks in entries of the call's own: what they leave, and that they are found again. -/
import Derived.Test.YthnepmhkeceadaaMkG
import Derived.Test.YthnepmhkeceadaaJwQ
namespace Go.Proofs.Ythnepmhkeceadaa
open Go.RowKit
attribute [local go_sem ↓] Go.wp_at_zero Go.wp_at_succ
set_option maxHeartbeats 1600000 in
theorem markEntrySS_b {S : Nat → Prop} (v : Value) (F : Fd) (w : World) (h : OwnF S w v F) (hs : SmF F) :
    Calls Try.prog 22 #[v, .int .i64 1] w fun e w' => ∃ r : Int, e = .returned (.int .i64 r) ∧ 0 ≤ r ∧ r ≤ 2305843009213693952 ∧ Chg S w w' := by
  obtain ⟨a, cap, rfl⟩ := h.slice
  have HC : Hid (∀ j, j < F.length → SmR (F.getD j [])) := fun j hj => hs.2 j hj
  have hn := hs.1
  have HL : Hid (LftF S w (.slice a F.length cap) F 0) := ⟨F, rfl, fun _ _ => rfl, h⟩
  clear h hs
  obtain ⟨L, hL⟩ : ∃ L, F.length = L := ⟨_, rfl⟩
  rw [hL] at HL HC hn ⊢
  have HLL := Lib.hid hL
  clear hL
  go_enter Try.func22, Try.ntmps22
  go_wp2
  go_loopw [5, 1] (fun i' q' wr => ∃ k : Nat, ∃ q : Int, k ≤ L ∧ i' = .int .i64 k ∧ q' = .int .i64 q ∧ 0 ≤ q ∧ q ≤ 1 + k * 1099513724928 ∧ Hid (LftF S wr (.slice a L cap) F k) ∧ Hid (Chg S w wr)) (fun i' _ _ => L - (intOf i').toNat)
  case atStart => exact ⟨0, 1, Nat.zero_le _, rfl, rfl, by omega, by omega, HL, Chg.refl _ _⟩
  case round =>
    clear HL
    obtain ⟨k, q, hk, rfl, rfl, hq0, hq1, HL, HG⟩ := hrel
    by_cases hlt : k < L
    · obtain ⟨F', e1, e2, hO⟩ := HL.out
      have hkl : k < F'.length := by rw [e1, HLL.out]; exact hlt
      obtain ⟨g, cap', rv, U, ev, q1, q2, -, hSg, c0, -, hR, hU, hput, -⟩ := hO.row hkl
      simp only [Value.slice.injEq] at ev
      obtain ⟨rfl, -, rfl⟩ := ev
      unfold maxLen at q2
      have hLc : L ≤ cap := by rw [← HLL.out, ← e1]; exact q1
      have hSm : SmR (F'.getD k []) := by rw [e2 k (Nat.le_refl _)]; exact HC.out k hlt
      have HPUT := Lib.hid hput
      have HE1 := Lib.hid e1
      have HE2 := Lib.hid e2
      have HU := Lib.hid hU
      have HR := Lib.hid hR
      have HSM := Lib.hid hSm
      clear hO hput e1 e2 hU hR hSm q1
      go_wp2_with fail
      refine (markEntryS_c _ _ q _ HR.out HSM.out hq0 (by omega)).mono ?_
      rintro e w6 ⟨r, rfl, r0, r1, ⟨es', -, -, hr6⟩, hc6⟩
      have hO6 := HPUT.out w6 es' hc6 hr6
      have HG6 : Hid (Chg S w w6) := HG.out.trans (hc6.mono fun b _ hb => (HU.out b hb).1)
      have HO6 : Hid (LftF S w6 (.slice (some ⟨g, 0, none⟩) L cap) F (k + 1)) := by
        refine ⟨_, ?_, fun j hj => ?_, hO6⟩
        · rw [List.length_set, HE1.out]
        · rw [getD_set _ _ _ _ _ hkl, if_neg (by omega)]
          exact HE2.out j (by omega)
      clear hc6 hO6 hr6 hkl HPUT
      go_wp2
      go_roundw
      case rel => exact ⟨k + 1, r, by omega, by go_num, rfl, by omega, by omega, HO6, HG6⟩
      case measure => simp [intOf]; omega
    · obtain rfl : k = L := by omega
      go_wp2
      go_ret
      exact ⟨q, rfl, hq0, by omega, HG.out⟩

/-- an entry marked from m on -/
def mkE (e : Ent) (m : Int) : Ent := (marks1 m e.1.length, m + e.1.length, m + e.1.length + 1)
def szR : List Ent → Nat
  | [] => 0
  | e :: es => e.1.length + 2 + szR es
def szT : Fd → Nat
  | [] => 0
  | es :: F => szR es + szT F
theorem szR_append : ∀ a b : List Ent, szR (a ++ b) = szR a + szR b
  | [], b => by simp [szR]
  | e :: a, b => by simp only [List.cons_append, szR, szR_append a b]; omega
theorem szT_append : ∀ a b : Fd, szT (a ++ b) = szT a + szT b
  | [], b => by simp [szT]
  | e :: a, b => by simp only [List.cons_append, szT, szT_append a b]; omega
theorem szR_step (es : List Ent) {k : Nat} (hk : k < es.length) : szR (es.take (k + 1)) = szR (es.take k) + (es.getD k e0).1.length + 2 := by
  rw [take_snoc_getD es k e0 hk, szR_append]; simp only [szR]; omega
theorem szT_step (F : Fd) {k : Nat} (hk : k < F.length) : szT (F.take (k + 1)) = szT (F.take k) + szR (F.getD k []) := by
  rw [take_snoc_getD F k [] hk, szT_append]; simp only [szT]; omega
theorem szR_le (es : List Ent) (k : Nat) : szR (es.take k) ≤ szR es := by
  conv => rhs; rw [← List.take_append_drop k es, szR_append]
  omega
theorem szT_le (F : Fd) (k : Nat) : szT (F.take k) ≤ szT F := by
  conv => rhs; rw [← List.take_append_drop k F, szT_append]
  omega
theorem szR_len : ∀ es : List Ent, es.length ≤ szR es
  | [] => Nat.zero_le _
  | e :: es => by have := szR_len es; simp only [List.length_cons, szR]; omega
def DoneR (es : List Ent) (m : Int) (k : Nat) (es' : List Ent) : Prop :=
  es'.length = es.length ∧ (∀ j, j < k → es'.getD j e0 = mkE (es.getD j e0) (m + szR (es.take j))) ∧ ∀ j, k ≤ j → es'.getD j e0 = es.getD j e0
def DoneF (F : Fd) (m : Int) (k : Nat) (F' : Fd) : Prop :=
  F'.length = F.length ∧ (∀ j, j < k → DoneR (F.getD j []) (m + szT (F.take j)) (F.getD j []).length (F'.getD j [])) ∧ ∀ j, k ≤ j → F'.getD j [] = F.getD j []
def MkdR (S : Nat → Prop) (wr : World) (v : Value) (es : List Ent) (m : Int) (k : Nat) : Prop := ∃ es', DoneR es m k es' ∧ OwnR S wr v es'
def MkdF (S : Nat → Prop) (wr : World) (v : Value) (F : Fd) (m : Int) (k : Nat) : Prop := ∃ F', DoneF F m k F' ∧ OwnF S wr v F'
set_option maxHeartbeats 1600000 in
theorem markEntryS_d {S : Nat → Prop} (v : Value) (es : List Ent) (m : Int) (w : World) (h : OwnR S w v es) (hm0 : 0 ≤ m) (hb : m + szR es ≤ 4294967296) :
    Calls Try.prog 52 #[v, .int .i64 m] w fun e w' => e = .returned (.int .i64 (m + szR es)) ∧ MkdR S w' v es m es.length ∧ Chg S w w' := by
  obtain ⟨a, cap, rfl⟩ := h.slice
  have hn := szR_len es
  have HL : Hid (MkdR S w (.slice a es.length cap) es m 0) := ⟨es, ⟨rfl, fun _ h => absurd h (Nat.not_lt_zero _), fun _ _ => rfl⟩, h⟩
  clear h
  obtain ⟨Z, hZ⟩ : ∃ Z, szR es = Z := ⟨_, rfl⟩
  rw [hZ] at hb hn ⊢
  have HZ := Lib.hid hZ
  obtain ⟨L, hL⟩ : ∃ L, es.length = L := ⟨_, rfl⟩
  rw [hL] at HL hn ⊢
  have HLL := Lib.hid hL
  clear hL hZ
  have HQ0 : Hid (m = m + (szR (es.take 0) : Nat)) := by show _ = _; simp [szR]
  go_enter Try.func52, Try.ntmps52
  go_wp2
  go_loopw [5, 1] (fun i' q' wr => ∃ k : Nat, ∃ q : Int, k ≤ L ∧ i' = .int .i64 k ∧ q' = .int .i64 q ∧ 0 ≤ q ∧ q ≤ m + Z ∧ Hid (q = m + (szR (es.take k) : Nat)) ∧ Hid (MkdR S wr (.slice a L cap) es m k) ∧ Hid (Chg S w wr)) (fun i' _ _ => L - (intOf i').toNat)
  case atStart => exact ⟨0, m, Nat.zero_le _, rfl, rfl, hm0, by omega, HQ0, HL, Chg.refl _ _⟩
  case round =>
    clear HL HQ0
    obtain ⟨k, q, hk, rfl, rfl, hq0, hq1, HQ, HL, HG⟩ := hrel
    by_cases hlt : k < L
    · obtain ⟨es', ⟨e1, e2, e3⟩, hO⟩ := HL.out
      have hkl : k < es'.length := by rw [e1, HLL.out]; exact hlt
      obtain ⟨g, cap', cv, ev, q1, q2, hS, c0, ho, hbk, hput⟩ := hO.clock hkl
      simp only [Value.slice.injEq] at ev
      obtain ⟨rfl, -, rfl⟩ := ev
      unfold maxLen at q2
      have hLc : L ≤ cap := by rw [← HLL.out, ← e1]; exact q1
      obtain ⟨n, hnn⟩ : ∃ n, (es'.getD k e0).1.length = n := ⟨_, rfl⟩
      obtain ⟨fl, hfl⟩ : ∃ fl, enc1 (es'.getD k e0).1 = fl := ⟨_, rfl⟩
      have hnn2 : (es.getD k e0).1.length = n := by rw [← e3 k (Nat.le_refl _)]; exact hnn
      have hst := szR_step es (k := k) (by rw [HLL.out]; exact hlt)
      have hle := szR_le es (k + 1)
      have hq2 : q + (n : Int) + 2 ≤ m + Z := by rw [HQ.out]; rw [hst, hnn2, HZ.out] at hle; omega
      have hq3 : q + (n : Int) + 2 = m + (szR (es.take (k + 1)) : Nat) := by rw [HQ.out, hst, hnn2]; omega
      rw [hnn, hfl] at ho
      have HPUT := Lib.hid hput
      have HE1 := Lib.hid e1
      have HE2 := Lib.hid e2
      have HE3 := Lib.hid e3
      have HBk := Lib.hid hbk
      have HN2 := Lib.hid hnn2
      have HQ3 := Lib.hid hq3
      clear hO hput e1 e2 e3 hbk hnn hnn2 hfl hkl q1 hst hle hq3
      go_wp2_with fail
      refine (markIntS_c _ n fl 0 q _ ho (by omega) hq0 (by omega)).mono ?_
      rintro e w6 ⟨rfl, ho6, hg6⟩
      have hc6 := Chg.of_grown hg6
      have hO6 := HPUT.out w6 (marks1 q n) hc6 (by rw [marks1_len]; exact ho6)
      have hl6 : (es'.set k (marks1 q n, (es'.getD k e0).2.1, (es'.getD k e0).2.2)).length = L := by rw [List.length_set, HE1.out, HLL.out]
      have hk6 : k < (es'.set k (marks1 q n, (es'.getD k e0).2.1, (es'.getD k e0).2.2)).length := by omega
      obtain ⟨g7, cap7, cv7, ev, -, -, -, -, d1, d2, hf, -⟩ := hO6.entry hk6
      simp only [Value.slice.injEq, Option.some.injEq, Addr.mk.injEq, and_true] at ev
      obtain ⟨rfl, -, -⟩ := ev
      have f1 := hf (k * 3 + 1)
      have f2 := hf (k * 3 + 2)
      obtain ⟨z1, hz1⟩ : ∃ z, ((es'.set k (marks1 q n, (es'.getD k e0).2.1, (es'.getD k e0).2.2)).getD k e0).2.1 = z := ⟨_, rfl⟩
      obtain ⟨z2, hz2⟩ : ∃ z, ((es'.set k (marks1 q n, (es'.getD k e0).2.1, (es'.getD k e0).2.2)).getD k e0).2.2 = z := ⟨_, rfl⟩
      rw [hz1] at d1
      rw [hz2] at d2
      have HG6 : Hid (Chg S w w6) := HG.out.trans (hc6.mono fun b _ hb => HBk.out b hb)
      have HO6 : Hid (∀ x y : Int, x = q + n → y = q + n + 1 → MkdR S ((w6.setCell ⟨g, k * 3 + 1, none⟩ (.int .i64 x)).setCell ⟨g, k * 3 + 2, none⟩ (.int .i64 y)) (.slice (some ⟨g, 0, none⟩) L cap) es m (k + 1)) := fun x y hx hy => by
        have := hO6.kv hk6 x y
        have hkl : k < es'.length := by rw [HE1.out, HLL.out]; exact hlt
        refine ⟨_, ⟨?_, fun j hj => ?_, fun j hj => ?_⟩, this⟩
        · rw [List.length_set, hl6, HLL.out]
        · by_cases e : j = k
          · subst e
            rw [getD_set _ _ _ _ _ hk6, if_pos rfl, getD_set _ _ _ _ _ hkl, if_pos rfl]
            unfold mkE
            rw [HN2.out, ← HQ.out, hx, hy]
          · rw [getD_set _ _ _ _ _ hk6, if_neg e, getD_set _ _ _ _ _ hkl, if_neg e]
            exact HE2.out j (by omega)
        · rw [getD_set _ _ _ _ _ hk6, if_neg (by omega), getD_set _ _ _ _ _ hkl, if_neg (by omega)]
          exact HE3.out j (by omega)
      have HSg := Lib.hid hS
      clear hc6 hO6 hl6 hk6 hf hz1 hz2 ho6 hg6 ho HPUT hS
      go_wp2
      go_roundw
      case rel => exact ⟨k + 1, _, by omega, by go_num, rfl, by omega, by omega, by have := HQ3.out; show _ = _; omega, HO6.out _ _ (by omega) (by omega), (HG6.out.setC HSg.out).setC HSg.out⟩
      case measure => simp [intOf]; omega
    · obtain rfl : k = L := by omega
      have hqe : q = m + Z := by rw [HQ.out, ← HZ.out, ← HLL.out, List.take_length]
      clear HQ
      subst hqe
      go_wp2
      go_ret
      exact ⟨rfl, HL.out, HG.out⟩
set_option maxHeartbeats 1600000 in
theorem markEntrySS_d {S : Nat → Prop} (v : Value) (F : Fd) (m : Int) (w : World) (h : OwnF S w v F) (hm0 : 0 ≤ m) (hb : m + szT F ≤ 4294967296) (hn : F.length ≤ 4294967296) :
    Calls Try.prog 22 #[v, .int .i64 m] w fun e w' => e = .returned (.int .i64 (m + szT F)) ∧ MkdF S w' v F m F.length ∧ Chg S w w' := by
  obtain ⟨a, cap, rfl⟩ := h.slice
  have HL : Hid (MkdF S w (.slice a F.length cap) F m 0) := ⟨F, ⟨rfl, fun _ h => absurd h (Nat.not_lt_zero _), fun _ _ => rfl⟩, h⟩
  clear h
  obtain ⟨Z, hZ⟩ : ∃ Z, szT F = Z := ⟨_, rfl⟩
  rw [hZ] at hb ⊢
  have HZ := Lib.hid hZ
  obtain ⟨L, hL⟩ : ∃ L, F.length = L := ⟨_, rfl⟩
  rw [hL] at HL hn ⊢
  have HLL := Lib.hid hL
  clear hL hZ
  have HQ0 : Hid (m = m + (szT (F.take 0) : Nat)) := by show _ = _; simp [szT]
  go_enter Try.func22, Try.ntmps22
  go_wp2
  go_loopw [5, 1] (fun i' q' wr => ∃ k : Nat, ∃ q : Int, k ≤ L ∧ i' = .int .i64 k ∧ q' = .int .i64 q ∧ 0 ≤ q ∧ q ≤ m + Z ∧ Hid (q = m + (szT (F.take k) : Nat)) ∧ Hid (MkdF S wr (.slice a L cap) F m k) ∧ Hid (Chg S w wr)) (fun i' _ _ => L - (intOf i').toNat)
  case atStart => exact ⟨0, m, Nat.zero_le _, rfl, rfl, hm0, by omega, HQ0, HL, Chg.refl _ _⟩
  case round =>
    clear HL HQ0
    obtain ⟨k, q, hk, rfl, rfl, hq0, hq1, HQ, HL, HG⟩ := hrel
    by_cases hlt : k < L
    · obtain ⟨F', ⟨e1, e2, e3⟩, hO⟩ := HL.out
      have hkl : k < F'.length := by rw [e1, HLL.out]; exact hlt
      obtain ⟨g, cap', rv, U, ev, q1, q2, -, hSg, c0, -, hR, hU, hput, -⟩ := hO.row hkl
      simp only [Value.slice.injEq] at ev
      obtain ⟨rfl, -, rfl⟩ := ev
      unfold maxLen at q2
      have hLc : L ≤ cap := by rw [← HLL.out, ← e1]; exact q1
      rw [e3 k (Nat.le_refl _)] at hR
      have hst := szT_step F (k := k) (by rw [HLL.out]; exact hlt)
      have hle := szT_le F (k + 1)
      obtain ⟨n, hnn⟩ : ∃ n, szR (F.getD k []) = n := ⟨_, rfl⟩
      have hq2 : q + (n : Int) ≤ m + Z := by rw [HQ.out]; rw [hst, hnn, HZ.out] at hle; omega
      have hq3 : q + (n : Int) = m + (szT (F.take (k + 1)) : Nat) := by rw [HQ.out, hst, hnn]; omega
      have HN := Lib.hid hnn
      have HQ3 := Lib.hid hq3
      have HPUT := Lib.hid hput
      have HE1 := Lib.hid e1
      have HE2 := Lib.hid e2
      have HE3 := Lib.hid e3
      have HU := Lib.hid hU
      have HR := Lib.hid hR
      clear hO hput e1 e2 e3 hU hR q1 hst hle hnn hq3
      go_wp2_with fail
      refine (markEntryS_d _ _ q _ HR.out hq0 (by rw [HN.out]; omega)).mono ?_
      rintro e w6 ⟨rfl, ⟨es', hd6, hr6⟩, hc6⟩
      have hO6 := HPUT.out w6 es' hc6 hr6
      have HG6 : Hid (Chg S w w6) := HG.out.trans (hc6.mono fun b _ hb => (HU.out b hb).1)
      have HO6 : Hid (MkdF S w6 (.slice (some ⟨g, 0, none⟩) L cap) F m (k + 1)) := by
        refine ⟨_, ⟨?_, fun j hj => ?_, fun j hj => ?_⟩, hO6⟩
        · rw [List.length_set, HE1.out]
        · rw [getD_set _ _ _ _ _ hkl]
          by_cases e : j = k
          · subst e
            rw [if_pos rfl, ← HQ.out]
            exact hd6
          · rw [if_neg e]
            exact HE2.out j (by omega)
        · rw [getD_set _ _ _ _ _ hkl, if_neg (by omega)]
          exact HE3.out j (by omega)
      rw [HN.out]
      clear hc6 hO6 hr6 hkl HPUT hd6
      go_wp2
      go_roundw
      case rel => exact ⟨k + 1, _, by omega, by go_num, rfl, by omega, by omega, HQ3, HO6, HG6⟩
      case measure => simp [intOf]; omega
    · obtain rfl : k = L := by omega
      have hqe : q = m + Z := by rw [HQ.out, ← HZ.out, ← HLL.out, List.take_length]
      clear HQ
      subst hqe
      go_wp2
      go_ret
      exact ⟨rfl, HL.out, HG.out⟩
set_option maxHeartbeats 1600000 in
theorem heldEntryS_d {S : Nat → Prop} (v : Value) (es es' : List Ent) (m : Int) (w : World) (h : RdR S w v es') (hd : DoneR es m es.length es') (hm0 : 0 ≤ m) (hb : m + szR es ≤ 4294967296) :
    Calls Try.prog 53 #[v, .int .i64 m] w fun e w' => e = .returned (.int .i64 (m + szR es)) ∧ Below w.heap.size w w' := by
  have HR := Lib.hid h
  obtain ⟨-, a, cap, rfl, q1, q2, -⟩ := h
  unfold maxLen at q2
  have hn := szR_len es
  obtain ⟨e1, e2, -⟩ := hd
  rw [e1] at HR q1 ⊢
  have HE2 := Lib.hid e2
  obtain ⟨Z, hZ⟩ : ∃ Z, szR es = Z := ⟨_, rfl⟩
  rw [hZ] at hb hn ⊢
  have HZ := Lib.hid hZ
  obtain ⟨L, hL⟩ : ∃ L, es.length = L := ⟨_, rfl⟩
  rw [hL] at HR hn HE2 q1 ⊢
  have HLL := Lib.hid hL
  clear hL hZ e1 e2
  have HQ0 : Hid (m = m + (szR (es.take 0) : Nat)) := by show _ = _; simp [szR]
  go_enter Try.func53, Try.ntmps53
  go_wp2
  go_loopw [5, 1] (fun i' q' wr => ∃ k : Nat, ∃ q : Int, k ≤ L ∧ i' = .int .i64 k ∧ q' = .int .i64 q ∧ 0 ≤ q ∧ q ≤ m + Z ∧ Hid (q = m + (szR (es.take k) : Nat)) ∧ Hid (Below w.heap.size w wr)) (fun i' _ _ => L - (intOf i').toNat)
  case atStart => exact ⟨0, m, Nat.zero_le _, rfl, rfl, hm0, by omega, HQ0, Below.refl _ _⟩
  case round =>
    clear HQ0
    obtain ⟨k, q, hk, rfl, rfl, hq0, hq1, HQ, HBr⟩ := hrel
    by_cases hlt : k < L
    · obtain ⟨b8, o8, e, a3, cap3, rfl, he, f2, f3, f4, hr⟩ := (show RdR S wr (.slice a L cap) es' from HR.out.below HBr.out).entry hlt
      obtain ⟨n, hnn⟩ : ∃ n, (es.getD k e0).1.length = n := ⟨_, rfl⟩
      have he2 : e = (marks1 q n, q + n, q + n + 1) := by
        rw [he, HE2.out k hlt]
        unfold mkE
        rw [← HQ.out, hnn]
      rw [he2] at f2 f3 f4 hr
      simp only [marks1_len] at f2 f3 f4 hr
      have hst := szR_step es (k := k) (by rw [HLL.out]; exact hlt)
      have hle := szR_le es (k + 1)
      have hq2 : q + (n : Int) + 2 ≤ m + Z := by rw [HQ.out]; rw [hst, hnn, HZ.out] at hle; omega
      have hq3 : q + (n : Int) + 2 = m + (szR (es.take (k + 1)) : Nat) := by rw [HQ.out, hst, hnn]; omega
      have HQ3 := Lib.hid hq3
      have HD := Lib.hid hr.rd
      have hn0 : ¬ (q + (n : Int) < 0) := by omega
      clear he he2 hr hst hle hq3 hnn
      go_wp2_with fail
      refine (heldIntS_c _ n q _ HD.out (by omega) hq0 (by omega)).mono ?_
      rintro e _ ⟨rfl, rfl⟩
      go_wp2
      go_roundw
      case rel => exact ⟨k + 1, _, by omega, by go_num, rfl, by omega, by omega, by have := HQ3.out; show _ = _; omega, HBr⟩
      case measure => simp [intOf]; omega
    · obtain rfl : k = L := by omega
      have hqe : q = m + Z := by rw [HQ.out, ← HZ.out, ← HLL.out, List.take_length]
      clear HQ
      subst hqe
      go_wp2
      go_ret
      exact ⟨rfl, HBr.out⟩
set_option maxHeartbeats 1600000 in
theorem heldEntrySS_d {S : Nat → Prop} (v : Value) (F F' : Fd) (m : Int) (w : World) (h : RdF S w v F') (hd : DoneF F m F.length F') (hm0 : 0 ≤ m) (hb : m + szT F ≤ 4294967296) (hn : F.length ≤ 4294967296) :
    Calls Try.prog 24 #[v, .int .i64 m] w fun e w' => e = .returned (.int .i64 (m + szT F)) ∧ Below w.heap.size w w' := by
  have HR := Lib.hid h
  obtain ⟨-, a, cap, rfl, q1, q2, -⟩ := h
  unfold maxLen at q2
  obtain ⟨e1, e2, -⟩ := hd
  have HE1 := Lib.hid e1
  rw [e1] at HR q1 ⊢
  have HE2 := Lib.hid e2
  obtain ⟨Z, hZ⟩ : ∃ Z, szT F = Z := ⟨_, rfl⟩
  rw [hZ] at hb ⊢
  have HZ := Lib.hid hZ
  obtain ⟨L, hL⟩ : ∃ L, F.length = L := ⟨_, rfl⟩
  rw [hL] at HR hn HE1 HE2 q1 ⊢
  have HLL := Lib.hid hL
  clear hL hZ e1 e2
  have HQ0 : Hid (m = m + (szT (F.take 0) : Nat)) := by show _ = _; simp [szT]
  go_enter Try.func24, Try.ntmps24
  go_wp2
  go_loopw [5, 1] (fun i' q' wr => ∃ k : Nat, ∃ q : Int, k ≤ L ∧ i' = .int .i64 k ∧ q' = .int .i64 q ∧ 0 ≤ q ∧ q ≤ m + Z ∧ Hid (q = m + (szT (F.take k) : Nat)) ∧ Hid (Below w.heap.size w wr)) (fun i' _ _ => L - (intOf i').toNat)
  case atStart => exact ⟨0, m, Nat.zero_le _, rfl, rfl, hm0, by omega, HQ0, Below.refl _ _⟩
  case round =>
    clear HQ0
    obtain ⟨k, q, hk, rfl, rfl, hq0, hq1, HQ, HBr⟩ := hrel
    by_cases hlt : k < L
    · obtain ⟨b8, o8, c8, a3, cap3, ev, -, -, f2, -, -, hr⟩ := (HR.out.below HBr.out).feed (j := k) (by rw [HE1.out]; exact hlt)
      simp only [Value.slice.injEq] at ev
      obtain ⟨rfl, -, rfl⟩ := ev
      have hdk := HE2.out k hlt
      rw [← HQ.out] at hdk
      have hst := szT_step F (k := k) (by rw [HLL.out]; exact hlt)
      have hle := szT_le F (k + 1)
      obtain ⟨n, hnn⟩ : ∃ n, szR (F.getD k []) = n := ⟨_, rfl⟩
      have hq2 : q + (n : Int) ≤ m + Z := by rw [HQ.out]; rw [hst, hnn, HZ.out] at hle; omega
      have hq3 : q + (n : Int) = m + (szT (F.take (k + 1)) : Nat) := by rw [HQ.out, hst, hnn]; omega
      have HN := Lib.hid hnn
      have HQ3 := Lib.hid hq3
      have HD := Lib.hid hr
      have HDK := Lib.hid hdk
      have hn0 : ¬ (q + (n : Int) < 0) := by omega
      obtain ⟨l3, hl3⟩ : ∃ l3, ln F' k = l3 := ⟨_, rfl⟩
      rw [hl3] at f2 HD
      clear hr hst hle hq3 hnn hdk hl3
      go_wp2_with fail
      refine (heldEntryS_d _ _ _ q _ HD.out HDK.out hq0 (by rw [HN.out]; omega)).mono ?_
      rintro e w6 ⟨rfl, hb6⟩
      rw [HN.out]
      have HB6 := Lib.hid (HBr.out.trans (hb6.mono HBr.out.size))
      clear hb6
      go_wp2
      go_roundw
      case rel => exact ⟨k + 1, _, by omega, by go_num, rfl, by omega, by omega, HQ3, HB6⟩
      case measure => simp [intOf]; omega
    · obtain rfl : k = L := by omega
      have hqe : q = m + Z := by rw [HQ.out, ← HZ.out, ← HLL.out, List.take_length]
      clear HQ
      subst hqe
      go_wp2
      go_ret
      exact ⟨rfl, HBr.out⟩
end Go.Proofs.Ythnepmhkeceadaa
