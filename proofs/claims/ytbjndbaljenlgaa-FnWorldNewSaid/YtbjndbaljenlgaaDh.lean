/- Contracts of the reference's HeadPublic and HeadMake. -/
import Derived.Test.YtbjndbaljenlgaaDc
namespace Go.Proofs.Ytbjndbaljenlgaa
open Go.RowKit
set_option linter.unusedSimpArgs false
/-- the public key of a secret; 0 of a number that is none -/
def hpub (n : Int) : Int := if inB 1 996 n = true then n * 5 % 997 else 0
theorem headPub_d (n : Int) (w : World) : Calls Try.prog 49 #[.int .i64 n] w fun e w' => e = .returned (.int .i64 (hpub n)) ∧ w = w' := by
  have K := Lib.hid (fun W => l3Key_c n W)
  have HE := Lib.hid (show hpub n = if inB 1 996 n = true then n * 5 % 997 else 0 from rfl)
  generalize hpub n = m at *
  cases hk : inB 1 996 n
  · rw [hk] at K HE
    clear hk
    go_enter Try.func49, Try.ntmps49
    go_wp2_with fail
    refine (K.out _).mono ?_
    rintro e w' ⟨rfl, rfl⟩
    go_wp2
    go_ret
    exact ⟨ret_i (by rw [HE.out]; rfl), rfl⟩
  · have h1 := inB_iff.1 hk
    rw [hk] at K HE
    clear hk
    have e2 : IntKind.i64.wrap (n * 5) = n * 5 := IntWalk.i64_in _ (by omega)
    have e4 : (n * 5).tmod 997 = n * 5 % 997 := Int.tmod_eq_emod_of_nonneg (by omega)
    go_enter Try.func49, Try.ntmps49
    go_wp2_with fail
    refine (K.out _).mono ?_
    rintro e w' ⟨rfl, rfl⟩
    go_wp2
    go_ret
    exact ⟨ret_i (by rw [HE.out]; simp [e4]), rfl⟩
/-- some head; one of no blocks is not signed -/
def HeadP (w : World) (e : Ending) (w' : World) : Prop :=
  ∃ (len dig sign : Int) (b : Bool), e = .returned (.tuple #[.agg #[.int .i64 len, .int .i64 dig, .int .i64 sign], .bool b]) ∧ (len = 0 → sign = 0) ∧ Below w.heap.size w w'
set_option maxHeartbeats 1000000 in
theorem headMake_d (s : Int) (v : Value) (L : List Int) (w : World) (h : Rd 1 w v L.length (enc1 L)) (hL : ∀ x ∈ L, Dg x) (hn : L.length ≤ 16) (hpos : 0 < L.length) :
    Calls Try.prog 120 #[.int .i64 s, v] w (HeadP w) := by
  have K := Lib.hid (fun W => l3Key_c s W)
  have C1 := Lib.hid (fun W (hW : Below w.heap.size w W) => l2Leaves_c v L W (h.below hW) hL hn)
  have C2 := Lib.hid (fun W (hW : Below w.heap.size w W) => specDigest_c v L W (h.below hW) hL hn)
  have hd := digest_in L hn
  generalize digest L = dg at *
  have C3 := Lib.hid (fun W => l3Message_c (L.length : Int) dg W ⟨by omega, by omega⟩ hd)
  have hp := pair_in (L.length : Int) dg
  generalize pair (L.length : Int) dg = p at *
  obtain ⟨p0, p1⟩ := hp
  obtain ⟨-, a1, k1, rfl, g1, g2, -⟩ := h
  unfold maxLen at g2
  generalize L.length = n at *
  clear hL hd
  obtain ⟨W0, hW0⟩ : ∃ W0, W0 = w.alloc (.cells #[.int .i64 0, .int .i64 0, .int .i64 0] 35) := ⟨_, rfl⟩
  have hB0 : Below w.heap.size w W0 := by rw [hW0]; (repeat' (first | exact Below.refl _ _ | assumption | refine Below.drew ?_ | refine below_drewN ?_ _ | refine Below.alloc ?_ (by omega) _ | refine Below.alloc ?_ (by simp; omega) _ | refine Below.alloc ?_ (by simp) _ | refine Below.setCell ?_ (by omega) _ | refine Below.setCell ?_ (by simp; omega) _ | refine Below.setCell ?_ (by simp) _))
  have hS0 : w.heap.size + 1 ≤ W0.heap.size := by rw [hW0]; simp
  have r0 : W0.cell? ⟨w.heap.size, 0, none⟩ = some (.int .i64 0) := by rw [hW0]; exact cell_new rfl rfl
  have r1 : W0.cell? ⟨w.heap.size, 1, none⟩ = some (.int .i64 0) := by rw [hW0]; exact cell_new rfl rfl
  have r2 : W0.cell? ⟨w.heap.size, 2, none⟩ = some (.int .i64 0) := by rw [hW0]; exact cell_new rfl rfl
  have fr : ∀ o, W0.frozen? ⟨w.heap.size, o, none⟩ = false := by intro o; rw [hW0]; exact frozen_new rfl
  have HB := Lib.hid hB0
  have HS := Lib.hid hS0
  clear hB0 hS0
  obtain ⟨mg, hmg⟩ : ∃ mg, p + 1 = mg := ⟨_, rfl⟩
  rw [hmg] at C3
  have hm0 : 0 ≤ mg := by omega
  have hm1 : mg ≤ 991 := by omega
  cases hk : inB 1 996 s
  · rw [hk] at K
    go_enter Try.func120, Try.ntmps120
    go_wp2_with fail
    rw [← hW0]
    clear hW0
    refine (K.out _).mono ?_
    rintro e w1 ⟨rfl, rfl⟩
    go_wp2
    refine bodyPost_ret (v := .tuple #[.agg #[.int .i64 0, .int .i64 0, .int .i64 0], .bool false]) (by simp [results, Try.results120, go_sem, r0, r1, r2]) rfl ?_
    exact ⟨0, 0, 0, false, rfl, fun _ => rfl, (Below.setCell (Below.setCell (Below.setCell HB.out (Nat.le_refl _) _) (Nat.le_refl _) _) (Nat.le_refl _) _)⟩
  · have i1 := inB_iff.1 hk
    rw [hk] at K
    have hmb := mul_bd (by omega : 0 ≤ s) i1.2 hm0 hm1
    have e1 : IntKind.i64.wrap (s * mg) = s * mg := IntWalk.i64_in _ (by omega)
    have e3 : (s * mg).tmod 997 = s * mg % 997 := Int.tmod_eq_emod_of_nonneg hmb.1
    clear hk hmg p0 p1 hmb hm0 hm1 i1
    go_enter Try.func120, Try.ntmps120
    go_wp2_with fail
    rw [← hW0]
    clear hW0
    refine (K.out _).mono ?_
    rintro e w1 ⟨rfl, rfl⟩
    go_wp2_with fail
    refine (C1.out _ HB.out).mono ?_
    rintro e w2 ⟨rfl, hb2⟩
    have r0 := cell_keep hb2 r0
    have r1 := cell_keep hb2 r1
    have r2 := cell_keep hb2 r2
    have fr : ∀ o, _ := fun o => Eq.trans (below_frozen (a := ⟨w.heap.size, o, none⟩) hb2 (by have := HS.out; show w.heap.size < _; omega)) (fr o)
    have HB := Lib.hid (HB.out.trans (hb2.mono HB.out.size))
    have HS := Lib.hid (Nat.le_trans HS.out hb2.size)
    clear hb2
    go_wp2_with fail
    refine (C2.out _ HB.out).mono ?_
    rintro e w3 ⟨rfl, hb3⟩
    have r0 := cell_keep hb3 r0
    have r1 := cell_keep hb3 r1
    have r2 := cell_keep hb3 r2
    have fr : ∀ o, _ := fun o => Eq.trans (below_frozen (a := ⟨w.heap.size, o, none⟩) hb3 (by have := HS.out; show w.heap.size < _; omega)) (fr o)
    have HB := Lib.hid (HB.out.trans (hb3.mono HB.out.size))
    have HS := Lib.hid (Nat.le_trans HS.out hb3.size)
    clear hb3
    go_wp2_with fail
    refine (C3.out _).mono ?_
    rintro e w4 ⟨rfl, rfl⟩
    go_wp2
    refine bodyPost_ret (v := .tuple #[.agg #[.int .i64 n, .int .i64 dg, .int .i64 (s * mg % 997)], .bool true]) (by simp [results, Try.results120, go_sem, r0, r1, r2, e3]) rfl ?_
    exact ⟨_, _, _, true, rfl, fun h => by omega, (Below.setCell (Below.setCell (Below.setCell HB.out (Nat.le_refl _) _) (Nat.le_refl _) _) (Nat.le_refl _) _)⟩
end Go.Proofs.Ytbjndbaljenlgaa
