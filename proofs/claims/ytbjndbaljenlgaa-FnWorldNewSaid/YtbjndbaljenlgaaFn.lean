/- Contracts of laws.sameFeed, of FeedNew of both sides, and of the draw of a secret. -/
import Derived.Test.YtbjndbaljenlgaaFk
namespace Go.Proofs.Ytbjndbaljenlgaa
open Go.RowKit
set_option linter.unusedSimpArgs false
theorem sameTexts_c (v1 v2 : Value) (ps : List ByteArray) (w : World) (h1 : Rd 1 w v1 ps.length (encS ps)) (h2 : Rd 1 w v2 ps.length (encS ps)) :
    Calls Try.prog 58 #[v1, v2] w (RetBool true w) := by
  obtain ⟨-, a1, c1, rfl, p1, m1, k1⟩ := h1
  obtain ⟨-, a2, c2, rfl, p2, m2, k2⟩ := h2
  unfold maxLen at m1 m2
  have HC1 := Lib.hid k1
  have HC2 := Lib.hid k2
  clear k1 k2
  go_enter Try.func58, Try.ntmps58
  go_wp2
  go_loopw [5] (fun i wr => ∃ k : Nat, k ≤ ps.length ∧ i = .int .i64 k ∧ Hid (Below w.heap.size w wr)) (fun i _ => ps.length - (intOf i).toNat)
  case atStart => exact ⟨0, Nat.zero_le _, rfl, Below.refl _ _⟩
  case round =>
    obtain ⟨k, hk, rfl, HB⟩ := hrel
    by_cases hlt : k < ps.length
    · obtain ⟨b1, o1, rfl, g1⟩ := HC1.out (by omega)
      obtain ⟨b2, o2, rfl, g2⟩ := HC2.out (by omega)
      have u1 := cell_keep HB.out (g1 k _ (encS_at ps k hlt))
      have u2 := cell_keep HB.out (g2 k _ (encS_at ps k hlt))
      generalize ps.getD k ByteArray.empty = x at *
      clear g1 g2 HC1 HC2
      skip
      all_goals
        go_wp2
        go_quiet (fail)
        go_wp2
        go_roundw
        case rel => exact ⟨k + 1, by omega, by go_num, below_drewN HB.out _⟩
        case measure => simp [intOf]; omega
    · clear HC1 HC2
      go_wp2
      go_ret
      exact ⟨rfl, HB.out⟩
theorem sameBools_c (v1 v2 : Value) (ps : List Bool) (w : World) (h1 : Rd 1 w v1 ps.length (encB ps)) (h2 : Rd 1 w v2 ps.length (encB ps)) :
    Calls Try.prog 59 #[v1, v2] w (RetBool true w) := by
  obtain ⟨-, a1, c1, rfl, p1, m1, k1⟩ := h1
  obtain ⟨-, a2, c2, rfl, p2, m2, k2⟩ := h2
  unfold maxLen at m1 m2
  have HC1 := Lib.hid k1
  have HC2 := Lib.hid k2
  clear k1 k2
  go_enter Try.func59, Try.ntmps59
  go_wp2
  go_loopw [5] (fun i wr => ∃ k : Nat, k ≤ ps.length ∧ i = .int .i64 k ∧ Hid (Below w.heap.size w wr)) (fun i _ => ps.length - (intOf i).toNat)
  case atStart => exact ⟨0, Nat.zero_le _, rfl, Below.refl _ _⟩
  case round =>
    obtain ⟨k, hk, rfl, HB⟩ := hrel
    by_cases hlt : k < ps.length
    · obtain ⟨b1, o1, rfl, g1⟩ := HC1.out (by omega)
      obtain ⟨b2, o2, rfl, g2⟩ := HC2.out (by omega)
      have u1 := cell_keep HB.out (g1 k _ (encB_at ps k hlt))
      have u2 := cell_keep HB.out (g2 k _ (encB_at ps k hlt))
      generalize ps.getD k false = x at *
      clear g1 g2 HC1 HC2
      cases x
      all_goals
        go_wp2
        go_quiet (fail)
        go_wp2
        go_roundw
        case rel => exact ⟨k + 1, by omega, by go_num, below_drewN HB.out _⟩
        case measure => simp [intOf]; omega
    · clear HC1 HC2
      go_wp2
      go_ret
      exact ⟨rfl, HB.out⟩
theorem sameFeed_c (f : FeedV) (vb vh ub uh : Value) (w : World) (hb : Rd 1 w vb f.bs.length (encS f.bs)) (hh : Rd 1 w vh f.hv.length (encB f.hv)) (kb : Rd 1 w ub f.bs.length (encS f.bs)) (kh : Rd 1 w uh f.hv.length (encB f.hv)) :
    Calls Try.prog 22 #[.agg #[.int .i64 f.pub, .int .i64 f.len, .int .i64 f.dig, .int .i64 f.sign, vb, vh], .agg #[.int .i64 f.pub, .int .i64 f.len, .int .i64 f.dig, .int .i64 f.sign, ub, uh]] w (RetBool true w) := by
  have ES := Lib.hid (fun W (hW : Below w.heap.size w W) => sameTexts_c vb ub f.bs W (hb.below hW) (kb.below hW))
  have EB := Lib.hid (fun W (hW : Below w.heap.size w W) => sameBools_c vh uh f.hv W (hh.below hW) (kh.below hW))
  obtain ⟨-, a1, k1, rfl, hb1, hb2, -⟩ := hb
  obtain ⟨-, a2, k2, rfl, hh1, hh2, -⟩ := hh
  obtain ⟨-, a3, k3, rfl, kb1, kb2, -⟩ := kb
  obtain ⟨-, a4, k4, rfl, kh1, kh2, -⟩ := kh
  obtain ⟨p, len, dig, sign, bs, hv⟩ := f
  dsimp only at *
  unfold maxLen at hb2 hh2 kb2 kh2
  generalize bs.length = n1 at *
  generalize hv.length = n2 at *
  clear bs hv
  obtain ⟨W0, hW0⟩ : ∃ W0, W0 = (w.alloc (.cells #[.int .i64 p, .int .i64 len, .int .i64 dig, .int .i64 sign, .slice a1 n1 k1, .slice a2 n2 k2] 39)).alloc (.cells #[.int .i64 p, .int .i64 len, .int .i64 dig, .int .i64 sign, .slice a3 n1 k3, .slice a4 n2 k4] 39) := ⟨_, rfl⟩
  have hB0 : Below w.heap.size w W0 := by rw [hW0]; (repeat' (first | exact Below.refl _ _ | assumption | refine Below.drew ?_ | refine below_drewN ?_ _ | refine Below.alloc ?_ (by omega) _ | refine Below.alloc ?_ (by simp; omega) _ | refine Below.alloc ?_ (by simp) _ | refine Below.setCell ?_ (by omega) _ | refine Below.setCell ?_ (by simp; omega) _ | refine Below.setCell ?_ (by simp) _))
  have x0 : W0.cell? ⟨w.heap.size, 0, none⟩ = some (.int .i64 p) := by rw [hW0]; (repeat rw [World.cell?_alloc_lt _ _ _ (by first | (simp; done) | (simp; omega))]); exact cell_new (by simp) rfl
  have x1 : W0.cell? ⟨w.heap.size, 1, none⟩ = some (.int .i64 len) := by rw [hW0]; (repeat rw [World.cell?_alloc_lt _ _ _ (by first | (simp; done) | (simp; omega))]); exact cell_new (by simp) rfl
  have x2 : W0.cell? ⟨w.heap.size, 2, none⟩ = some (.int .i64 dig) := by rw [hW0]; (repeat rw [World.cell?_alloc_lt _ _ _ (by first | (simp; done) | (simp; omega))]); exact cell_new (by simp) rfl
  have x3 : W0.cell? ⟨w.heap.size, 3, none⟩ = some (.int .i64 sign) := by rw [hW0]; (repeat rw [World.cell?_alloc_lt _ _ _ (by first | (simp; done) | (simp; omega))]); exact cell_new (by simp) rfl
  have x4 : W0.cell? ⟨w.heap.size, 4, none⟩ = some (.slice a1 n1 k1) := by rw [hW0]; (repeat rw [World.cell?_alloc_lt _ _ _ (by first | (simp; done) | (simp; omega))]); exact cell_new (by simp) rfl
  have x5 : W0.cell? ⟨w.heap.size, 5, none⟩ = some (.slice a2 n2 k2) := by rw [hW0]; (repeat rw [World.cell?_alloc_lt _ _ _ (by first | (simp; done) | (simp; omega))]); exact cell_new (by simp) rfl
  have y0 : W0.cell? ⟨w.heap.size + 1, 0, none⟩ = some (.int .i64 p) := by rw [hW0]; (repeat rw [World.cell?_alloc_lt _ _ _ (by first | (simp; done) | (simp; omega))]); exact cell_new (by simp) rfl
  have y1 : W0.cell? ⟨w.heap.size + 1, 1, none⟩ = some (.int .i64 len) := by rw [hW0]; (repeat rw [World.cell?_alloc_lt _ _ _ (by first | (simp; done) | (simp; omega))]); exact cell_new (by simp) rfl
  have y2 : W0.cell? ⟨w.heap.size + 1, 2, none⟩ = some (.int .i64 dig) := by rw [hW0]; (repeat rw [World.cell?_alloc_lt _ _ _ (by first | (simp; done) | (simp; omega))]); exact cell_new (by simp) rfl
  have y3 : W0.cell? ⟨w.heap.size + 1, 3, none⟩ = some (.int .i64 sign) := by rw [hW0]; (repeat rw [World.cell?_alloc_lt _ _ _ (by first | (simp; done) | (simp; omega))]); exact cell_new (by simp) rfl
  have y4 : W0.cell? ⟨w.heap.size + 1, 4, none⟩ = some (.slice a3 n1 k3) := by rw [hW0]; (repeat rw [World.cell?_alloc_lt _ _ _ (by first | (simp; done) | (simp; omega))]); exact cell_new (by simp) rfl
  have y5 : W0.cell? ⟨w.heap.size + 1, 5, none⟩ = some (.slice a4 n2 k4) := by rw [hW0]; (repeat rw [World.cell?_alloc_lt _ _ _ (by first | (simp; done) | (simp; omega))]); exact cell_new (by simp) rfl
  have HB := Lib.hid hB0
  clear hB0
  go_enter Try.func22, Try.ntmps22
  go_wp2_with fail
  rw [← hW0]
  clear hW0
  refine (ES.out _ HB.out).mono ?_
  rintro e w2 ⟨rfl, hb2'⟩
  have x0 : w2.cell? ⟨w.heap.size, 0, none⟩ = some (.int .i64 p) := cell_keep hb2' x0
  have x1 : w2.cell? ⟨w.heap.size, 1, none⟩ = some (.int .i64 len) := cell_keep hb2' x1
  have x2 : w2.cell? ⟨w.heap.size, 2, none⟩ = some (.int .i64 dig) := cell_keep hb2' x2
  have x3 : w2.cell? ⟨w.heap.size, 3, none⟩ = some (.int .i64 sign) := cell_keep hb2' x3
  have x4 : w2.cell? ⟨w.heap.size, 4, none⟩ = some (.slice a1 n1 k1) := cell_keep hb2' x4
  have x5 : w2.cell? ⟨w.heap.size, 5, none⟩ = some (.slice a2 n2 k2) := cell_keep hb2' x5
  have y0 : w2.cell? ⟨w.heap.size + 1, 0, none⟩ = some (.int .i64 p) := cell_keep hb2' y0
  have y1 : w2.cell? ⟨w.heap.size + 1, 1, none⟩ = some (.int .i64 len) := cell_keep hb2' y1
  have y2 : w2.cell? ⟨w.heap.size + 1, 2, none⟩ = some (.int .i64 dig) := cell_keep hb2' y2
  have y3 : w2.cell? ⟨w.heap.size + 1, 3, none⟩ = some (.int .i64 sign) := cell_keep hb2' y3
  have y4 : w2.cell? ⟨w.heap.size + 1, 4, none⟩ = some (.slice a3 n1 k3) := cell_keep hb2' y4
  have y5 : w2.cell? ⟨w.heap.size + 1, 5, none⟩ = some (.slice a4 n2 k4) := cell_keep hb2' y5
  have HB := Lib.hid (HB.out.trans (hb2'.mono HB.out.size))
  clear hb2'
  go_wp2_with fail
  refine (EB.out _ HB.out).mono ?_
  rintro e w3 ⟨rfl, hb3'⟩
  have HB := Lib.hid (HB.out.trans (hb3'.mono HB.out.size))
  clear hb3'
  go_wp2
  go_ret
  exact ⟨rfl, HB.out⟩
theorem own_nil (w : World) (base e sz : Nat) : w.ownsRow base e sz (.slice none 0 0) 0 [] := ⟨by simp, .inl ⟨rfl, rfl⟩⟩
/-- the public key of a new feed -/
def np (n : Int) : Int := if inB 1 996 n = true then n else 0
def ef (n : Int) : FeedV := ⟨np n, 0, 0, 0, [], []⟩
theorem ef_fv (n : Int) (h : inB 1 996 n = true) : fv (ef n) = true := fv_t ⟨by unfold ef np Key; simp only [h, if_true]; exact inB_iff.1 h, .inl ⟨rfl, rfl, rfl⟩, rfl, rfl, fun i hi => absurd hi (Nat.not_lt_zero _), .inl rfl⟩
/-- a new feed, in memory of the call's own, and whether the key is right -/
def NewP (n : Int) (w : World) (e : Ending) (w' : World) : Prop :=
  ∃ vb vh, e = .returned (.tuple #[.agg #[.int .i64 (np n), .int .i64 0, .int .i64 0, .int .i64 0, vb, vh], .bool (inB 1 996 n)]) ∧ w'.ownsRow w.heap.size 9 1 vb 0 [] ∧ w'.ownsRow w.heap.size 4 1 vh 0 [] ∧ (∀ k, vb.ownBlock = some k → vh.ownBlock ≠ some k) ∧ Below w.heap.size w w'
theorem impNew_c (n : Int) (w : World) : Calls Try.prog 20 #[.int .i64 n] w (NewP n w) := by
  have K := Lib.hid (fun W => isKey_c n W)
  have HN := Lib.hid (show np n = if inB 1 996 n = true then n else 0 from rfl)
  have HP := Lib.hid (show ∀ e w' vb vh b m, inB 1 996 n = b → np n = m → e = .returned (.tuple #[.agg #[.int .i64 m, .int .i64 0, .int .i64 0, .int .i64 0, vb, vh], .bool b]) → w'.ownsRow w.heap.size 9 1 vb 0 [] → w'.ownsRow w.heap.size 4 1 vh 0 [] → (∀ k, vb.ownBlock = some k → vh.ownBlock ≠ some k) → Below w.heap.size w w' → NewP n w e w' from fun _ _ vb vh b m hb hm h1 h2 h3 h4 h5 => ⟨vb, vh, by rw [hb, hm]; exact h1, h2, h3, h4, h5⟩)
  generalize NewP n w = post at *
  cases hk : inB 1 996 n
  · rw [hk] at K
    have h0 : np n = 0 := by rw [HN.out, hk]; rfl
    have HK := Lib.hid (And.intro hk h0)
    clear hk h0 HN
    go_enter Try.func20, Try.ntmps20
    go_wp2_with fail
    refine (K.out _).mono ?_
    rintro e w' ⟨rfl, rfl⟩
    go_wp2
    refine bodyPost_ret (v := .tuple #[.agg #[.int .i64 0, .int .i64 0, .int .i64 0, .int .i64 0, .slice none 0 0, .slice none 0 0], .bool false]) (by simp [results, Try.results20, go_sem]) rfl ?_
    exact HP.out _ _ _ _ _ _ HK.out.1 HK.out.2 rfl (own_nil _ _ _ _) (own_nil _ _ _ _) (fun k h => by cases h) (by (repeat' (first | exact Below.refl _ _ | assumption | refine Below.drew ?_ | refine below_drewN ?_ _ | refine Below.alloc ?_ (by omega) _ | refine Below.alloc ?_ (by simp; omega) _ | refine Below.alloc ?_ (by simp) _ | refine Below.setCell ?_ (by omega) _ | refine Below.setCell ?_ (by simp; omega) _ | refine Below.setCell ?_ (by simp) _)))
  · rw [hk] at K
    have h0 : np n = n := by rw [HN.out, hk]; rfl
    have HK := Lib.hid (And.intro hk h0)
    clear hk h0 HN
    go_enter Try.func20, Try.ntmps20
    go_wp2_with fail
    refine (K.out _).mono ?_
    rintro e w' ⟨rfl, rfl⟩
    go_wp2
    refine bodyPost_ret (v := .tuple #[.agg #[.int .i64 n, .int .i64 0, .int .i64 0, .int .i64 0, .slice none 0 0, .slice none 0 0], .bool true]) (by simp [results, Try.results20, go_sem]) rfl ?_
    exact HP.out _ _ _ _ _ _ HK.out.1 HK.out.2 rfl (own_nil _ _ _ _) (own_nil _ _ _ _) (fun k h => by cases h) (by (repeat' (first | exact Below.refl _ _ | assumption | refine Below.drew ?_ | refine below_drewN ?_ _ | refine Below.alloc ?_ (by omega) _ | refine Below.alloc ?_ (by simp; omega) _ | refine Below.alloc ?_ (by simp) _ | refine Below.setCell ?_ (by omega) _ | refine Below.setCell ?_ (by simp; omega) _ | refine Below.setCell ?_ (by simp) _)))
theorem specNew_c (n : Int) (w : World) : Calls Try.prog 21 #[.int .i64 n] w (NewP n w) := by
  have K := Lib.hid (fun W => l3Key_c n W)
  have HN := Lib.hid (show np n = if inB 1 996 n = true then n else 0 from rfl)
  have HP := Lib.hid (show ∀ e w' vb vh b m, inB 1 996 n = b → np n = m → e = .returned (.tuple #[.agg #[.int .i64 m, .int .i64 0, .int .i64 0, .int .i64 0, vb, vh], .bool b]) → w'.ownsRow w.heap.size 9 1 vb 0 [] → w'.ownsRow w.heap.size 4 1 vh 0 [] → (∀ k, vb.ownBlock = some k → vh.ownBlock ≠ some k) → Below w.heap.size w w' → NewP n w e w' from fun _ _ vb vh b m hb hm h1 h2 h3 h4 h5 => ⟨vb, vh, by rw [hb, hm]; exact h1, h2, h3, h4, h5⟩)
  generalize NewP n w = post at *
  cases hk : inB 1 996 n
  · rw [hk] at K
    have h0 : np n = 0 := by rw [HN.out, hk]; rfl
    have HK := Lib.hid (And.intro hk h0)
    clear hk h0 HN
    go_enter Try.func21, Try.ntmps21
    go_wp2_with fail
    refine (K.out _).mono ?_
    rintro e w' ⟨rfl, rfl⟩
    go_wp2
    refine bodyPost_ret (v := .tuple #[.agg #[.int .i64 0, .int .i64 0, .int .i64 0, .int .i64 0, .slice none 0 0, .slice none 0 0], .bool false]) (by simp [results, Try.results21, go_sem]) rfl ?_
    exact HP.out _ _ _ _ _ _ HK.out.1 HK.out.2 rfl (own_nil _ _ _ _) (own_nil _ _ _ _) (fun k h => by cases h) (by (repeat' (first | exact Below.refl _ _ | assumption | refine Below.drew ?_ | refine below_drewN ?_ _ | refine Below.alloc ?_ (by omega) _ | refine Below.alloc ?_ (by simp; omega) _ | refine Below.alloc ?_ (by simp) _ | refine Below.setCell ?_ (by omega) _ | refine Below.setCell ?_ (by simp; omega) _ | refine Below.setCell ?_ (by simp) _)))
  · rw [hk] at K
    have h0 : np n = n := by rw [HN.out, hk]; rfl
    have HK := Lib.hid (And.intro hk h0)
    clear hk h0 HN
    go_enter Try.func21, Try.ntmps21
    go_wp2_with fail
    refine (K.out _).mono ?_
    rintro e w' ⟨rfl, rfl⟩
    go_wp2_with fail
    refine (l11Empty_c _).mono ?_
    rintro e w1 ⟨rfl, hb1⟩
    have hl1 : w.heap.size < w1.heap.size := by have := hb1.size; simp at this; omega
    have r0 : w1.cell? ⟨w.heap.size, 0, none⟩ = some (.int .i64 0) := cell_keep hb1 (cell_new rfl rfl)
    have r1 : w1.cell? ⟨w.heap.size, 1, none⟩ = some (.int .i64 0) := cell_keep hb1 (cell_new rfl rfl)
    have r2 : w1.cell? ⟨w.heap.size, 2, none⟩ = some (.int .i64 0) := cell_keep hb1 (cell_new rfl rfl)
    have r3 : w1.cell? ⟨w.heap.size, 3, none⟩ = some (.int .i64 0) := cell_keep hb1 (cell_new rfl rfl)
    have r4 : w1.cell? ⟨w.heap.size, 4, none⟩ = some (.slice none 0 0) := cell_keep hb1 (cell_new rfl rfl)
    have r5 : w1.cell? ⟨w.heap.size, 5, none⟩ = some (.slice none 0 0) := cell_keep hb1 (cell_new rfl rfl)
    have fr : ∀ o, w1.frozen? ⟨w.heap.size, o, none⟩ = false := fun o => (below_frozen hb1 (by simp)).trans (frozen_new rfl)
    have hne1 : ¬ w.heap.size = w1.heap.size := by omega
    have hne2 : ¬ w.heap.size = w1.heap.size + 1 := by omega
    have HB := Lib.hid (show Below w.heap.size w w1 from ((Below.refl _ _).alloc (Nat.le_refl _) _).trans (hb1.mono (by simp)))
    clear hb1
    go_wp2
    obtain ⟨X, hX⟩ : ∃ X, X = ((((((w1.setCell ⟨w.heap.size, 0, none⟩ (.int .i64 n)).setCell ⟨w.heap.size, 1, none⟩ (.int .i64 0)).setCell ⟨w.heap.size, 2, none⟩ (.int .i64 0)).setCell ⟨w.heap.size, 3, none⟩ (.int .i64 0)).setCell ⟨w.heap.size, 4, none⟩ (.slice (some ⟨w1.heap.size, 0, none⟩) 0 0)).setCell ⟨w.heap.size, 5, none⟩ (.slice (some ⟨w1.heap.size + 1, 0, none⟩) 0 0)) := ⟨_, rfl⟩
    rw [← hX]
    have hXs : X.heap.size = w1.heap.size := by rw [hX]; simp
    have hBX : Below w.heap.size w X := by rw [hX]; exact (Below.setCell (Below.setCell (Below.setCell (Below.setCell (Below.setCell (Below.setCell HB.out (Nat.le_refl _) _) (Nat.le_refl _) _) (Nat.le_refl _) _) (Nat.le_refl _) _) (Nat.le_refl _) _) (Nat.le_refl _) _)
    have q0 : X.cell? ⟨w.heap.size, 0, none⟩ = some (.int .i64 n) := by rw [hX]; simp [go_sem, r0, r1, r2, r3, r4, r5]
    have q1 : X.cell? ⟨w.heap.size, 1, none⟩ = some (.int .i64 0) := by rw [hX]; simp [go_sem, r0, r1, r2, r3, r4, r5]
    have q2 : X.cell? ⟨w.heap.size, 2, none⟩ = some (.int .i64 0) := by rw [hX]; simp [go_sem, r0, r1, r2, r3, r4, r5]
    have q3 : X.cell? ⟨w.heap.size, 3, none⟩ = some (.int .i64 0) := by rw [hX]; simp [go_sem, r0, r1, r2, r3, r4, r5]
    have q4 : X.cell? ⟨w.heap.size, 4, none⟩ = some (.slice (some ⟨w1.heap.size, 0, none⟩) 0 0) := by rw [hX]; simp [go_sem, r0, r1, r2, r3, r4, r5]
    have q5 : X.cell? ⟨w.heap.size, 5, none⟩ = some (.slice (some ⟨w1.heap.size + 1, 0, none⟩) 0 0) := by rw [hX]; simp [go_sem, r0, r1, r2, r3, r4, r5]
    clear hX r0 r1 r2 r3 r4 r5 fr
    have hn1 : ¬ w.heap.size = X.heap.size := by omega
    have hn2 : ¬ w.heap.size = X.heap.size + 1 := by omega
    rw [← hXs] at q4 q5
    have q0 : ((X.alloc (.cells #[] 9)).alloc (.cells #[] 4)).cell? ⟨w.heap.size, 0, none⟩ = some (.int .i64 n) := cell_keep (((Below.refl _ _).alloc (Nat.le_refl _) _).alloc (by simp) _) q0
    have q1 : ((X.alloc (.cells #[] 9)).alloc (.cells #[] 4)).cell? ⟨w.heap.size, 1, none⟩ = some (.int .i64 0) := cell_keep (((Below.refl _ _).alloc (Nat.le_refl _) _).alloc (by simp) _) q1
    have q2 : ((X.alloc (.cells #[] 9)).alloc (.cells #[] 4)).cell? ⟨w.heap.size, 2, none⟩ = some (.int .i64 0) := cell_keep (((Below.refl _ _).alloc (Nat.le_refl _) _).alloc (by simp) _) q2
    have q3 : ((X.alloc (.cells #[] 9)).alloc (.cells #[] 4)).cell? ⟨w.heap.size, 3, none⟩ = some (.int .i64 0) := cell_keep (((Below.refl _ _).alloc (Nat.le_refl _) _).alloc (by simp) _) q3
    have q4 : ((X.alloc (.cells #[] 9)).alloc (.cells #[] 4)).cell? ⟨w.heap.size, 4, none⟩ = some (.slice (some ⟨X.heap.size, 0, none⟩) 0 0) := cell_keep (((Below.refl _ _).alloc (Nat.le_refl _) _).alloc (by simp) _) q4
    have q5 : ((X.alloc (.cells #[] 9)).alloc (.cells #[] 4)).cell? ⟨w.heap.size, 5, none⟩ = some (.slice (some ⟨X.heap.size + 1, 0, none⟩) 0 0) := cell_keep (((Below.refl _ _).alloc (Nat.le_refl _) _).alloc (by simp) _) q5
    have O1 := own_below (own_empty X X.heap.size 9 1 (Nat.le_refl _)) ((Below.refl (X.alloc (.cells #[] 9)).heap.size _).alloc (Nat.le_refl _) (.cells #[] 4))
    have O2 := own_empty' (X.alloc (.cells #[] 9)) w.heap.size (X.heap.size + 1) 4 1 (by simp; omega) (by simp)
    refine bodyPost_ret (v := .tuple #[.agg #[.int .i64 n, .int .i64 0, .int .i64 0, .int .i64 0, .slice (some ⟨X.heap.size, 0, none⟩) 0 0, .slice (some ⟨X.heap.size + 1, 0, none⟩) 0 0], .bool true]) (by simp [results, Try.results21, go_sem, q0, q1, q2, q3, q4, q5]) rfl ?_
    exact HP.out _ _ _ _ _ _ HK.out.1 HK.out.2 rfl (own_base O1 (by omega)) O2 (fun k h h2 => by simp [Value.ownBlock] at h h2; omega) ((hBX.alloc hBX.size _).alloc (by simp; omega) _)
end Go.Proofs.Ytbjndbaljenlgaa
