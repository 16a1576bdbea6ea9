/- The contracts of l91Spoilt and of DrawFeedValid. -/
import Derived.Test.YtbjndbaljenlgaaDs
import Derived.Deep.RegionHeld3
namespace Go.Proofs.Ytbjndbaljenlgaa
open Go.RowKit
set_option linter.unusedSimpArgs false
theorem encS_set (bs : List ByteArray) (q : Nat) (x : ByteArray) : (encS bs).set q (.string x) = encS (bs.set q x) := by simp [encS, List.map_set]
theorem St.set4 {B r P h fb base : Nat} {w W : World} {p len dig sign : Int} {vb vh v' : Value} {bs bs' : List ByteArray} {hv : List Bool} (s : St B r w W h fb base p len dig sign vb vh bs hv P)
    (ho : W.ownsRow base 9 1 v' bs'.length (encS bs')) (ap : v'.ownBlock = none ∨ v'.ownBlock ≠ vh.ownBlock) (nb : v'.ownBlock ≠ some fb) : St B r w (W.setCell ⟨fb, 4, none⟩ v') h fb base p len dig sign v' vh bs' hv P := by
  have h1 := s.hf
  have h2 := s.bw
  have o : Ow W base fb v' vh bs' hv := ⟨ho, s.ow.h, ap, nb, s.ow.nh⟩
  exact ⟨s.fr.set4 s.hn v', o.set (.inr rfl), s.rd.setn (by omega), grown_setn s.gr (by omega), s.hh, h1, s.hn, s.hb, by simpa using s.bl, by simpa using s.lt, h2⟩
/-- one of its texts is written -/
theorem St.txt {B r P h fb base g cap q : Nat} {w W : World} {p len dig sign : Int} {vh : Value} {bs : List ByteArray} {hv : List Bool} (s : St B r w W h fb base p len dig sign (.slice (some ⟨g, 0, none⟩) bs.length cap) vh bs hv P) (x : ByteArray) :
    St B r w (W.setCell ⟨g, q, none⟩ (.string x)) h fb base p len dig sign (.slice (some ⟨g, 0, none⟩) bs.length cap) vh (bs.set q x) hv P := by
  have hs := s.ow.b.stored q (.string x)
  have hg : base ≤ g := (own_block s.ow.b g rfl).1
  have h1 := s.hb
  have h2 := s.hh
  have h3 := s.bw
  have h4 : (some g : Option Nat) ≠ some fb := s.ow.nb
  have o : Ow (W.setCell ⟨g, q, none⟩ (.string x)) base fb (.slice (some ⟨g, 0, none⟩) bs.length cap) vh (bs.set q x) hv := by
    refine ⟨by rw [← encS_set, List.length_set]; exact hs.1, s.ow.h.kept hs.2 ?_, s.ow.ap, s.ow.nb, s.ow.nh⟩
    rcases s.ow.ap with e | e
    · cases e
    · exact .inr (Ne.symm e)
  exact ⟨s.fr.moved hs.2 (by simp; omega) (Ne.symm h4), o, s.rd.setn (by omega), grown_setn s.gr (by omega), h2, s.hf, s.hn, h1, by simpa using s.bl, by simpa using s.lt, h3⟩
/-- a drawn feed: it can be read, in memory from w on; a head of no blocks is not signed -/
def SpP (B r P : Nat) (w : World) (e : Ending) (w' : World) : Prop :=
  ∃ (f : FeedV) (vb vh : Value), e = .returned (.agg #[.int .i64 f.pub, .int .i64 f.len, .int .i64 f.dig, .int .i64 f.sign, vb, vh]) ∧ RdS (fun k => w.heap.size ≤ k) 1 w' vb f.bs.length (encS f.bs) ∧ RdS (fun k => w.heap.size ≤ k) 1 w' vh f.hv.length (encB f.hv) ∧
    f.bs.length ≤ 16 ∧ f.hv.length ≤ 1001 ∧ (f.len = 0 → f.sign = 0) ∧ Reader B w' r P ∧ w.grownBy w' (some r)
theorem spp_of {B r P : Nat} {w w' : World} (f : FeedV) {vb vh : Value} (h : RdS (fun k => w.heap.size ≤ k) 1 w' vb f.bs.length (encS f.bs) ∧ RdS (fun k => w.heap.size ≤ k) 1 w' vh f.hv.length (encB f.hv) ∧ Reader B w' r P ∧ w.grownBy w' (some r)) (h1 : f.bs.length ≤ 16) (h2 : f.hv.length ≤ 1001) (h3 : f.len = 0 → f.sign = 0) :
    SpP B r P w (.returned (.agg #[.int .i64 f.pub, .int .i64 f.len, .int .i64 f.dig, .int .i64 f.sign, vb, vh])) w' := ⟨f, vb, vh, rfl, h.1, h.2.1, h1, h2, h3, h.2.2.1, h.2.2.2⟩
set_option maxHeartbeats 2000000 in
theorem spoilt_d {S : Nat → Prop} (B r P : Nat) (f : FeedV) (vb vh : Value) (w : World) (h : Reader B w r P) (hP : P ≤ 4294967000) (hb : RdS S 1 w vb f.bs.length (encS f.bs)) (hh : RdS S 1 w vh f.hv.length (encB f.hv)) (hbn : f.bs.length ≤ 16) (hhn : f.hv.length ≤ 1000) (hz : f.len = 0 → f.sign = 0) :
    Calls Try.prog 85 #[.pointer (some ⟨r, 0, none⟩), .agg #[.int .i64 f.pub, .int .i64 f.len, .int .i64 f.dig, .int .i64 f.sign, vb, vh]] w (SpP B r (P + 20) w) := by
  have hrB := h.1
  have hBw := h.2.1
  have CP := Lib.hid (fun W (hW : Below w.heap.size w W) => copy_d f vb vh W (hb.below hW) (hh.below hW) ⟨by omega, by omega⟩)
  obtain ⟨-, -, a1, k1, rfl, hb1, hb2, -⟩ := hb
  obtain ⟨-, -, a2, k2, rfl, hh1, hh2, -⟩ := hh
  obtain ⟨p, len, dig, sign, bs, hv⟩ := f
  dsimp only at *
  unfold maxLen at hb2 hh2
  obtain ⟨n1, hn1⟩ : ∃ n, bs.length = n := ⟨_, rfl⟩
  obtain ⟨n2, hn2⟩ : ∃ n, hv.length = n := ⟨_, rfl⟩
  have HZ := Lib.hid hz
  clear hz
  obtain ⟨W0, hW0⟩ : ∃ W0, W0 = (w.alloc (.cells #[.int .i64 p, .int .i64 len, .int .i64 dig, .int .i64 sign, .slice a1 bs.length k1, .slice a2 hv.length k2] 39)).alloc (.cells #[.int .i64 0, .int .i64 0, .int .i64 0, .int .i64 0, .slice none 0 0, .slice none 0 0] 39) := ⟨_, rfl⟩
  have hB0 : Below w.heap.size w W0 := by rw [hW0]; (repeat' (first | exact Below.refl _ _ | assumption | refine Below.drew ?_ | refine below_drewN ?_ _ | refine Below.alloc ?_ (by omega) _ | refine Below.alloc ?_ (by simp; omega) _ | refine Below.alloc ?_ (by simp) _ | refine Below.setCell ?_ (by omega) _ | refine Below.setCell ?_ (by simp; omega) _ | refine Below.setCell ?_ (by simp) _))
  have hS0 : W0.heap.size = w.heap.size + 2 := by rw [hW0]; simp
  have x0 : W0.cell? ⟨w.heap.size, 0, none⟩ = some (.int .i64 p) := by rw [hW0]; (repeat rw [World.cell?_alloc_lt _ _ _ (by first | (simp; done) | (simp; omega))]); exact cell_new (by simp) rfl
  have x1 : W0.cell? ⟨w.heap.size, 1, none⟩ = some (.int .i64 len) := by rw [hW0]; (repeat rw [World.cell?_alloc_lt _ _ _ (by first | (simp; done) | (simp; omega))]); exact cell_new (by simp) rfl
  have x2 : W0.cell? ⟨w.heap.size, 2, none⟩ = some (.int .i64 dig) := by rw [hW0]; (repeat rw [World.cell?_alloc_lt _ _ _ (by first | (simp; done) | (simp; omega))]); exact cell_new (by simp) rfl
  have x3 : W0.cell? ⟨w.heap.size, 3, none⟩ = some (.int .i64 sign) := by rw [hW0]; (repeat rw [World.cell?_alloc_lt _ _ _ (by first | (simp; done) | (simp; omega))]); exact cell_new (by simp) rfl
  have x4 : W0.cell? ⟨w.heap.size, 4, none⟩ = some (.slice a1 bs.length k1) := by rw [hW0]; (repeat rw [World.cell?_alloc_lt _ _ _ (by first | (simp; done) | (simp; omega))]); exact cell_new (by simp) rfl
  have x5 : W0.cell? ⟨w.heap.size, 5, none⟩ = some (.slice a2 hv.length k2) := by rw [hW0]; (repeat rw [World.cell?_alloc_lt _ _ _ (by first | (simp; done) | (simp; omega))]); exact cell_new (by simp) rfl
  have r0 : W0.cell? ⟨w.heap.size + 1, 0, none⟩ = some (.int .i64 0) := by rw [hW0]; (repeat rw [World.cell?_alloc_lt _ _ _ (by first | (simp; done) | (simp; omega))]); exact cell_new (by simp) rfl
  have r1 : W0.cell? ⟨w.heap.size + 1, 1, none⟩ = some (.int .i64 0) := by rw [hW0]; (repeat rw [World.cell?_alloc_lt _ _ _ (by first | (simp; done) | (simp; omega))]); exact cell_new (by simp) rfl
  have r2 : W0.cell? ⟨w.heap.size + 1, 2, none⟩ = some (.int .i64 0) := by rw [hW0]; (repeat rw [World.cell?_alloc_lt _ _ _ (by first | (simp; done) | (simp; omega))]); exact cell_new (by simp) rfl
  have r3 : W0.cell? ⟨w.heap.size + 1, 3, none⟩ = some (.int .i64 0) := by rw [hW0]; (repeat rw [World.cell?_alloc_lt _ _ _ (by first | (simp; done) | (simp; omega))]); exact cell_new (by simp) rfl
  have r4 : W0.cell? ⟨w.heap.size + 1, 4, none⟩ = some (.slice none 0 0) := by rw [hW0]; (repeat rw [World.cell?_alloc_lt _ _ _ (by first | (simp; done) | (simp; omega))]); exact cell_new (by simp) rfl
  have r5 : W0.cell? ⟨w.heap.size + 1, 5, none⟩ = some (.slice none 0 0) := by rw [hW0]; (repeat rw [World.cell?_alloc_lt _ _ _ (by first | (simp; done) | (simp; omega))]); exact cell_new (by simp) rfl
  have fx : ∀ o, W0.frozen? ⟨w.heap.size, o, none⟩ = false := by intro o; rw [hW0]; exact (((Below.refl _ _).alloc (Nat.le_refl _) _).frozen (by first | (simp; done) | (simp; omega))).trans (frozen_new rfl)
  have fr : ∀ o, W0.frozen? ⟨w.heap.size + 1, o, none⟩ = false := by intro o; rw [hW0]; exact frozen_new (by simp)
  have F0 : Hid (Fr W0 (w.heap.size + 1) w.heap.size p len dig sign (.slice a1 bs.length k1) (.slice a2 hv.length k2)) := Lib.hid ⟨x0, x1, x2, x3, x4, x5, fx, r0, r1, r2, r3, r4, r5, fr⟩
  have HB := Lib.hid hB0
  have HS0 := Lib.hid hS0
  clear hB0 hS0 fx fr r0 r1 r2 r3 r4 r5 hn1 hn2 n1 n2
  go_enter Try.func85, Try.ntmps85
  go_wp2_with fail
  rw [← hW0]
  clear hW0
  refine (CP.out W0 HB.out).mono ?_
  rintro e w1 ⟨ub, uh, rfl, o1, o2, hap, hb1'⟩
  obtain ⟨a3, k3, hub⟩ : ∃ a c, ub = .slice a bs.length c := own_slice o1
  obtain ⟨a4, k4, huh⟩ : ∃ a c, uh = .slice a hv.length c := own_slice o2
  subst hub huh
  have F1 := F0.out.below hb1'
  have ho : Ow w1 (w.heap.size + 2) w.heap.size (.slice a3 bs.length k3) (.slice a4 hv.length k4) bs hv :=
    ⟨own_base o1 (by have := HS0.out; omega), own_base o2 (by have := HS0.out; omega), hap, fun e => by have := (own_block o1 _ e).1; have := HS0.out; omega, fun e => by have := (own_block o2 _ e).1; have := HS0.out; omega⟩
  have hBw1 := HB.out.trans (hb1'.mono HB.out.size)
  have hs1 : w.heap.size + 2 ≤ w1.heap.size := by have := hb1'.size; have := HS0.out; omega
  have hnf : w.heap.size + 1 ≠ w.heap.size := by omega
  have S : Hid (St B r w ((((((w1.setCell ⟨w.heap.size, 0, none⟩ (.int .i64 p)).setCell ⟨w.heap.size, 1, none⟩ (.int .i64 len)).setCell ⟨w.heap.size, 2, none⟩ (.int .i64 dig)).setCell ⟨w.heap.size, 3, none⟩ (.int .i64 sign)).setCell ⟨w.heap.size, 4, none⟩ (.slice a3 bs.length k3)).setCell ⟨w.heap.size, 5, none⟩ (.slice a4 hv.length k4)) (w.heap.size + 1) w.heap.size (w.heap.size + 2) p len dig sign (.slice a3 bs.length k3) (.slice a4 hv.length k4) bs hv P) := Lib.hid
    ⟨(((((F1.set0 hnf p).set1 hnf len).set2 hnf dig).set3 hnf sign).set4 hnf _).set5 hnf _, (((((ho.set (.inr rfl)).set (.inr rfl)).set (.inr rfl)).set (.inr rfl)).set (.inr rfl)).set (.inr rfl), ((((((h.below hBw1).setn hBw).setn hBw).setn hBw).setn hBw).setn hBw).setn hBw,
      grown_setn (grown_setn (grown_setn (grown_setn (grown_setn (grown_setn (below_grown hBw1 _) (Nat.le_refl _)) (Nat.le_refl _)) (Nat.le_refl _)) (Nat.le_refl _)) (Nat.le_refl _)) (Nat.le_refl _), by omega, Nat.le_refl _, hnf, Nat.lt_succ_self _, by simpa using hs1, by simp; omega, hBw⟩
  have fx := F1.fx
  have x0 := F1.x0
  have x1 := F1.x1
  have x2 := F1.x2
  have x3 := F1.x3
  have x4 := F1.x4
  have x5 := F1.x5
  clear o1 o2 hap ho F1 hb1' F0 HB HS0 hBw1 hs1 CP h
  go_upto_region 2 with (fail)
  obtain ⟨X, hX⟩ : ∃ X, X = ((((((w1.setCell ⟨w.heap.size, 0, none⟩ (.int .i64 p)).setCell ⟨w.heap.size, 1, none⟩ (.int .i64 len)).setCell ⟨w.heap.size, 2, none⟩ (.int .i64 dig)).setCell ⟨w.heap.size, 3, none⟩ (.int .i64 sign)).setCell ⟨w.heap.size, 4, none⟩ (.slice a3 bs.length k3)).setCell ⟨w.heap.size, 5, none⟩ (.slice a4 hv.length k4)) := ⟨_, rfl⟩
  rw [← hX] at S ⊢
  clear hX
  clear fx x0 x1 x2 x3 x4 x5
  go_wp2_with fail
  refine (pick_c B r _ 24 _ S.out.rd (by omega)).mono ?_
  rintro e w2 ⟨m, rfl, hm0, -, hR2, hg2⟩
  have S2 := Lib.hid (S.out.pick hR2 hg2)
  clear S hR2 hg2 X
  by_cases c0 : m = 0
  · subst c0
    go_wp2_with fail
    refine (secret_c B r _ _ S2.out.rd (by omega)).mono ?_
    rintro e w3 ⟨n, rfl, -, -, hR3, hg3⟩
    have S3 := Lib.hid (S2.out.pick hR3 hg3)
    clear S2 hR3 hg3
    have S := Lib.hid (S3.out.set0 n)
    have x0 := S3.out.fr.x0
    have fx := S3.out.fr.fx 0
    go_upto_region 12 with (fail)
    obtain ⟨X, hX⟩ : ∃ X, X = w3.setCell ⟨w.heap.size, 0, none⟩ (.int .i64 n) := ⟨_, rfl⟩
    rw [← hX] at S ⊢
    clear hX
    clear x0 fx S3
    have x0 := S.out.fr.x0
    have x1 := S.out.fr.x1
    have x2 := S.out.fr.x2
    have x3 := S.out.fr.x3
    have x4 := S.out.fr.x4
    have x5 := S.out.fr.x5
    have r0 := S.out.fr.r0
    have r1 := S.out.fr.r1
    have r2 := S.out.fr.r2
    have r3 := S.out.fr.r3
    have r4 := S.out.fr.r4
    have r5 := S.out.fr.r5
    have fr := S.out.fr.fr
    go_wp2
    refine bodyPost_ret (v := .agg #[.int .i64 n, .int .i64 len, .int .i64 dig, .int .i64 sign, .slice a3 bs.length k3, .slice a4 hv.length k4]) (by simp [results, Try.results85, go_sem, r0, r1, r2, r3, r4, r5]) rfl ?_
    exact spp_of ⟨n, len, dig, sign, bs, hv⟩ (S.out.out (show P + 1 + 3 ≤ P + 20 by omega)) (by exact hbn) (show hv.length ≤ 1001 by omega) HZ.out
  · by_cases c1 : m = 1
    · subst c1
      go_wp2_with fail
      refine (ddigest_c B r _ _ S2.out.rd (by omega)).mono ?_
      rintro e w3 ⟨n, rfl, -, -, hR3, hg3⟩
      have S3 := Lib.hid (S2.out.pick hR3 hg3)
      clear S2 hR3 hg3
      have S := Lib.hid (S3.out.set2 n)
      have x2 := S3.out.fr.x2
      have fx := S3.out.fr.fx 2
      go_upto_region 12 with (fail)
      obtain ⟨X, hX⟩ : ∃ X, X = w3.setCell ⟨w.heap.size, 2, none⟩ (.int .i64 n) := ⟨_, rfl⟩
      rw [← hX] at S ⊢
      clear hX
      clear x2 fx S3
      have x0 := S.out.fr.x0
      have x1 := S.out.fr.x1
      have x2 := S.out.fr.x2
      have x3 := S.out.fr.x3
      have x4 := S.out.fr.x4
      have x5 := S.out.fr.x5
      have r0 := S.out.fr.r0
      have r1 := S.out.fr.r1
      have r2 := S.out.fr.r2
      have r3 := S.out.fr.r3
      have r4 := S.out.fr.r4
      have r5 := S.out.fr.r5
      have fr := S.out.fr.fr
      go_wp2
      refine bodyPost_ret (v := .agg #[.int .i64 p, .int .i64 len, .int .i64 n, .int .i64 sign, .slice a3 bs.length k3, .slice a4 hv.length k4]) (by simp [results, Try.results85, go_sem, r0, r1, r2, r3, r4, r5]) rfl ?_
      exact spp_of ⟨p, len, n, sign, bs, hv⟩ (S.out.out (show P + 1 + 3 ≤ P + 20 by omega)) (by exact hbn) (show hv.length ≤ 1001 by omega) HZ.out
    · by_cases c2 : m = 2
      · subst c2
        have x5 := S2.out.fr.x5
        go_wp2_with (at_builtin; refine wpList_appL _ rfl _ _ 37 rfl (w.heap.size + 2) 4 Try.underlying37 (.bool false) 1 info_bool rfl (by omega) _ hv.length _ rfl S2.out.ow.h (.bool true) rfl _ _ rfl (by omega) S2.out.bl ?_)
        intro v5 w3 ho5 hg5 hl5
        obtain ⟨p5, c5, rfl⟩ := own_slice ho5
        have S := Lib.hid (S2.out.appH ho5 hg5 hl5)
        have fx : w3.frozen? ⟨w.heap.size, 5, none⟩ = false := by have := S.out.fr.fx 5; rwa [World.frozen?_setCell] at this
        have x5 : w3.cell? ⟨w.heap.size, 5, none⟩ = some (.slice a4 hv.length k4) := grown_cell hg5 x5 (fun e => S2.out.ow.nh e.symm)
        clear ho5 hg5 hl5 S2
        go_upto_region 12 with (fail)
        obtain ⟨X, hX⟩ : ∃ X, X = w3.setCell ⟨w.heap.size, 5, none⟩ (.slice p5 (hv.length + 1) c5) := ⟨_, rfl⟩
        rw [← hX] at S ⊢
        clear hX
        clear x5 fx
        have x0 := S.out.fr.x0
        have x1 := S.out.fr.x1
        have x2 := S.out.fr.x2
        have x3 := S.out.fr.x3
        have x4 := S.out.fr.x4
        have x5 := S.out.fr.x5
        have r0 := S.out.fr.r0
        have r1 := S.out.fr.r1
        have r2 := S.out.fr.r2
        have r3 := S.out.fr.r3
        have r4 := S.out.fr.r4
        have r5 := S.out.fr.r5
        have fr := S.out.fr.fr
        go_wp2
        refine bodyPost_ret (v := .agg #[.int .i64 p, .int .i64 len, .int .i64 dig, .int .i64 sign, .slice a3 bs.length k3, .slice p5 (hv.length + 1) c5]) (by simp [results, Try.results85, go_sem, r0, r1, r2, r3, r4, r5]) rfl ?_
        exact spp_of ⟨p, len, dig, sign, bs, hv ++ [true]⟩ (S.out.out (show P + 1 ≤ P + 20 by omega)) (by exact hbn) (by simp; omega) HZ.out
      · by_cases c3 : m = 3
        · subst c3
          by_cases hz : bs.length = 0
          · have hzi : ((bs.length : Int)) = 0 := by omega
            have x4 := S2.out.fr.x4
            have S := S2
            go_upto_region 12 with (fail)
            clear x4 S2 hzi hz
            have x0 := S.out.fr.x0
            have x1 := S.out.fr.x1
            have x2 := S.out.fr.x2
            have x3 := S.out.fr.x3
            have x4 := S.out.fr.x4
            have x5 := S.out.fr.x5
            have r0 := S.out.fr.r0
            have r1 := S.out.fr.r1
            have r2 := S.out.fr.r2
            have r3 := S.out.fr.r3
            have r4 := S.out.fr.r4
            have r5 := S.out.fr.r5
            have fr := S.out.fr.fr
            go_wp2
            refine bodyPost_ret (v := .agg #[.int .i64 p, .int .i64 len, .int .i64 dig, .int .i64 sign, .slice a3 bs.length k3, .slice a4 hv.length k4]) (by simp [results, Try.results85, go_sem, r0, r1, r2, r3, r4, r5]) rfl ?_
            exact spp_of ⟨p, len, dig, sign, bs, hv⟩ (S.out.out (show P + 1 ≤ P + 20 by omega)) (by exact hbn) (show hv.length ≤ 1001 by omega) HZ.out
          · have x4 := S2.out.fr.x4
            have hpos : 0 < bs.length := by omega
            obtain ⟨g, hg3⟩ : ∃ g, a3 = some ⟨g, 0, none⟩ := by
              rcases own_cases S2.out.ow.b with ⟨-, h0, -⟩ | ⟨g, cap', h1, -⟩
              · omega
              · injection h1 with h1 _ _
                exact ⟨g, h1⟩
            subst hg3
            have Sd := Lib.hid (show St B r w w2.drew (w.heap.size + 1) w.heap.size (w.heap.size + 2) p len dig sign (.slice (some ⟨g, 0, none⟩) bs.length k3) (.slice a4 hv.length k4) bs hv (P + 1) from S2.out.below (by (repeat' (first | exact Below.refl _ _ | assumption | refine Below.drew ?_ | refine below_drewN ?_ _ | refine Below.alloc ?_ (by omega) _ | refine Below.alloc ?_ (by simp; omega) _ | refine Below.alloc ?_ (by simp) _ | refine Below.setCell ?_ (by omega) _ | refine Below.setCell ?_ (by simp; omega) _ | refine Below.setCell ?_ (by simp) _))))
            go_wp2
            go_region_held3 (fun w' => w'.cell? ⟨w.heap.size, 4, none⟩ = some (.slice (some ⟨g, 0, none⟩) bs.length k3)) (first | go_keep | exact (S6.out.txt (q := q) tx).fr.x4 | exact S6.out.fr.x4 | exact S5.out.fr.x4 | exact Sd.out.fr.x4) ((first | ((with_reducible refine (pick_c B r _ bs.length _ Sd.out.rd (by omega)).mono ?_); rintro e w5 ⟨q0, rfl, hq0, hq1, hR5, hg5⟩; have hq1 := hq1 (by omega); have S5 := Lib.hid (Sd.out.pick hR5 hg5); obtain ⟨q, rfl⟩ := Int.eq_ofNat_of_zero_le hq0; clear hR5 hg5) | ((with_reducible refine (text_d B r _ _ S5.out.rd (by omega)).mono ?_); rintro e w6 ⟨tx, rfl, htx, hR6, hg6⟩; have S6 := Lib.hid (S5.out.pick hR6 hg6); have s6 := S6.out.ow.b.cellAt q (by omega); rw [encS_at bs q (by omega)] at s6; have f6 := S6.out.ow.b.frozenAt q; clear hR6 hg6)))
            have S := Lib.hid (S6.out.txt (q := q) tx)
            obtain ⟨X, hX⟩ : ∃ X, X = w6.setCell ⟨g, q, none⟩ (.string tx) := ⟨_, rfl⟩
            rw [← hX] at S ⊢
            clear hX
            clear S6 S5 Sd s6 f6 x4
            have x0 := S.out.fr.x0
            have x1 := S.out.fr.x1
            have x2 := S.out.fr.x2
            have x3 := S.out.fr.x3
            have x4 := S.out.fr.x4
            have x5 := S.out.fr.x5
            have r0 := S.out.fr.r0
            have r1 := S.out.fr.r1
            have r2 := S.out.fr.r2
            have r3 := S.out.fr.r3
            have r4 := S.out.fr.r4
            have r5 := S.out.fr.r5
            have fr := S.out.fr.fr
            go_wp2
            refine bodyPost_ret (v := .agg #[.int .i64 p, .int .i64 len, .int .i64 dig, .int .i64 sign, .slice (some ⟨g, 0, none⟩) bs.length k3, .slice a4 hv.length k4]) (by simp [results, Try.results85, go_sem, r0, r1, r2, r3, r4, r5]) rfl ?_
            exact spp_of ⟨p, len, dig, sign, bs.set q tx, hv⟩ (S.out.out (show P + 1 + 1 + 13 ≤ P + 20 by omega)) (by simpa using hbn) (show hv.length ≤ 1001 by omega) HZ.out
        · have d0 : (m == 0) = false := by rw [beq_eq_false_iff_ne]; exact c0
          have d1 : (m == 1) = false := by rw [beq_eq_false_iff_ne]; exact c1
          have d2 : (m == 2) = false := by rw [beq_eq_false_iff_ne]; exact c2
          have d3 : (m == 3) = false := by rw [beq_eq_false_iff_ne]; exact c3
          have S := S2
          clear S2
          go_upto_region 12 with (fail)
          have x0 := S.out.fr.x0
          have x1 := S.out.fr.x1
          have x2 := S.out.fr.x2
          have x3 := S.out.fr.x3
          have x4 := S.out.fr.x4
          have x5 := S.out.fr.x5
          have r0 := S.out.fr.r0
          have r1 := S.out.fr.r1
          have r2 := S.out.fr.r2
          have r3 := S.out.fr.r3
          have r4 := S.out.fr.r4
          have r5 := S.out.fr.r5
          have fr := S.out.fr.fr
          go_wp2
          refine bodyPost_ret (v := .agg #[.int .i64 p, .int .i64 len, .int .i64 dig, .int .i64 sign, .slice a3 bs.length k3, .slice a4 hv.length k4]) (by simp [results, Try.results85, go_sem, r0, r1, r2, r3, r4, r5]) rfl ?_
          exact spp_of ⟨p, len, dig, sign, bs, hv⟩ (S.out.out (show P + 1 ≤ P + 20 by omega)) (by exact hbn) (show hv.length ≤ 1001 by omega) HZ.out
end Go.Proofs.Ytbjndbaljenlgaa
