/- Contracts of ForkCheck and ForkMeet of both sides. -/
import Derived.Test.YtbjndbaljenlgaaFv
namespace Go.Proofs.Ytbjndbaljenlgaa
open Go.RowKit
noncomputable def fc (p la da sa lb db sb : Int) : Bool := hok p la da sa && hok p lb db sb && (la == lb) && (da != db)
theorem impFc_c (p la da sa lb db sb : Int) (w : World) :
    Calls Try.prog 42 #[.agg #[.int .i64 p, .int .i64 la, .int .i64 da, .int .i64 sa, .int .i64 lb, .int .i64 db, .int .i64 sb]] w (RetBool (fc p la da sa lb db sb) w) := by
  have H1 := Lib.hid (fun w => headCheck_c p la da sa w)
  have H2 := Lib.hid (fun w => headCheck_c p lb db sb w)
  have HE := Lib.hid (show fc p la da sa lb db sb = (hok p la da sa && hok p lb db sb && (la == lb) && (da != db)) from rfl)
  generalize fc p la da sa lb db sb = res at *
  generalize hok p la da sa = q1 at *
  generalize hok p lb db sb = q2 at *
  obtain ⟨W0, hW0⟩ : ∃ W0, W0 = w.alloc (.cells #[.int .i64 p, .int .i64 la, .int .i64 da, .int .i64 sa, .int .i64 lb, .int .i64 db, .int .i64 sb] 64) := ⟨_, rfl⟩
  have hB0 : Below w.heap.size w W0 := by rw [hW0]; (repeat' (first | exact Below.refl _ _ | assumption | refine Below.drew ?_ | refine below_drewN ?_ _ | refine Below.alloc ?_ (by omega) _ | refine Below.alloc ?_ (by simp; omega) _ | refine Below.alloc ?_ (by simp) _ | refine Below.setCell ?_ (by omega) _ | refine Below.setCell ?_ (by simp; omega) _ | refine Below.setCell ?_ (by simp) _))
  have c0 : W0.cell? ⟨w.heap.size, 0, none⟩ = some (.int .i64 p) := by rw [hW0]; simp
  have c1 : W0.cell? ⟨w.heap.size, 1, none⟩ = some (.int .i64 la) := by rw [hW0]; simp
  have c2 : W0.cell? ⟨w.heap.size, 2, none⟩ = some (.int .i64 da) := by rw [hW0]; simp
  have c3 : W0.cell? ⟨w.heap.size, 3, none⟩ = some (.int .i64 sa) := by rw [hW0]; simp
  have c4 : W0.cell? ⟨w.heap.size, 4, none⟩ = some (.int .i64 lb) := by rw [hW0]; simp
  have c5 : W0.cell? ⟨w.heap.size, 5, none⟩ = some (.int .i64 db) := by rw [hW0]; simp
  have c6 : W0.cell? ⟨w.heap.size, 6, none⟩ = some (.int .i64 sb) := by rw [hW0]; simp
  have HB := Lib.hid hB0
  clear hB0
  go_enter Try.func42, Try.ntmps42
  go_wp2_with fail
  rw [← hW0]
  clear hW0
  refine (H1.out _).mono ?_
  rintro e w2 ⟨rfl, hb2⟩
  have c0 := cell_keep hb2 c0
  have c1 := cell_keep hb2 c1
  have c2 := cell_keep hb2 c2
  have c3 := cell_keep hb2 c3
  have c4 := cell_keep hb2 c4
  have c5 := cell_keep hb2 c5
  have c6 := cell_keep hb2 c6
  have HB := Lib.hid (HB.out.trans (hb2.mono HB.out.size))
  clear hb2
  cases q1
  · go_wp2
    go_ret
    exact ⟨ret_bb (by rw [HE.out]; rfl), HB.out⟩
  · go_wp2_with fail
    refine (H2.out _).mono ?_
    rintro e w3 ⟨rfl, hb3⟩
    have c0 := cell_keep hb3 c0
    have c1 := cell_keep hb3 c1
    have c2 := cell_keep hb3 c2
    have c3 := cell_keep hb3 c3
    have c4 := cell_keep hb3 c4
    have c5 := cell_keep hb3 c5
    have c6 := cell_keep hb3 c6
    have HB := Lib.hid (HB.out.trans (hb3.mono HB.out.size))
    clear hb3
    cases q2
    · go_wp2
      go_ret
      exact ⟨ret_bb (by rw [HE.out]; rfl), HB.out⟩
    · obtain ⟨c, hc⟩ : ∃ c, (la == lb) = c := ⟨_, rfl⟩
      rw [hc] at HE
      cases c
      · go_wp2
        go_ret
        exact ⟨ret_bb (by rw [HE.out]; rfl), HB.out⟩
      · go_wp2
        go_ret
        exact ⟨ret_bb (by rw [HE.out]; rfl), HB.out⟩
theorem specFc_c (p la da sa lb db sb : Int) (w : World) :
    Calls Try.prog 88 #[.agg #[.int .i64 p, .int .i64 la, .int .i64 da, .int .i64 sa, .int .i64 lb, .int .i64 db, .int .i64 sb]] w (RetBool (fc p la da sa lb db sb) w) := by
  have H1 := Lib.hid (fun w => specHead_c p la da sa w)
  have H2 := Lib.hid (fun w => specHead_c p lb db sb w)
  have HE := Lib.hid (show fc p la da sa lb db sb = (hok p la da sa && hok p lb db sb && (la == lb) && (da != db)) from rfl)
  generalize fc p la da sa lb db sb = res at *
  generalize hok p la da sa = q1 at *
  generalize hok p lb db sb = q2 at *
  obtain ⟨W0, hW0⟩ : ∃ W0, W0 = w.alloc (.cells #[.int .i64 p, .int .i64 la, .int .i64 da, .int .i64 sa, .int .i64 lb, .int .i64 db, .int .i64 sb] 64) := ⟨_, rfl⟩
  have hB0 : Below w.heap.size w W0 := by rw [hW0]; (repeat' (first | exact Below.refl _ _ | assumption | refine Below.drew ?_ | refine below_drewN ?_ _ | refine Below.alloc ?_ (by omega) _ | refine Below.alloc ?_ (by simp; omega) _ | refine Below.alloc ?_ (by simp) _ | refine Below.setCell ?_ (by omega) _ | refine Below.setCell ?_ (by simp; omega) _ | refine Below.setCell ?_ (by simp) _))
  have c0 : W0.cell? ⟨w.heap.size, 0, none⟩ = some (.int .i64 p) := by rw [hW0]; simp
  have c1 : W0.cell? ⟨w.heap.size, 1, none⟩ = some (.int .i64 la) := by rw [hW0]; simp
  have c2 : W0.cell? ⟨w.heap.size, 2, none⟩ = some (.int .i64 da) := by rw [hW0]; simp
  have c3 : W0.cell? ⟨w.heap.size, 3, none⟩ = some (.int .i64 sa) := by rw [hW0]; simp
  have c4 : W0.cell? ⟨w.heap.size, 4, none⟩ = some (.int .i64 lb) := by rw [hW0]; simp
  have c5 : W0.cell? ⟨w.heap.size, 5, none⟩ = some (.int .i64 db) := by rw [hW0]; simp
  have c6 : W0.cell? ⟨w.heap.size, 6, none⟩ = some (.int .i64 sb) := by rw [hW0]; simp
  have HB := Lib.hid hB0
  clear hB0
  go_enter Try.func88, Try.ntmps88
  go_wp2_with fail
  rw [← hW0]
  clear hW0
  refine (H1.out _).mono ?_
  rintro e w2 ⟨rfl, hb2⟩
  have c0 := cell_keep hb2 c0
  have c1 := cell_keep hb2 c1
  have c2 := cell_keep hb2 c2
  have c3 := cell_keep hb2 c3
  have c4 := cell_keep hb2 c4
  have c5 := cell_keep hb2 c5
  have c6 := cell_keep hb2 c6
  have HB := Lib.hid (HB.out.trans (hb2.mono HB.out.size))
  clear hb2
  cases q1
  · go_wp2
    go_ret
    exact ⟨ret_bb (by rw [HE.out]; rfl), HB.out⟩
  · go_wp2_with fail
    refine (H2.out _).mono ?_
    rintro e w3 ⟨rfl, hb3⟩
    have c0 := cell_keep hb3 c0
    have c1 := cell_keep hb3 c1
    have c2 := cell_keep hb3 c2
    have c3 := cell_keep hb3 c3
    have c4 := cell_keep hb3 c4
    have c5 := cell_keep hb3 c5
    have c6 := cell_keep hb3 c6
    have HB := Lib.hid (HB.out.trans (hb3.mono HB.out.size))
    clear hb3
    cases q2
    · go_wp2
      go_ret
      exact ⟨ret_bb (by rw [HE.out]; rfl), HB.out⟩
    · obtain ⟨c, hc⟩ : ∃ c, (la == lb) = c := ⟨_, rfl⟩
      rw [hc] at HE
      cases c
      · go_wp2
        go_ret
        exact ⟨ret_bb (by rw [HE.out]; rfl), HB.out⟩
      · go_wp2
        go_ret
        exact ⟨ret_bb (by rw [HE.out]; rfl), HB.out⟩
theorem cell_new {W : World} {cs : Array Value} {t : TypeId} {b o : Nat} {u : Value} (hb : b = W.heap.size) (h : cs[o]? = some u) : (W.alloc (.cells cs t)).cell? ⟨b, o, none⟩ = some u := by subst hb; simp [h]
theorem frozen_new {W : World} {cs : Array Value} {t : TypeId} {b o : Nat} (hb : b = W.heap.size) : (W.alloc (.cells cs t)).frozen? ⟨b, o, none⟩ = false := by subst hb; simp
theorem below_frozen {w w' : World} (h : Below w.heap.size w w') {a : Addr} (hp : a.block < w.heap.size) : w'.frozen? a = w.frozen? a := h.frozen hp
noncomputable def fm (f g : FeedV) : Bool := fv f && fv g && (f.pub == g.pub) && fc f.pub f.len f.dig f.sign g.len g.dig g.sign
def forkV (b : Bool) (p la da sa lb db sb : Int) : Value := if b then .agg #[.int .i64 p, .int .i64 la, .int .i64 da, .int .i64 sa, .int .i64 lb, .int .i64 db, .int .i64 sb] else .agg #[.int .i64 0, .int .i64 0, .int .i64 0, .int .i64 0, .int .i64 0, .int .i64 0, .int .i64 0]
def MeetPost (f g : FeedV) (w : World) (e : Ending) (w' : World) : Prop := e = .returned (.tuple #[forkV (fm f g) f.pub f.len f.dig f.sign g.len g.dig g.sign, .bool (fm f g)]) ∧ Below w.heap.size w w'
set_option maxHeartbeats 1000000 in
theorem impFm_c (f g : FeedV) (vb vh ub uh : Value) (w : World) (hb : Rd 1 w vb f.bs.length (encS f.bs)) (hh : Rd 1 w vh f.hv.length (encB f.hv)) (kb : Rd 1 w ub g.bs.length (encS g.bs)) (kh : Rd 1 w uh g.hv.length (encB g.hv)) :
    Calls Try.prog 36 #[.agg #[.int .i64 f.pub, .int .i64 f.len, .int .i64 f.dig, .int .i64 f.sign, vb, vh], .agg #[.int .i64 g.pub, .int .i64 g.len, .int .i64 g.dig, .int .i64 g.sign, ub, uh]] w (MeetPost f g w) := by
  have F1 := Lib.hid (fun W (hW : Below w.heap.size w W) => impFv_c f vb vh W (hb.below hW) (hh.below hW))
  have F2 := Lib.hid (fun W (hW : Below w.heap.size w W) => impFv_c g ub uh W (kb.below hW) (kh.below hW))
  have F3 := Lib.hid (fun W => impFc_c f.pub f.len f.dig f.sign g.len g.dig g.sign W)
  have HE := Lib.hid (show fm f g = (fv f && fv g && (f.pub == g.pub) && fc f.pub f.len f.dig f.sign g.len g.dig g.sign) from rfl)
  have HM := Lib.hid (show ∀ e w', (e = .returned (.tuple #[forkV (fm f g) f.pub f.len f.dig f.sign g.len g.dig g.sign, .bool (fm f g)]) ∧ Below w.heap.size w w') → MeetPost f g w e w' from fun _ _ h => h)
  generalize MeetPost f g w = post at *
  generalize fm f g = res at *
  generalize fv f = q1 at *
  generalize fv g = q2 at *
  generalize fc f.pub f.len f.dig f.sign g.len g.dig g.sign = q3 at *
  obtain ⟨-, a1, k1, rfl, hb1, hb2, -⟩ := hb
  obtain ⟨-, a2, k2, rfl, hh1, hh2, -⟩ := hh
  obtain ⟨-, a3, k3, rfl, kb1, kb2, -⟩ := kb
  obtain ⟨-, a4, k4, rfl, kh1, kh2, -⟩ := kh
  obtain ⟨p, len, dig, sign, bs, hv⟩ := f
  obtain ⟨q, ken, gig, gign, cs, iv⟩ := g
  dsimp only at *
  unfold maxLen at hb2 hh2 kb2 kh2
  generalize bs.length = n1 at *
  generalize hv.length = n2 at *
  generalize cs.length = n3 at *
  generalize iv.length = n4 at *
  clear bs hv cs iv
  obtain ⟨W0, hW0⟩ : ∃ W0, W0 = (((w.alloc (.cells #[.int .i64 p, .int .i64 len, .int .i64 dig, .int .i64 sign, .slice a1 n1 k1, .slice a2 n2 k2] 39)).alloc (.cells #[.int .i64 q, .int .i64 ken, .int .i64 gig, .int .i64 gign, .slice a3 n3 k3, .slice a4 n4 k4] 39)).alloc (.cells #[.int .i64 0, .int .i64 0, .int .i64 0, .int .i64 0, .int .i64 0, .int .i64 0, .int .i64 0] 64)).alloc (.cells #[.int .i64 p, .int .i64 len, .int .i64 dig, .int .i64 sign, .int .i64 ken, .int .i64 gig, .int .i64 gign] 64) := ⟨_, rfl⟩
  have hB0 : Below w.heap.size w W0 := by rw [hW0]; (repeat' (first | exact Below.refl _ _ | assumption | refine Below.drew ?_ | refine below_drewN ?_ _ | refine Below.alloc ?_ (by omega) _ | refine Below.alloc ?_ (by simp; omega) _ | refine Below.alloc ?_ (by simp) _ | refine Below.setCell ?_ (by omega) _ | refine Below.setCell ?_ (by simp; omega) _ | refine Below.setCell ?_ (by simp) _))
  have hS0 : w.heap.size + 4 ≤ W0.heap.size := by rw [hW0]; simp
  have x0 : W0.cell? ⟨w.heap.size, 0, none⟩ = some (.int .i64 p) := by rw [hW0]; (repeat rw [World.cell?_alloc_lt _ _ _ (by first | (simp; done) | (simp; omega))]); exact cell_new (by simp) rfl
  have y0 : W0.cell? ⟨w.heap.size + 1, 0, none⟩ = some (.int .i64 q) := by rw [hW0]; (repeat rw [World.cell?_alloc_lt _ _ _ (by first | (simp; done) | (simp; omega))]); exact cell_new (by simp) rfl
  have y1 : W0.cell? ⟨w.heap.size + 1, 1, none⟩ = some (.int .i64 ken) := by rw [hW0]; (repeat rw [World.cell?_alloc_lt _ _ _ (by first | (simp; done) | (simp; omega))]); exact cell_new (by simp) rfl
  have y2 : W0.cell? ⟨w.heap.size + 1, 2, none⟩ = some (.int .i64 gig) := by rw [hW0]; (repeat rw [World.cell?_alloc_lt _ _ _ (by first | (simp; done) | (simp; omega))]); exact cell_new (by simp) rfl
  have y3 : W0.cell? ⟨w.heap.size + 1, 3, none⟩ = some (.int .i64 gign) := by rw [hW0]; (repeat rw [World.cell?_alloc_lt _ _ _ (by first | (simp; done) | (simp; omega))]); exact cell_new (by simp) rfl
  have y4 : W0.cell? ⟨w.heap.size + 1, 4, none⟩ = some (.slice a3 n3 k3) := by rw [hW0]; (repeat rw [World.cell?_alloc_lt _ _ _ (by first | (simp; done) | (simp; omega))]); exact cell_new (by simp) rfl
  have y5 : W0.cell? ⟨w.heap.size + 1, 5, none⟩ = some (.slice a4 n4 k4) := by rw [hW0]; (repeat rw [World.cell?_alloc_lt _ _ _ (by first | (simp; done) | (simp; omega))]); exact cell_new (by simp) rfl
  have x1 : W0.cell? ⟨w.heap.size, 1, none⟩ = some (.int .i64 len) := by rw [hW0]; (repeat rw [World.cell?_alloc_lt _ _ _ (by first | (simp; done) | (simp; omega))]); exact cell_new (by simp) rfl
  have x2 : W0.cell? ⟨w.heap.size, 2, none⟩ = some (.int .i64 dig) := by rw [hW0]; (repeat rw [World.cell?_alloc_lt _ _ _ (by first | (simp; done) | (simp; omega))]); exact cell_new (by simp) rfl
  have x3 : W0.cell? ⟨w.heap.size, 3, none⟩ = some (.int .i64 sign) := by rw [hW0]; (repeat rw [World.cell?_alloc_lt _ _ _ (by first | (simp; done) | (simp; omega))]); exact cell_new (by simp) rfl
  have x4 : W0.cell? ⟨w.heap.size, 4, none⟩ = some (.slice a1 n1 k1) := by rw [hW0]; (repeat rw [World.cell?_alloc_lt _ _ _ (by first | (simp; done) | (simp; omega))]); exact cell_new (by simp) rfl
  have x5 : W0.cell? ⟨w.heap.size, 5, none⟩ = some (.slice a2 n2 k2) := by rw [hW0]; (repeat rw [World.cell?_alloc_lt _ _ _ (by first | (simp; done) | (simp; omega))]); exact cell_new (by simp) rfl
  have r0 : W0.cell? ⟨w.heap.size + 1 + 1, 0, none⟩ = some (.int .i64 0) := by rw [hW0]; (repeat rw [World.cell?_alloc_lt _ _ _ (by first | (simp; done) | (simp; omega))]); exact cell_new (by simp) rfl
  have r1 : W0.cell? ⟨w.heap.size + 1 + 1, 1, none⟩ = some (.int .i64 0) := by rw [hW0]; (repeat rw [World.cell?_alloc_lt _ _ _ (by first | (simp; done) | (simp; omega))]); exact cell_new (by simp) rfl
  have r2 : W0.cell? ⟨w.heap.size + 1 + 1, 2, none⟩ = some (.int .i64 0) := by rw [hW0]; (repeat rw [World.cell?_alloc_lt _ _ _ (by first | (simp; done) | (simp; omega))]); exact cell_new (by simp) rfl
  have r3 : W0.cell? ⟨w.heap.size + 1 + 1, 3, none⟩ = some (.int .i64 0) := by rw [hW0]; (repeat rw [World.cell?_alloc_lt _ _ _ (by first | (simp; done) | (simp; omega))]); exact cell_new (by simp) rfl
  have r4 : W0.cell? ⟨w.heap.size + 1 + 1, 4, none⟩ = some (.int .i64 0) := by rw [hW0]; (repeat rw [World.cell?_alloc_lt _ _ _ (by first | (simp; done) | (simp; omega))]); exact cell_new (by simp) rfl
  have r5 : W0.cell? ⟨w.heap.size + 1 + 1, 5, none⟩ = some (.int .i64 0) := by rw [hW0]; (repeat rw [World.cell?_alloc_lt _ _ _ (by first | (simp; done) | (simp; omega))]); exact cell_new (by simp) rfl
  have r6 : W0.cell? ⟨w.heap.size + 1 + 1, 6, none⟩ = some (.int .i64 0) := by rw [hW0]; (repeat rw [World.cell?_alloc_lt _ _ _ (by first | (simp; done) | (simp; omega))]); exact cell_new (by simp) rfl
  have u0 : W0.cell? ⟨w.heap.size + 1 + 1 + 1, 0, none⟩ = some (.int .i64 p) := by rw [hW0]; (repeat rw [World.cell?_alloc_lt _ _ _ (by first | (simp; done) | (simp; omega))]); exact cell_new (by simp) rfl
  have u1 : W0.cell? ⟨w.heap.size + 1 + 1 + 1, 1, none⟩ = some (.int .i64 len) := by rw [hW0]; (repeat rw [World.cell?_alloc_lt _ _ _ (by first | (simp; done) | (simp; omega))]); exact cell_new (by simp) rfl
  have u2 : W0.cell? ⟨w.heap.size + 1 + 1 + 1, 2, none⟩ = some (.int .i64 dig) := by rw [hW0]; (repeat rw [World.cell?_alloc_lt _ _ _ (by first | (simp; done) | (simp; omega))]); exact cell_new (by simp) rfl
  have u3 : W0.cell? ⟨w.heap.size + 1 + 1 + 1, 3, none⟩ = some (.int .i64 sign) := by rw [hW0]; (repeat rw [World.cell?_alloc_lt _ _ _ (by first | (simp; done) | (simp; omega))]); exact cell_new (by simp) rfl
  have u4 : W0.cell? ⟨w.heap.size + 1 + 1 + 1, 4, none⟩ = some (.int .i64 ken) := by rw [hW0]; (repeat rw [World.cell?_alloc_lt _ _ _ (by first | (simp; done) | (simp; omega))]); exact cell_new (by simp) rfl
  have u5 : W0.cell? ⟨w.heap.size + 1 + 1 + 1, 5, none⟩ = some (.int .i64 gig) := by rw [hW0]; (repeat rw [World.cell?_alloc_lt _ _ _ (by first | (simp; done) | (simp; omega))]); exact cell_new (by simp) rfl
  have u6 : W0.cell? ⟨w.heap.size + 1 + 1 + 1, 6, none⟩ = some (.int .i64 gign) := by rw [hW0]; (repeat rw [World.cell?_alloc_lt _ _ _ (by first | (simp; done) | (simp; omega))]); exact cell_new (by simp) rfl
  have fr : ∀ o, W0.frozen? ⟨w.heap.size + 1 + 1, o, none⟩ = false := by intro o; rw [hW0]; exact (((Below.refl _ _).alloc (Nat.le_refl _) _).frozen (by first | (simp; done) | (simp; omega))).trans (frozen_new (by simp))
  have HB := Lib.hid hB0
  have HS := Lib.hid hS0
  clear hB0 hS0
  go_enter Try.func36, Try.ntmps36
  go_wp2_with fail
  rw [← hW0]
  clear hW0
  refine (F1.out _ HB.out).mono ?_
  rintro e w2 ⟨rfl, hb2⟩
  have x0 := cell_keep hb2 x0
  have y0 := cell_keep hb2 y0
  have y1 := cell_keep hb2 y1
  have y2 := cell_keep hb2 y2
  have y3 := cell_keep hb2 y3
  have y4 := cell_keep hb2 y4
  have y5 := cell_keep hb2 y5
  have x1 := cell_keep hb2 x1
  have x2 := cell_keep hb2 x2
  have x3 := cell_keep hb2 x3
  have x4 := cell_keep hb2 x4
  have x5 := cell_keep hb2 x5
  have r0 := cell_keep hb2 r0
  have r1 := cell_keep hb2 r1
  have r2 := cell_keep hb2 r2
  have r3 := cell_keep hb2 r3
  have r4 := cell_keep hb2 r4
  have r5 := cell_keep hb2 r5
  have r6 := cell_keep hb2 r6
  have u0 := cell_keep hb2 u0
  have u1 := cell_keep hb2 u1
  have u2 := cell_keep hb2 u2
  have u3 := cell_keep hb2 u3
  have u4 := cell_keep hb2 u4
  have u5 := cell_keep hb2 u5
  have u6 := cell_keep hb2 u6
  have fr : ∀ o, _ := fun o => (below_frozen hb2 (by have := HS.out; show w.heap.size + 1 + 1 < _; omega)).trans (fr o)
  have HB := Lib.hid (HB.out.trans (hb2.mono HB.out.size))
  have HS := Lib.hid (Nat.le_trans HS.out hb2.size)
  clear hb2
  cases q1
  · have e0 : res = false := by rw [HE.out]; first | rfl | (rw [hpq]; rfl) | simp
    subst e0
    go_wp2
    refine bodyPost_ret (v := .tuple #[.agg #[.int .i64 0, .int .i64 0, .int .i64 0, .int .i64 0, .int .i64 0, .int .i64 0, .int .i64 0], .bool false]) (by simp [results, Try.results36, go_sem, r0, r1, r2, r3, r4, r5, r6]) rfl (HM.out _ _ ⟨rfl, ?_⟩)
    exact (Below.setCell (Below.setCell (Below.setCell (Below.setCell (Below.setCell (Below.setCell (Below.setCell HB.out (by show w.heap.size ≤ w.heap.size + 1 + 1; omega) _) (by show w.heap.size ≤ w.heap.size + 1 + 1; omega) _) (by show w.heap.size ≤ w.heap.size + 1 + 1; omega) _) (by show w.heap.size ≤ w.heap.size + 1 + 1; omega) _) (by show w.heap.size ≤ w.heap.size + 1 + 1; omega) _) (by show w.heap.size ≤ w.heap.size + 1 + 1; omega) _) (by show w.heap.size ≤ w.heap.size + 1 + 1; omega) _)
  · go_wp2_with fail
    refine (F2.out _ HB.out).mono ?_
    rintro e w3 ⟨rfl, hb3⟩
    have x0 := cell_keep hb3 x0
    have y0 := cell_keep hb3 y0
    have y1 := cell_keep hb3 y1
    have y2 := cell_keep hb3 y2
    have y3 := cell_keep hb3 y3
    have y4 := cell_keep hb3 y4
    have y5 := cell_keep hb3 y5
    have x1 := cell_keep hb3 x1
    have x2 := cell_keep hb3 x2
    have x3 := cell_keep hb3 x3
    have x4 := cell_keep hb3 x4
    have x5 := cell_keep hb3 x5
    have r0 := cell_keep hb3 r0
    have r1 := cell_keep hb3 r1
    have r2 := cell_keep hb3 r2
    have r3 := cell_keep hb3 r3
    have r4 := cell_keep hb3 r4
    have r5 := cell_keep hb3 r5
    have r6 := cell_keep hb3 r6
    have u0 := cell_keep hb3 u0
    have u1 := cell_keep hb3 u1
    have u2 := cell_keep hb3 u2
    have u3 := cell_keep hb3 u3
    have u4 := cell_keep hb3 u4
    have u5 := cell_keep hb3 u5
    have u6 := cell_keep hb3 u6
    have fr : ∀ o, _ := fun o => (below_frozen hb3 (by have := HS.out; show w.heap.size + 1 + 1 < _; omega)).trans (fr o)
    have HB := Lib.hid (HB.out.trans (hb3.mono HB.out.size))
    have HS := Lib.hid (Nat.le_trans HS.out hb3.size)
    clear hb3
    cases q2
    · have e0 : res = false := by rw [HE.out]; first | rfl | (rw [hpq]; rfl) | simp
      subst e0
      go_wp2
      refine bodyPost_ret (v := .tuple #[.agg #[.int .i64 0, .int .i64 0, .int .i64 0, .int .i64 0, .int .i64 0, .int .i64 0, .int .i64 0], .bool false]) (by simp [results, Try.results36, go_sem, r0, r1, r2, r3, r4, r5, r6]) rfl (HM.out _ _ ⟨rfl, ?_⟩)
      exact (Below.setCell (Below.setCell (Below.setCell (Below.setCell (Below.setCell (Below.setCell (Below.setCell HB.out (by show w.heap.size ≤ w.heap.size + 1 + 1; omega) _) (by show w.heap.size ≤ w.heap.size + 1 + 1; omega) _) (by show w.heap.size ≤ w.heap.size + 1 + 1; omega) _) (by show w.heap.size ≤ w.heap.size + 1 + 1; omega) _) (by show w.heap.size ≤ w.heap.size + 1 + 1; omega) _) (by show w.heap.size ≤ w.heap.size + 1 + 1; omega) _) (by show w.heap.size ≤ w.heap.size + 1 + 1; omega) _)
    · cases hpq : (p == q)
      · have hpq2 : ¬ p = q := by simpa using hpq
        have e0 : res = false := by rw [HE.out]; first | rfl | (rw [hpq]; rfl) | simp
        subst e0
        go_wp2
        refine bodyPost_ret (v := .tuple #[.agg #[.int .i64 0, .int .i64 0, .int .i64 0, .int .i64 0, .int .i64 0, .int .i64 0, .int .i64 0], .bool false]) (by simp [results, Try.results36, go_sem, r0, r1, r2, r3, r4, r5, r6]) rfl (HM.out _ _ ⟨rfl, ?_⟩)
        exact (Below.setCell (Below.setCell (Below.setCell (Below.setCell (Below.setCell (Below.setCell (Below.setCell HB.out (by show w.heap.size ≤ w.heap.size + 1 + 1; omega) _) (by show w.heap.size ≤ w.heap.size + 1 + 1; omega) _) (by show w.heap.size ≤ w.heap.size + 1 + 1; omega) _) (by show w.heap.size ≤ w.heap.size + 1 + 1; omega) _) (by show w.heap.size ≤ w.heap.size + 1 + 1; omega) _) (by show w.heap.size ≤ w.heap.size + 1 + 1; omega) _) (by show w.heap.size ≤ w.heap.size + 1 + 1; omega) _)
      · have hpq2 : p = q := by simpa using hpq
        subst hpq2
        go_wp2_with fail
        refine (F3.out _).mono ?_
        rintro e w4 ⟨rfl, hb4⟩
        have x0 := cell_keep hb4 x0
        have y0 := cell_keep hb4 y0
        have y1 := cell_keep hb4 y1
        have y2 := cell_keep hb4 y2
        have y3 := cell_keep hb4 y3
        have y4 := cell_keep hb4 y4
        have y5 := cell_keep hb4 y5
        have x1 := cell_keep hb4 x1
        have x2 := cell_keep hb4 x2
        have x3 := cell_keep hb4 x3
        have x4 := cell_keep hb4 x4
        have x5 := cell_keep hb4 x5
        have r0 := cell_keep hb4 r0
        have r1 := cell_keep hb4 r1
        have r2 := cell_keep hb4 r2
        have r3 := cell_keep hb4 r3
        have r4 := cell_keep hb4 r4
        have r5 := cell_keep hb4 r5
        have r6 := cell_keep hb4 r6
        have u0 := cell_keep hb4 u0
        have u1 := cell_keep hb4 u1
        have u2 := cell_keep hb4 u2
        have u3 := cell_keep hb4 u3
        have u4 := cell_keep hb4 u4
        have u5 := cell_keep hb4 u5
        have u6 := cell_keep hb4 u6
        have fr : ∀ o, _ := fun o => (below_frozen hb4 (by have := HS.out; show w.heap.size + 1 + 1 < _; omega)).trans (fr o)
        have HB := Lib.hid (HB.out.trans (hb4.mono HB.out.size))
        have HS := Lib.hid (Nat.le_trans HS.out hb4.size)
        clear hb4
        cases q3
        · have e0 : res = false := by rw [HE.out]; first | rfl | (rw [hpq]; rfl) | simp
          subst e0
          go_wp2
          refine bodyPost_ret (v := .tuple #[.agg #[.int .i64 0, .int .i64 0, .int .i64 0, .int .i64 0, .int .i64 0, .int .i64 0, .int .i64 0], .bool false]) (by simp [results, Try.results36, go_sem, r0, r1, r2, r3, r4, r5, r6]) rfl (HM.out _ _ ⟨rfl, ?_⟩)
          exact (Below.setCell (Below.setCell (Below.setCell (Below.setCell (Below.setCell (Below.setCell (Below.setCell HB.out (by show w.heap.size ≤ w.heap.size + 1 + 1; omega) _) (by show w.heap.size ≤ w.heap.size + 1 + 1; omega) _) (by show w.heap.size ≤ w.heap.size + 1 + 1; omega) _) (by show w.heap.size ≤ w.heap.size + 1 + 1; omega) _) (by show w.heap.size ≤ w.heap.size + 1 + 1; omega) _) (by show w.heap.size ≤ w.heap.size + 1 + 1; omega) _) (by show w.heap.size ≤ w.heap.size + 1 + 1; omega) _)
        · have e0 : res = true := by rw [HE.out]; first | rfl | (rw [hpq]; rfl) | simp
          subst e0
          go_wp2
          refine bodyPost_ret (v := .tuple #[.agg #[.int .i64 p, .int .i64 len, .int .i64 dig, .int .i64 sign, .int .i64 ken, .int .i64 gig, .int .i64 gign], .bool true]) (by simp [results, Try.results36, go_sem, r0, r1, r2, r3, r4, r5, r6]) rfl (HM.out _ _ ⟨rfl, ?_⟩)
          exact (Below.setCell (Below.setCell (Below.setCell (Below.setCell (Below.setCell (Below.setCell (Below.setCell HB.out (by show w.heap.size ≤ w.heap.size + 1 + 1; omega) _) (by show w.heap.size ≤ w.heap.size + 1 + 1; omega) _) (by show w.heap.size ≤ w.heap.size + 1 + 1; omega) _) (by show w.heap.size ≤ w.heap.size + 1 + 1; omega) _) (by show w.heap.size ≤ w.heap.size + 1 + 1; omega) _) (by show w.heap.size ≤ w.heap.size + 1 + 1; omega) _) (by show w.heap.size ≤ w.heap.size + 1 + 1; omega) _)
set_option maxHeartbeats 1000000 in
theorem specFm_c (f g : FeedV) (vb vh ub uh : Value) (w : World) (hb : Rd 1 w vb f.bs.length (encS f.bs)) (hh : Rd 1 w vh f.hv.length (encB f.hv)) (kb : Rd 1 w ub g.bs.length (encS g.bs)) (kh : Rd 1 w uh g.hv.length (encB g.hv)) :
    Calls Try.prog 35 #[.agg #[.int .i64 f.pub, .int .i64 f.len, .int .i64 f.dig, .int .i64 f.sign, vb, vh], .agg #[.int .i64 g.pub, .int .i64 g.len, .int .i64 g.dig, .int .i64 g.sign, ub, uh]] w (MeetPost f g w) := by
  have F1 := Lib.hid (fun W (hW : Below w.heap.size w W) => specFv_c f vb vh W (hb.below hW) (hh.below hW))
  have F2 := Lib.hid (fun W (hW : Below w.heap.size w W) => specFv_c g ub uh W (kb.below hW) (kh.below hW))
  have F3 := Lib.hid (fun W => specFc_c f.pub f.len f.dig f.sign g.len g.dig g.sign W)
  have HE := Lib.hid (show fm f g = (fv f && fv g && (f.pub == g.pub) && fc f.pub f.len f.dig f.sign g.len g.dig g.sign) from rfl)
  have HM := Lib.hid (show ∀ e w', (e = .returned (.tuple #[forkV (fm f g) f.pub f.len f.dig f.sign g.len g.dig g.sign, .bool (fm f g)]) ∧ Below w.heap.size w w') → MeetPost f g w e w' from fun _ _ h => h)
  generalize MeetPost f g w = post at *
  generalize fm f g = res at *
  generalize fv f = q1 at *
  generalize fv g = q2 at *
  generalize fc f.pub f.len f.dig f.sign g.len g.dig g.sign = q3 at *
  obtain ⟨-, a1, k1, rfl, hb1, hb2, -⟩ := hb
  obtain ⟨-, a2, k2, rfl, hh1, hh2, -⟩ := hh
  obtain ⟨-, a3, k3, rfl, kb1, kb2, -⟩ := kb
  obtain ⟨-, a4, k4, rfl, kh1, kh2, -⟩ := kh
  obtain ⟨p, len, dig, sign, bs, hv⟩ := f
  obtain ⟨q, ken, gig, gign, cs, iv⟩ := g
  dsimp only at *
  unfold maxLen at hb2 hh2 kb2 kh2
  generalize bs.length = n1 at *
  generalize hv.length = n2 at *
  generalize cs.length = n3 at *
  generalize iv.length = n4 at *
  clear bs hv cs iv
  obtain ⟨W0, hW0⟩ : ∃ W0, W0 = (((w.alloc (.cells #[.int .i64 p, .int .i64 len, .int .i64 dig, .int .i64 sign, .slice a1 n1 k1, .slice a2 n2 k2] 39)).alloc (.cells #[.int .i64 q, .int .i64 ken, .int .i64 gig, .int .i64 gign, .slice a3 n3 k3, .slice a4 n4 k4] 39)).alloc (.cells #[.int .i64 0, .int .i64 0, .int .i64 0, .int .i64 0, .int .i64 0, .int .i64 0, .int .i64 0] 64)).alloc (.cells #[.int .i64 p, .int .i64 len, .int .i64 dig, .int .i64 sign, .int .i64 ken, .int .i64 gig, .int .i64 gign] 64) := ⟨_, rfl⟩
  have hB0 : Below w.heap.size w W0 := by rw [hW0]; (repeat' (first | exact Below.refl _ _ | assumption | refine Below.drew ?_ | refine below_drewN ?_ _ | refine Below.alloc ?_ (by omega) _ | refine Below.alloc ?_ (by simp; omega) _ | refine Below.alloc ?_ (by simp) _ | refine Below.setCell ?_ (by omega) _ | refine Below.setCell ?_ (by simp; omega) _ | refine Below.setCell ?_ (by simp) _))
  have hS0 : w.heap.size + 4 ≤ W0.heap.size := by rw [hW0]; simp
  have x0 : W0.cell? ⟨w.heap.size, 0, none⟩ = some (.int .i64 p) := by rw [hW0]; (repeat rw [World.cell?_alloc_lt _ _ _ (by first | (simp; done) | (simp; omega))]); exact cell_new (by simp) rfl
  have y0 : W0.cell? ⟨w.heap.size + 1, 0, none⟩ = some (.int .i64 q) := by rw [hW0]; (repeat rw [World.cell?_alloc_lt _ _ _ (by first | (simp; done) | (simp; omega))]); exact cell_new (by simp) rfl
  have y1 : W0.cell? ⟨w.heap.size + 1, 1, none⟩ = some (.int .i64 ken) := by rw [hW0]; (repeat rw [World.cell?_alloc_lt _ _ _ (by first | (simp; done) | (simp; omega))]); exact cell_new (by simp) rfl
  have y2 : W0.cell? ⟨w.heap.size + 1, 2, none⟩ = some (.int .i64 gig) := by rw [hW0]; (repeat rw [World.cell?_alloc_lt _ _ _ (by first | (simp; done) | (simp; omega))]); exact cell_new (by simp) rfl
  have y3 : W0.cell? ⟨w.heap.size + 1, 3, none⟩ = some (.int .i64 gign) := by rw [hW0]; (repeat rw [World.cell?_alloc_lt _ _ _ (by first | (simp; done) | (simp; omega))]); exact cell_new (by simp) rfl
  have y4 : W0.cell? ⟨w.heap.size + 1, 4, none⟩ = some (.slice a3 n3 k3) := by rw [hW0]; (repeat rw [World.cell?_alloc_lt _ _ _ (by first | (simp; done) | (simp; omega))]); exact cell_new (by simp) rfl
  have y5 : W0.cell? ⟨w.heap.size + 1, 5, none⟩ = some (.slice a4 n4 k4) := by rw [hW0]; (repeat rw [World.cell?_alloc_lt _ _ _ (by first | (simp; done) | (simp; omega))]); exact cell_new (by simp) rfl
  have x1 : W0.cell? ⟨w.heap.size, 1, none⟩ = some (.int .i64 len) := by rw [hW0]; (repeat rw [World.cell?_alloc_lt _ _ _ (by first | (simp; done) | (simp; omega))]); exact cell_new (by simp) rfl
  have x2 : W0.cell? ⟨w.heap.size, 2, none⟩ = some (.int .i64 dig) := by rw [hW0]; (repeat rw [World.cell?_alloc_lt _ _ _ (by first | (simp; done) | (simp; omega))]); exact cell_new (by simp) rfl
  have x3 : W0.cell? ⟨w.heap.size, 3, none⟩ = some (.int .i64 sign) := by rw [hW0]; (repeat rw [World.cell?_alloc_lt _ _ _ (by first | (simp; done) | (simp; omega))]); exact cell_new (by simp) rfl
  have x4 : W0.cell? ⟨w.heap.size, 4, none⟩ = some (.slice a1 n1 k1) := by rw [hW0]; (repeat rw [World.cell?_alloc_lt _ _ _ (by first | (simp; done) | (simp; omega))]); exact cell_new (by simp) rfl
  have x5 : W0.cell? ⟨w.heap.size, 5, none⟩ = some (.slice a2 n2 k2) := by rw [hW0]; (repeat rw [World.cell?_alloc_lt _ _ _ (by first | (simp; done) | (simp; omega))]); exact cell_new (by simp) rfl
  have r0 : W0.cell? ⟨w.heap.size + 1 + 1, 0, none⟩ = some (.int .i64 0) := by rw [hW0]; (repeat rw [World.cell?_alloc_lt _ _ _ (by first | (simp; done) | (simp; omega))]); exact cell_new (by simp) rfl
  have r1 : W0.cell? ⟨w.heap.size + 1 + 1, 1, none⟩ = some (.int .i64 0) := by rw [hW0]; (repeat rw [World.cell?_alloc_lt _ _ _ (by first | (simp; done) | (simp; omega))]); exact cell_new (by simp) rfl
  have r2 : W0.cell? ⟨w.heap.size + 1 + 1, 2, none⟩ = some (.int .i64 0) := by rw [hW0]; (repeat rw [World.cell?_alloc_lt _ _ _ (by first | (simp; done) | (simp; omega))]); exact cell_new (by simp) rfl
  have r3 : W0.cell? ⟨w.heap.size + 1 + 1, 3, none⟩ = some (.int .i64 0) := by rw [hW0]; (repeat rw [World.cell?_alloc_lt _ _ _ (by first | (simp; done) | (simp; omega))]); exact cell_new (by simp) rfl
  have r4 : W0.cell? ⟨w.heap.size + 1 + 1, 4, none⟩ = some (.int .i64 0) := by rw [hW0]; (repeat rw [World.cell?_alloc_lt _ _ _ (by first | (simp; done) | (simp; omega))]); exact cell_new (by simp) rfl
  have r5 : W0.cell? ⟨w.heap.size + 1 + 1, 5, none⟩ = some (.int .i64 0) := by rw [hW0]; (repeat rw [World.cell?_alloc_lt _ _ _ (by first | (simp; done) | (simp; omega))]); exact cell_new (by simp) rfl
  have r6 : W0.cell? ⟨w.heap.size + 1 + 1, 6, none⟩ = some (.int .i64 0) := by rw [hW0]; (repeat rw [World.cell?_alloc_lt _ _ _ (by first | (simp; done) | (simp; omega))]); exact cell_new (by simp) rfl
  have u0 : W0.cell? ⟨w.heap.size + 1 + 1 + 1, 0, none⟩ = some (.int .i64 p) := by rw [hW0]; (repeat rw [World.cell?_alloc_lt _ _ _ (by first | (simp; done) | (simp; omega))]); exact cell_new (by simp) rfl
  have u1 : W0.cell? ⟨w.heap.size + 1 + 1 + 1, 1, none⟩ = some (.int .i64 len) := by rw [hW0]; (repeat rw [World.cell?_alloc_lt _ _ _ (by first | (simp; done) | (simp; omega))]); exact cell_new (by simp) rfl
  have u2 : W0.cell? ⟨w.heap.size + 1 + 1 + 1, 2, none⟩ = some (.int .i64 dig) := by rw [hW0]; (repeat rw [World.cell?_alloc_lt _ _ _ (by first | (simp; done) | (simp; omega))]); exact cell_new (by simp) rfl
  have u3 : W0.cell? ⟨w.heap.size + 1 + 1 + 1, 3, none⟩ = some (.int .i64 sign) := by rw [hW0]; (repeat rw [World.cell?_alloc_lt _ _ _ (by first | (simp; done) | (simp; omega))]); exact cell_new (by simp) rfl
  have u4 : W0.cell? ⟨w.heap.size + 1 + 1 + 1, 4, none⟩ = some (.int .i64 ken) := by rw [hW0]; (repeat rw [World.cell?_alloc_lt _ _ _ (by first | (simp; done) | (simp; omega))]); exact cell_new (by simp) rfl
  have u5 : W0.cell? ⟨w.heap.size + 1 + 1 + 1, 5, none⟩ = some (.int .i64 gig) := by rw [hW0]; (repeat rw [World.cell?_alloc_lt _ _ _ (by first | (simp; done) | (simp; omega))]); exact cell_new (by simp) rfl
  have u6 : W0.cell? ⟨w.heap.size + 1 + 1 + 1, 6, none⟩ = some (.int .i64 gign) := by rw [hW0]; (repeat rw [World.cell?_alloc_lt _ _ _ (by first | (simp; done) | (simp; omega))]); exact cell_new (by simp) rfl
  have fr : ∀ o, W0.frozen? ⟨w.heap.size + 1 + 1, o, none⟩ = false := by intro o; rw [hW0]; exact (((Below.refl _ _).alloc (Nat.le_refl _) _).frozen (by first | (simp; done) | (simp; omega))).trans (frozen_new (by simp))
  have HB := Lib.hid hB0
  have HS := Lib.hid hS0
  clear hB0 hS0
  go_enter Try.func35, Try.ntmps35
  go_wp2_with fail
  rw [← hW0]
  clear hW0
  refine (F1.out _ HB.out).mono ?_
  rintro e w2 ⟨rfl, hb2⟩
  have x0 := cell_keep hb2 x0
  have y0 := cell_keep hb2 y0
  have y1 := cell_keep hb2 y1
  have y2 := cell_keep hb2 y2
  have y3 := cell_keep hb2 y3
  have y4 := cell_keep hb2 y4
  have y5 := cell_keep hb2 y5
  have x1 := cell_keep hb2 x1
  have x2 := cell_keep hb2 x2
  have x3 := cell_keep hb2 x3
  have x4 := cell_keep hb2 x4
  have x5 := cell_keep hb2 x5
  have r0 := cell_keep hb2 r0
  have r1 := cell_keep hb2 r1
  have r2 := cell_keep hb2 r2
  have r3 := cell_keep hb2 r3
  have r4 := cell_keep hb2 r4
  have r5 := cell_keep hb2 r5
  have r6 := cell_keep hb2 r6
  have u0 := cell_keep hb2 u0
  have u1 := cell_keep hb2 u1
  have u2 := cell_keep hb2 u2
  have u3 := cell_keep hb2 u3
  have u4 := cell_keep hb2 u4
  have u5 := cell_keep hb2 u5
  have u6 := cell_keep hb2 u6
  have fr : ∀ o, _ := fun o => (below_frozen hb2 (by have := HS.out; show w.heap.size + 1 + 1 < _; omega)).trans (fr o)
  have HB := Lib.hid (HB.out.trans (hb2.mono HB.out.size))
  have HS := Lib.hid (Nat.le_trans HS.out hb2.size)
  clear hb2
  cases q1
  · have e0 : res = false := by rw [HE.out]; first | rfl | (rw [hpq]; rfl) | simp
    subst e0
    go_wp2
    refine bodyPost_ret (v := .tuple #[.agg #[.int .i64 0, .int .i64 0, .int .i64 0, .int .i64 0, .int .i64 0, .int .i64 0, .int .i64 0], .bool false]) (by simp [results, Try.results35, go_sem, r0, r1, r2, r3, r4, r5, r6]) rfl (HM.out _ _ ⟨rfl, ?_⟩)
    exact (Below.setCell (Below.setCell (Below.setCell (Below.setCell (Below.setCell (Below.setCell (Below.setCell HB.out (by show w.heap.size ≤ w.heap.size + 1 + 1; omega) _) (by show w.heap.size ≤ w.heap.size + 1 + 1; omega) _) (by show w.heap.size ≤ w.heap.size + 1 + 1; omega) _) (by show w.heap.size ≤ w.heap.size + 1 + 1; omega) _) (by show w.heap.size ≤ w.heap.size + 1 + 1; omega) _) (by show w.heap.size ≤ w.heap.size + 1 + 1; omega) _) (by show w.heap.size ≤ w.heap.size + 1 + 1; omega) _)
  · go_wp2_with fail
    refine (F2.out _ HB.out).mono ?_
    rintro e w3 ⟨rfl, hb3⟩
    have x0 := cell_keep hb3 x0
    have y0 := cell_keep hb3 y0
    have y1 := cell_keep hb3 y1
    have y2 := cell_keep hb3 y2
    have y3 := cell_keep hb3 y3
    have y4 := cell_keep hb3 y4
    have y5 := cell_keep hb3 y5
    have x1 := cell_keep hb3 x1
    have x2 := cell_keep hb3 x2
    have x3 := cell_keep hb3 x3
    have x4 := cell_keep hb3 x4
    have x5 := cell_keep hb3 x5
    have r0 := cell_keep hb3 r0
    have r1 := cell_keep hb3 r1
    have r2 := cell_keep hb3 r2
    have r3 := cell_keep hb3 r3
    have r4 := cell_keep hb3 r4
    have r5 := cell_keep hb3 r5
    have r6 := cell_keep hb3 r6
    have u0 := cell_keep hb3 u0
    have u1 := cell_keep hb3 u1
    have u2 := cell_keep hb3 u2
    have u3 := cell_keep hb3 u3
    have u4 := cell_keep hb3 u4
    have u5 := cell_keep hb3 u5
    have u6 := cell_keep hb3 u6
    have fr : ∀ o, _ := fun o => (below_frozen hb3 (by have := HS.out; show w.heap.size + 1 + 1 < _; omega)).trans (fr o)
    have HB := Lib.hid (HB.out.trans (hb3.mono HB.out.size))
    have HS := Lib.hid (Nat.le_trans HS.out hb3.size)
    clear hb3
    cases q2
    · have e0 : res = false := by rw [HE.out]; first | rfl | (rw [hpq]; rfl) | simp
      subst e0
      go_wp2
      refine bodyPost_ret (v := .tuple #[.agg #[.int .i64 0, .int .i64 0, .int .i64 0, .int .i64 0, .int .i64 0, .int .i64 0, .int .i64 0], .bool false]) (by simp [results, Try.results35, go_sem, r0, r1, r2, r3, r4, r5, r6]) rfl (HM.out _ _ ⟨rfl, ?_⟩)
      exact (Below.setCell (Below.setCell (Below.setCell (Below.setCell (Below.setCell (Below.setCell (Below.setCell HB.out (by show w.heap.size ≤ w.heap.size + 1 + 1; omega) _) (by show w.heap.size ≤ w.heap.size + 1 + 1; omega) _) (by show w.heap.size ≤ w.heap.size + 1 + 1; omega) _) (by show w.heap.size ≤ w.heap.size + 1 + 1; omega) _) (by show w.heap.size ≤ w.heap.size + 1 + 1; omega) _) (by show w.heap.size ≤ w.heap.size + 1 + 1; omega) _) (by show w.heap.size ≤ w.heap.size + 1 + 1; omega) _)
    · cases hpq : (p == q)
      · have hpq2 : ¬ p = q := by simpa using hpq
        have e0 : res = false := by rw [HE.out]; first | rfl | (rw [hpq]; rfl) | simp
        subst e0
        go_wp2
        refine bodyPost_ret (v := .tuple #[.agg #[.int .i64 0, .int .i64 0, .int .i64 0, .int .i64 0, .int .i64 0, .int .i64 0, .int .i64 0], .bool false]) (by simp [results, Try.results35, go_sem, r0, r1, r2, r3, r4, r5, r6]) rfl (HM.out _ _ ⟨rfl, ?_⟩)
        exact (Below.setCell (Below.setCell (Below.setCell (Below.setCell (Below.setCell (Below.setCell (Below.setCell HB.out (by show w.heap.size ≤ w.heap.size + 1 + 1; omega) _) (by show w.heap.size ≤ w.heap.size + 1 + 1; omega) _) (by show w.heap.size ≤ w.heap.size + 1 + 1; omega) _) (by show w.heap.size ≤ w.heap.size + 1 + 1; omega) _) (by show w.heap.size ≤ w.heap.size + 1 + 1; omega) _) (by show w.heap.size ≤ w.heap.size + 1 + 1; omega) _) (by show w.heap.size ≤ w.heap.size + 1 + 1; omega) _)
      · have hpq2 : p = q := by simpa using hpq
        subst hpq2
        go_wp2_with fail
        refine (F3.out _).mono ?_
        rintro e w4 ⟨rfl, hb4⟩
        have x0 := cell_keep hb4 x0
        have y0 := cell_keep hb4 y0
        have y1 := cell_keep hb4 y1
        have y2 := cell_keep hb4 y2
        have y3 := cell_keep hb4 y3
        have y4 := cell_keep hb4 y4
        have y5 := cell_keep hb4 y5
        have x1 := cell_keep hb4 x1
        have x2 := cell_keep hb4 x2
        have x3 := cell_keep hb4 x3
        have x4 := cell_keep hb4 x4
        have x5 := cell_keep hb4 x5
        have r0 := cell_keep hb4 r0
        have r1 := cell_keep hb4 r1
        have r2 := cell_keep hb4 r2
        have r3 := cell_keep hb4 r3
        have r4 := cell_keep hb4 r4
        have r5 := cell_keep hb4 r5
        have r6 := cell_keep hb4 r6
        have u0 := cell_keep hb4 u0
        have u1 := cell_keep hb4 u1
        have u2 := cell_keep hb4 u2
        have u3 := cell_keep hb4 u3
        have u4 := cell_keep hb4 u4
        have u5 := cell_keep hb4 u5
        have u6 := cell_keep hb4 u6
        have fr : ∀ o, _ := fun o => (below_frozen hb4 (by have := HS.out; show w.heap.size + 1 + 1 < _; omega)).trans (fr o)
        have HB := Lib.hid (HB.out.trans (hb4.mono HB.out.size))
        have HS := Lib.hid (Nat.le_trans HS.out hb4.size)
        clear hb4
        cases q3
        · have e0 : res = false := by rw [HE.out]; first | rfl | (rw [hpq]; rfl) | simp
          subst e0
          go_wp2
          refine bodyPost_ret (v := .tuple #[.agg #[.int .i64 0, .int .i64 0, .int .i64 0, .int .i64 0, .int .i64 0, .int .i64 0, .int .i64 0], .bool false]) (by simp [results, Try.results35, go_sem, r0, r1, r2, r3, r4, r5, r6]) rfl (HM.out _ _ ⟨rfl, ?_⟩)
          exact (Below.setCell (Below.setCell (Below.setCell (Below.setCell (Below.setCell (Below.setCell (Below.setCell HB.out (by show w.heap.size ≤ w.heap.size + 1 + 1; omega) _) (by show w.heap.size ≤ w.heap.size + 1 + 1; omega) _) (by show w.heap.size ≤ w.heap.size + 1 + 1; omega) _) (by show w.heap.size ≤ w.heap.size + 1 + 1; omega) _) (by show w.heap.size ≤ w.heap.size + 1 + 1; omega) _) (by show w.heap.size ≤ w.heap.size + 1 + 1; omega) _) (by show w.heap.size ≤ w.heap.size + 1 + 1; omega) _)
        · have e0 : res = true := by rw [HE.out]; first | rfl | (rw [hpq]; rfl) | simp
          subst e0
          go_wp2
          refine bodyPost_ret (v := .tuple #[.agg #[.int .i64 p, .int .i64 len, .int .i64 dig, .int .i64 sign, .int .i64 ken, .int .i64 gig, .int .i64 gign], .bool true]) (by simp [results, Try.results35, go_sem, r0, r1, r2, r3, r4, r5, r6]) rfl (HM.out _ _ ⟨rfl, ?_⟩)
          exact (Below.setCell (Below.setCell (Below.setCell (Below.setCell (Below.setCell (Below.setCell (Below.setCell HB.out (by show w.heap.size ≤ w.heap.size + 1 + 1; omega) _) (by show w.heap.size ≤ w.heap.size + 1 + 1; omega) _) (by show w.heap.size ≤ w.heap.size + 1 + 1; omega) _) (by show w.heap.size ≤ w.heap.size + 1 + 1; omega) _) (by show w.heap.size ≤ w.heap.size + 1 + 1; omega) _) (by show w.heap.size ≤ w.heap.size + 1 + 1; omega) _) (by show w.heap.size ≤ w.heap.size + 1 + 1; omega) _)
end Go.Proofs.Ytbjndbaljenlgaa
