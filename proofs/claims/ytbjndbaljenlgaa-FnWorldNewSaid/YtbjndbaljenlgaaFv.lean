/- Contracts of FeedValid of both sides, at any feed by value that can be read. -/
import Derived.Test.YtbjndbaljenlgaaLw
import Derived.Test.YtbjndbaljenlgaaHc
import Derived.Test.YtbjndbaljenlgaaTs
import Derived.Test.YtbjndbaljenlgaaTe
import Derived.Deep.RegionHeld3
import Derived.Laws.Closers25b
namespace Go.Proofs.Ytbjndbaljenlgaa
open Go.RowKit
theorem fv_no1 {f : FeedV} (h : inB 1 996 f.pub = false) : fv f = false := fv_f fun g => by have := inB_t g.1.1 g.1.2; rw [h] at this; cases this
theorem fv_no2 {f : FeedV} (h : hok f.pub f.len f.dig f.sign = false) (hz : ¬ Hz f.len f.dig f.sign) : fv f = false := fv_f fun g => by
  rcases g.2.1 with g | g
  · exact hz g
  · rw [hok_t g] at h; cases h
theorem fv_no3 {f : FeedV} (h : (f.bs.length : Int) ≠ f.len) : fv f = false := fv_f fun g => h g.2.2.1
theorem fv_no4 {f : FeedV} (h : (f.hv.length : Int) ≠ f.len) : fv f = false := fv_f fun g => h g.2.2.2.1
theorem fv_no5 {f : FeedV} {i : Nat} (hi : i < f.bs.length) (h : ¬ Bok f i) : fv f = false := fv_f fun g => h (g.2.2.2.2.1 i hi)
theorem fv_yes {f : FeedV} {b : Bool} (hk : inB 1 996 f.pub = true) (hh : Hz f.len f.dig f.sign ∨ hok f.pub f.len f.dig f.sign = true) (h1 : (f.bs.length : Int) = f.len) (h2 : (f.hv.length : Int) = f.len) (h3 : ∀ i, i < f.bs.length → Bok f i)
    (h4 : (f.bs.length = 0 ∨ cnt f.hv ≠ f.hv.length ∨ digest (f.bs.map txt) = f.dig) ↔ b = true) : fv f = b := by
  rw [Bool.eq_iff_iff, fv_iff, ← h4]
  exact ⟨fun g => g.2.2.2.2.2, fun g => ⟨inB_iff.1 hk, hh.imp id hok_iff.1, h1, h2, h3, g⟩⟩
theorem gate_small {f : FeedV} (hh : Hz f.len f.dig f.sign ∨ hok f.pub f.len f.dig f.sign = true) (h1 : (f.bs.length : Int) = f.len) : f.bs.length ≤ 16 := by
  rcases hh with ⟨h, -⟩ | h
  · omega
  · have := hok_iff.1 h
    unfold Hok at this
    omega
theorem rd_cells {w : World} {a : Option Addr} {n cap : Nat} {flat : List Value} (h : Rd 1 w (.slice a n cap) n flat) : n ≠ 0 → ∃ b off, a = some ⟨b, off, none⟩ ∧ ∀ j u, flat[j]? = some u → w.cell? ⟨b, off + j, none⟩ = some u := by
  obtain ⟨-, a', cap', e, -, -, hc⟩ := h
  injection e with e1 e2 e3
  subst e1
  exact hc
theorem str_ne (s : ByteArray) : (!s.toList.isEmpty) = true ↔ s ≠ ByteArray.empty := by
  rw [Bool.not_eq_true', ← Bool.not_eq_true, List.isEmpty_iff, toList_nil_iff_emptyBytes]
def bokP (s : ByteArray) (h : Bool) : Prop := s.size ≤ 8 ∧ (h = false → s = ByteArray.empty)
theorem bok_no2 {s : ByteArray} (h : s.toList.isEmpty = false) (g : bokP s false) : False := by
  have := (str_ne s).1 (by rw [h]; rfl)
  exact this (g.2 rfl)
theorem bok_no1 {s : ByteArray} {b : Bool} (h : 8 < (s.size : Int)) (g : bokP s b) : False := by
  have := g.1
  omega
theorem bok_yes1 {s : ByteArray} (h : (s.size : Int) ≤ 8) : bokP s true := ⟨by omega, fun h => by cases h⟩
theorem bok_yes2 {s : ByteArray} (h : (s.size : Int) ≤ 8) (h2 : s.toList.isEmpty = true) : bokP s false :=
  ⟨by omega, fun _ => Classical.byContradiction fun g => by have := (str_ne s).2 g; rw [h2] at this; cases this⟩
theorem all_snoc {p : Nat → Prop} {k : Nat} (h : ∀ j, j < k → p j) (hk : p k) : ∀ j, j < k + 1 → p j := fun j hj => by
  by_cases e : j = k
  · subst e; exact hk
  · exact h j (by omega)
theorem below_drewN {B : Nat} {a b : World} (h : Below B a b) (n : Nat) : Below B a (b.drewN n) := ⟨h.os, h.tape, h.output, h.size, h.block⟩
theorem hz_cases (a b c : Int) : (a = 0 ∧ b = 0 ∧ c = 0) ∨ ¬ a = 0 ∨ (a = 0 ∧ ¬ b = 0) ∨ (a = 0 ∧ b = 0 ∧ ¬ c = 0) := by omega
theorem l11Empty_c (w : World) : Calls Try.prog 57 #[] w fun e w' => e = .returned (.agg #[.int .i64 0, .int .i64 0, .int .i64 0]) ∧ Below w.heap.size w w' := by
  go_enter Try.func57, Try.ntmps57
  go_wp2
  exact bodyPost_ret (v := .agg #[.int .i64 0, .int .i64 0, .int .i64 0]) (by simp [results, Try.results57, go_sem]) rfl ⟨rfl, by (repeat' (first | exact Below.refl _ _ | assumption | refine Below.drew ?_ | refine below_drewN ?_ _ | refine Below.alloc ?_ (by omega) _ | refine Below.alloc ?_ (by simp; omega) _ | refine Below.alloc ?_ (by simp) _ | refine Below.setCell ?_ (by omega) _ | refine Below.setCell ?_ (by simp; omega) _ | refine Below.setCell ?_ (by simp) _))⟩
theorem Sub.frz {w0 : World} {a : Addr} (x : Sub w0) (h : a.block < w0.heap.size) : x.w.frozen? a = w0.frozen? a := grown_frozen (below_grown x.b none) h (by simp)
set_option maxHeartbeats 2000000 in
theorem impFv_c (f : FeedV) (vb vh : Value) (w : World) (hb : Rd 1 w vb f.bs.length (encS f.bs)) (hh : Rd 1 w vh f.hv.length (encB f.hv)) :
    Calls Try.prog 23 #[.agg #[.int .i64 f.pub, .int .i64 f.len, .int .i64 f.dig, .int .i64 f.sign, vb, vh]] w (RetBool (fv f) w) := by
  obtain ⟨nb, hnb⟩ : ∃ nb, f.bs.length = nb := ⟨_, rfl⟩
  obtain ⟨nh, hnh⟩ : ∃ nh, f.hv.length = nh := ⟨_, rfl⟩
  rw [hnb] at hb
  rw [hnh] at hh
  obtain ⟨-, ab, capb, rfl, hb1, hb2, hb3⟩ := id hb
  obtain ⟨-, ah, caph, rfl, hh1, hh2, hh3⟩ := id hh
  unfold maxLen at hb2 hh2
  obtain ⟨W0, hW0⟩ : ∃ W0, W0 = w.alloc (.cells #[.int .i64 f.pub, .int .i64 f.len, .int .i64 f.dig, .int .i64 f.sign, .slice ab nb capb, .slice ah nh caph] 39) := ⟨_, rfl⟩
  have hB0 : Below w.heap.size w W0 := by rw [hW0]; (repeat' (first | exact Below.refl _ _ | assumption | refine Below.drew ?_ | refine below_drewN ?_ _ | refine Below.alloc ?_ (by omega) _ | refine Below.alloc ?_ (by simp; omega) _ | refine Below.alloc ?_ (by simp) _ | refine Below.setCell ?_ (by omega) _ | refine Below.setCell ?_ (by simp; omega) _ | refine Below.setCell ?_ (by simp) _))
  have c0 : W0.cell? ⟨w.heap.size, 0, none⟩ = some (.int .i64 f.pub) := by rw [hW0]; simp
  have c1 : W0.cell? ⟨w.heap.size, 1, none⟩ = some (.int .i64 f.len) := by rw [hW0]; simp
  have c2 : W0.cell? ⟨w.heap.size, 2, none⟩ = some (.int .i64 f.dig) := by rw [hW0]; simp
  have c3 : W0.cell? ⟨w.heap.size, 3, none⟩ = some (.int .i64 f.sign) := by rw [hW0]; simp
  have c4 : W0.cell? ⟨w.heap.size, 4, none⟩ = some (.slice ab nb capb) := by rw [hW0]; simp
  have c5 : W0.cell? ⟨w.heap.size, 5, none⟩ = some (.slice ah nh caph) := by rw [hW0]; simp
  have K := Lib.hid (fun w => isKey_c f.pub w)
  have HH := Lib.hid (fun w => headCheck_c f.pub f.len f.dig f.sign w)
  have HRB := Lib.hid (hb.below hB0)
  have HRV := Lib.hid (hh.below hB0)
  have HB := Lib.hid hB0
  have NO1 := Lib.hid (fun h => fv_no1 (f := f) h)
  have NO2 := Lib.hid (fun h h' => fv_no2 (f := f) h h')
  have NO3 := Lib.hid (fun (h : (nb : Int) ≠ f.len) => fv_no3 (f := f) (by rw [hnb]; exact h))
  have NO4 := Lib.hid (fun (h : (nh : Int) ≠ f.len) => fv_no4 (f := f) (by rw [hnh]; exact h))
  have NO5 := Lib.hid (fun i (hi : i < nb) h => fv_no5 (f := f) (i := i) (by rw [hnb]; exact hi) h)
  have YES := Lib.hid (fun b h1 h2 (h3 : (nb : Int) = f.len) (h4 : (nh : Int) = f.len) (h5 : ∀ i, i < nb → Bok f i) (h6 : (nb = 0 ∨ cnt f.hv ≠ f.hv.length ∨ digest (f.bs.map txt) = f.dig) ↔ b = true) => fv_yes (f := f) (b := b) h1 h2 (by rw [hnb]; exact h3) (by rw [hnh]; exact h4) (by rw [hnb]; exact h5) (by rw [hnb]; exact h6))
  have SMALL := Lib.hid (fun h (h' : (nb : Int) = f.len) => (hnb ▸ gate_small (f := f) h (by rw [hnb]; exact h') : nb ≤ 16))
  have HBOK := Lib.hid (show ∀ i, Bok f i ↔ bokP (f.bs.getD i ByteArray.empty) (f.hv.getD i false) from fun i => Iff.rfl)
  generalize fv f = res at *
  generalize Bok f = bok at *
  obtain ⟨pub, len, dig, sign, bs, hv⟩ := f
  dsimp only at *
  have HNB := Lib.hid (fun (_ : True) => hnb)
  have HNH := Lib.hid (fun (_ : True) => hnh)
  clear hnb hnh hb hh hb3 hh3 hB0
  cases hk : inB 1 996 pub
  · have r0 := NO1.out hk
    subst r0
    rw [hk] at K
    go_enter Try.func23, Try.ntmps23
    go_wp2_with fail
    rw [← hW0]
    clear hW0
    refine (K.out _).mono ?_
    rintro e w2 ⟨rfl, rfl⟩
    go_wp2
    go_ret
    exact ⟨rfl, HB.out⟩
  · rw [hk] at K
    have HK := Lib.hid hk
    clear hk NO1
    obtain ⟨q, hq⟩ : ∃ q, hok pub len dig sign = q := ⟨_, rfl⟩
    rw [hq] at HH NO2 SMALL YES
    clear hq
    go_enter Try.func23, Try.ntmps23
    go_wp2_with fail
    rw [← hW0]
    clear hW0
    refine (K.out _).mono ?_
    rintro e w2 ⟨rfl, rfl⟩
    go_wp2_with fail
    all_goals (try (go_ret; simp only [bne_iff_ne, bne_eq_false_iff_eq, ne_eq] at *; first | exact ⟨ret_bb (NO3.out (by omega)).symm, HB.out⟩ | exact ⟨ret_bb (NO4.out (by omega)).symm, HB.out⟩))
    all_goals (try subst len)
    all_goals (try subst dig)
    all_goals (try subst sign)
    · obtain ⟨w2, rfl⟩ : ∃ w2, w2 = W0 := ⟨_, rfl⟩
      have HG := Lib.hid (SMALL.out (Or.inl ⟨rfl, rfl, rfl⟩))
      have YES2 := Lib.hid (fun b => YES.out b HK.out (Or.inl ⟨rfl, rfl, rfl⟩))
      have E := ‹(_ != _) = false›
      simp only [bne_eq_false_iff_eq] at E
      obtain rfl : nb = nh := by omega
      have hn := HG.out (by omega)
      have YES3 := Lib.hid (fun b h5 h6 => YES2.out b (by omega) (by omega) h5 h6)
      have HCB := Lib.hid (rd_cells HRB.out)
      have HCV := Lib.hid (rd_cells HRV.out)
      clear E HG YES2 NO3 NO4
      by_cases hz : nb = 0
      · first
        | (exfalso; omega)
        | skip
        all_goals
          have r0 := YES3.out true (fun i hi => absurd hi (by omega)) (by rw [eq_self_iff_true, iff_true]; exact Or.inl hz)
          clear YES3 NO5 HBOK HCB HCV HRB HRV
          subst r0
          go_loopw [44, 3, 4] (fun i _ _ wr => i = .int .i64 0 ∧ Below w2.heap.size w2 wr) (fun i _ _ _ => 0)
          case atStart => exact ⟨rfl, Below.refl _ _⟩
          case round =>
            obtain ⟨rfl, hb⟩ := hrel
            have c0 := cell_keep hb c0
            have c1 := cell_keep hb c1
            have c2 := cell_keep hb c2
            have c3 := cell_keep hb c3
            have c4 := cell_keep hb c4
            have c5 := cell_keep hb c5
            have HBW := Lib.hid (HB.out.trans (hb.mono HB.out.size))
            clear hb
            go_wp2
            go_quiet (fail)
            go_wp2
            go_ret
            exact ⟨rfl, below_drewN HBW.out _⟩
      · first
        | (exfalso; omega)
        | skip
        all_goals
          go_loopw [44, 3, 4] (fun i _ _ wr => ∃ k : Nat, k ≤ nb ∧ i = .int .i64 k ∧ (∀ j, j < k → bok j) ∧ Below w2.heap.size w2 wr) (fun i _ _ _ => nb - (intOf i).toNat)
          case atStart => exact ⟨0, Nat.zero_le _, rfl, fun j hj => absurd hj (Nat.not_lt_zero _), Below.refl _ _⟩
          case round =>
            obtain ⟨k, hk, rfl, hp, hb⟩ := hrel
            have HP := Lib.hid hp
            have c0 := cell_keep hb c0
            have c1 := cell_keep hb c1
            have c2 := cell_keep hb c2
            have c3 := cell_keep hb c3
            have c4 := cell_keep hb c4
            have c5 := cell_keep hb c5
            clear hp
            by_cases hlt : k < nb
            · obtain ⟨b1, o1, rfl, hc1⟩ := HCB.out (by omega)
              obtain ⟨b2, o2, rfl, hc2⟩ := HCV.out (by omega)
              have d1 := cell_keep hb (hc1 k _ (encS_at bs k (by rw [HNB.out trivial]; exact hlt)))
              have d2 := cell_keep hb (hc2 k _ (encB_at hv k (by rw [HNH.out trivial]; exact hlt)))
              have HX := Lib.hid (HBOK.out k)
              have HBW := Lib.hid (HB.out.trans (hb.mono HB.out.size))
              have HLT := Lib.hid (NO5.out k hlt)
              generalize bs.getD k ByteArray.empty = s at *
              generalize hv.getD k false = h at *
              clear hc1 hc2 HCB HCV HBOK NO5 YES3
              have hb0 := Lib.hid hb
              clear hb
              by_cases h8 : 8 < (s.size : Int)
              · go_wp2
                go_ret
                exact ⟨ret_bb (HLT.out (fun g => bok_no1 h8 (HX.out.1 g))).symm, HBW.out⟩
              · have h8' : (s.size : Int) ≤ 8 := by omega
                cases h
                · cases he : s.toList.isEmpty
                  · go_wp2
                    go_ret
                    exact ⟨ret_bb (HLT.out (fun g => bok_no2 he (HX.out.1 g))).symm, HBW.out⟩
                  · have H8 := Lib.hid (bok_yes2 h8' he)
                    go_wp2
                    go_roundw
                    case rel => exact ⟨k + 1, by omega, by go_num, all_snoc HP.out (HX.out.2 H8.out), hb0.out⟩
                    case measure => simp [intOf]; omega
                · have H8 := Lib.hid (bok_yes1 h8')
                  go_wp2
                  go_roundw
                  case rel => exact ⟨k + 1, by omega, by go_num, all_snoc HP.out (HX.out.2 H8.out), hb0.out⟩
                  case measure => simp [intOf]; omega
            · have HALL := Lib.hid (show ∀ i, i < nb → bok i from fun i hi => HP.out i (by omega))
              have HBW := Lib.hid (HB.out.trans (hb.mono HB.out.size))
              have HBr := Lib.hid (HRB.out.below hb)
              have HVr := Lib.hid (HRV.out.below hb)
              have h16 : hv.length ≤ 16 := by rw [HNH.out trivial]; exact hn
              have b16 : bs.length ≤ 16 := by rw [HNB.out trivial]; exact hn
              have H16 := Lib.hid h16
              have B16 := Lib.hid b16
              have SZ := Lib.hid (show ∀ i, i < bs.length → (bs.getD i ByteArray.empty).size ≤ 8 from fun i hi => ((HBOK.out i).1 (HALL.out i (by rw [← HNB.out trivial]; exact hi))).1)
              have n1 : ((nb : Int) == 0) = false := by rw [beq_eq_false_iff_ne]; omega
              have n2 : (len == 0) = false := by rw [beq_eq_false_iff_ne]; omega
              clear HP hb HCB HCV HRB HRV h16 b16
              cases hwh : decide (cnt hv = hv.length)
              · have r0 := YES3.out true HALL.out (by rw [eq_self_iff_true, iff_true]; exact Or.inr (Or.inl (of_decide_eq_false hwh)))
                subst r0
                go_wp2
                have z0 := fun (x : Sub wr) => x.cell c0
                have z1 := fun (x : Sub wr) => x.cell c1
                have z2 := fun (x : Sub wr) => x.cell c2
                have z3 := fun (x : Sub wr) => x.cell c3
                have z4 := fun (x : Sub wr) => x.cell c4
                have z5 := fun (x : Sub wr) => x.cell c5
                have WH := Lib.hid (fun (W : World) (hW : Below wr.heap.size wr W) => (show Calls _ _ _ _ (fun e w' => e = .returned (.bool false) ∧ Below W.heap.size W w') from hwh ▸ whole_c pub len dig sign (.slice ab nb capb) (.slice ah nb caph) hv W (by rw [HNH.out trivial]; exact HVr.out.below hW) H16.out))
                refine wp_region_sub (by kernel_rfl) (by kernel_rfl) ?_
                repeat (go_big_quiet_step (with_reducible (exact Calls.sub (v := .bool false) WH.out)))
                refine wpQuiet_nil ?_
                rintro _ ⟨xs, rfl⟩
                have HX := Lib.hid (HBW.out.trans (xs.b.mono HBW.out.size))
                go_wp2
                go_ret
                exact ⟨rfl, HX.out⟩
              · have HE := Lib.hid (YES3.out (digest (bs.map txt) == dig) HALL.out (by rw [beq_iff_eq]; exact ⟨fun g => g.elim (fun g => absurd g hz) (fun g => g.elim (fun g => absurd (of_decide_eq_true hwh) g) id), fun g => Or.inr (Or.inr g)⟩))
                have WH := Lib.hid (fun (W : World) (hW : Below wr.heap.size wr W) => (show Calls _ _ _ _ (fun e w' => e = .returned (.bool true) ∧ Below W.heap.size W w') from hwh ▸ whole_c pub len dig sign (.slice ab nb capb) (.slice ah nb caph) hv W (by rw [HNH.out trivial]; exact HVr.out.below hW) H16.out))
                have LH := Lib.hid (fun (W : World) (hW : Below wr.heap.size wr W) => leaves_c pub len dig sign (.slice ab nb capb) (.slice ah nb caph) bs W (by rw [HNB.out trivial]; exact HBr.out.below hW) B16.out SZ.out)
                have DH := Lib.hid (fun v W (hW : Rd 1 W v (bs.map txt).length (enc1 (bs.map txt))) => digest_c v (bs.map txt) W hW (fun x hx => by obtain ⟨y, -, rfl⟩ := List.mem_map.1 hx; exact txt_in y) (by rw [List.length_map]; exact B16.out))
                clear YES3 HALL SZ HBr HVr H16 B16 HBOK NO5
                go_wp2
                go_region_held3 (fun w' => w'.cell? ⟨w.heap.size, 0, none⟩ = some (.int .i64 pub) ∧ w'.cell? ⟨w.heap.size, 1, none⟩ = some (.int .i64 len) ∧ w'.cell? ⟨w.heap.size, 2, none⟩ = some (.int .i64 dig) ∧ w'.cell? ⟨w.heap.size, 3, none⟩ = some (.int .i64 sign) ∧ w'.cell? ⟨w.heap.size, 4, none⟩ = some (.slice ab nb capb) ∧ w'.cell? ⟨w.heap.size, 5, none⟩ = some (.slice ah nb caph)) (first | exact ⟨i0, i1, i2, i3, i4, i5⟩ | exact ⟨g0, g1, g2, g3, g4, g5⟩ | exact ⟨e0, e1, e2, e3, e4, e5⟩ | exact ⟨c0, c1, c2, c3, c4, c5⟩) ((first
                  | ((with_reducible refine (WH.out _ (Below.refl _ _).drew).mono ?_); rintro e w7 ⟨rfl, hb7⟩; have BW7 := Lib.hid ((Below.refl wr.heap.size wr).drew.trans hb7); have e0 := cell_keep BW7.out c0; have e1 := cell_keep BW7.out c1; have e2 := cell_keep BW7.out c2; have e3 := cell_keep BW7.out c3; have e4 := cell_keep BW7.out c4; have e5 := cell_keep BW7.out c5; clear hb7)
                  | ((with_reducible refine (LH.out _ BW7.out).mono ?_); rintro e w8 ⟨v8, rfl, hown8, hb8⟩; have BW8 := Lib.hid (BW7.out.trans (hb8.mono BW7.out.size)); have HV8 := Lib.hid (Rd.of_own hown8); have g0 := cell_keep hb8 e0; have g1 := cell_keep hb8 e1; have g2 := cell_keep hb8 e2; have g3 := cell_keep hb8 e3; have g4 := cell_keep hb8 e4; have g5 := cell_keep hb8 e5; clear hb8 hown8)
                  | ((with_reducible refine (DH.out _ _ HV8.out).mono ?_); rintro e w9 ⟨rfl, hb9⟩; have BW9 := Lib.hid (BW8.out.trans (hb9.mono BW8.out.size)); have i0 := cell_keep hb9 g0; have i1 := cell_keep hb9 g1; have i2 := cell_keep hb9 g2; have i3 := cell_keep hb9 g3; have i4 := cell_keep hb9 g4; have i5 := cell_keep hb9 g5; clear hb9)))
                go_wp2
                go_ret
                exact ⟨ret_bb HE.out.symm, HBW.out.trans (BW9.out.mono HBW.out.size)⟩
    all_goals
      refine (HH.out _).mono ?_
      rintro e w2 ⟨rfl, hb2⟩
      have c0 := cell_keep hb2 c0
      have c1 := cell_keep hb2 c1
      have c2 := cell_keep hb2 c2
      have c3 := cell_keep hb2 c3
      have c4 := cell_keep hb2 c4
      have c5 := cell_keep hb2 c5
      have HB := Lib.hid (HB.out.trans (hb2.mono HB.out.size))
      have HRB := Lib.hid (HRB.out.below hb2)
      have HRV := Lib.hid (HRV.out.below hb2)
      clear hb2
      cases q
      · have r0 := NO2.out rfl (by unfold Hz; omega)
        subst r0
        go_wp2
        go_ret
        exact ⟨rfl, HB.out⟩
      · have HG := Lib.hid (SMALL.out (Or.inr rfl))
        have YES2 := Lib.hid (fun b => YES.out b HK.out (Or.inr rfl))
        clear HH NO2 SMALL YES
        go_wp2_with fail
        all_goals (try (go_ret; simp only [bne_iff_ne, bne_eq_false_iff_eq, ne_eq] at *; first | exact ⟨ret_bb (NO3.out (by omega)).symm, HB.out⟩ | exact ⟨ret_bb (NO4.out (by omega)).symm, HB.out⟩))
        all_goals
          have E := ‹(_ != _) = false›
          simp only [bne_eq_false_iff_eq] at E
          obtain rfl : nb = nh := by omega
          have hn := HG.out (by omega)
          have YES3 := Lib.hid (fun b h5 h6 => YES2.out b (by omega) (by omega) h5 h6)
          have HCB := Lib.hid (rd_cells HRB.out)
          have HCV := Lib.hid (rd_cells HRV.out)
          clear E HG YES2 NO3 NO4
          by_cases hz : nb = 0
          · first
            | (exfalso; omega)
            | skip
            all_goals
              have r0 := YES3.out true (fun i hi => absurd hi (by omega)) (by rw [eq_self_iff_true, iff_true]; exact Or.inl hz)
              clear YES3 NO5 HBOK HCB HCV HRB HRV
              subst r0
              go_loopw [44, 3, 4] (fun i _ _ wr => i = .int .i64 0 ∧ Below w2.heap.size w2 wr) (fun i _ _ _ => 0)
              case atStart => exact ⟨rfl, Below.refl _ _⟩
              case round =>
                obtain ⟨rfl, hb⟩ := hrel
                have c0 := cell_keep hb c0
                have c1 := cell_keep hb c1
                have c2 := cell_keep hb c2
                have c3 := cell_keep hb c3
                have c4 := cell_keep hb c4
                have c5 := cell_keep hb c5
                have HBW := Lib.hid (HB.out.trans (hb.mono HB.out.size))
                clear hb
                go_wp2
                go_quiet (fail)
                go_wp2
                go_ret
                exact ⟨rfl, below_drewN HBW.out _⟩
          · first
            | (exfalso; omega)
            | skip
            all_goals
              go_loopw [44, 3, 4] (fun i _ _ wr => ∃ k : Nat, k ≤ nb ∧ i = .int .i64 k ∧ (∀ j, j < k → bok j) ∧ Below w2.heap.size w2 wr) (fun i _ _ _ => nb - (intOf i).toNat)
              case atStart => exact ⟨0, Nat.zero_le _, rfl, fun j hj => absurd hj (Nat.not_lt_zero _), Below.refl _ _⟩
              case round =>
                obtain ⟨k, hk, rfl, hp, hb⟩ := hrel
                have HP := Lib.hid hp
                have c0 := cell_keep hb c0
                have c1 := cell_keep hb c1
                have c2 := cell_keep hb c2
                have c3 := cell_keep hb c3
                have c4 := cell_keep hb c4
                have c5 := cell_keep hb c5
                clear hp
                by_cases hlt : k < nb
                · obtain ⟨b1, o1, rfl, hc1⟩ := HCB.out (by omega)
                  obtain ⟨b2, o2, rfl, hc2⟩ := HCV.out (by omega)
                  have d1 := cell_keep hb (hc1 k _ (encS_at bs k (by rw [HNB.out trivial]; exact hlt)))
                  have d2 := cell_keep hb (hc2 k _ (encB_at hv k (by rw [HNH.out trivial]; exact hlt)))
                  have HX := Lib.hid (HBOK.out k)
                  have HBW := Lib.hid (HB.out.trans (hb.mono HB.out.size))
                  have HLT := Lib.hid (NO5.out k hlt)
                  generalize bs.getD k ByteArray.empty = s at *
                  generalize hv.getD k false = h at *
                  clear hc1 hc2 HCB HCV HBOK NO5 YES3
                  have hb0 := Lib.hid hb
                  clear hb
                  by_cases h8 : 8 < (s.size : Int)
                  · go_wp2
                    go_ret
                    exact ⟨ret_bb (HLT.out (fun g => bok_no1 h8 (HX.out.1 g))).symm, HBW.out⟩
                  · have h8' : (s.size : Int) ≤ 8 := by omega
                    cases h
                    · cases he : s.toList.isEmpty
                      · go_wp2
                        go_ret
                        exact ⟨ret_bb (HLT.out (fun g => bok_no2 he (HX.out.1 g))).symm, HBW.out⟩
                      · have H8 := Lib.hid (bok_yes2 h8' he)
                        go_wp2
                        go_roundw
                        case rel => exact ⟨k + 1, by omega, by go_num, all_snoc HP.out (HX.out.2 H8.out), hb0.out⟩
                        case measure => simp [intOf]; omega
                    · have H8 := Lib.hid (bok_yes1 h8')
                      go_wp2
                      go_roundw
                      case rel => exact ⟨k + 1, by omega, by go_num, all_snoc HP.out (HX.out.2 H8.out), hb0.out⟩
                      case measure => simp [intOf]; omega
                · have HALL := Lib.hid (show ∀ i, i < nb → bok i from fun i hi => HP.out i (by omega))
                  have HBW := Lib.hid (HB.out.trans (hb.mono HB.out.size))
                  have HBr := Lib.hid (HRB.out.below hb)
                  have HVr := Lib.hid (HRV.out.below hb)
                  have h16 : hv.length ≤ 16 := by rw [HNH.out trivial]; exact hn
                  have b16 : bs.length ≤ 16 := by rw [HNB.out trivial]; exact hn
                  have H16 := Lib.hid h16
                  have B16 := Lib.hid b16
                  have SZ := Lib.hid (show ∀ i, i < bs.length → (bs.getD i ByteArray.empty).size ≤ 8 from fun i hi => ((HBOK.out i).1 (HALL.out i (by rw [← HNB.out trivial]; exact hi))).1)
                  have n1 : ((nb : Int) == 0) = false := by rw [beq_eq_false_iff_ne]; omega
                  have n2 : (len == 0) = false := by rw [beq_eq_false_iff_ne]; omega
                  clear HP hb HCB HCV HRB HRV h16 b16
                  cases hwh : decide (cnt hv = hv.length)
                  · have r0 := YES3.out true HALL.out (by rw [eq_self_iff_true, iff_true]; exact Or.inr (Or.inl (of_decide_eq_false hwh)))
                    subst r0
                    go_wp2
                    have z0 := fun (x : Sub wr) => x.cell c0
                    have z1 := fun (x : Sub wr) => x.cell c1
                    have z2 := fun (x : Sub wr) => x.cell c2
                    have z3 := fun (x : Sub wr) => x.cell c3
                    have z4 := fun (x : Sub wr) => x.cell c4
                    have z5 := fun (x : Sub wr) => x.cell c5
                    have WH := Lib.hid (fun (W : World) (hW : Below wr.heap.size wr W) => (show Calls _ _ _ _ (fun e w' => e = .returned (.bool false) ∧ Below W.heap.size W w') from hwh ▸ whole_c pub len dig sign (.slice ab nb capb) (.slice ah nb caph) hv W (by rw [HNH.out trivial]; exact HVr.out.below hW) H16.out))
                    refine wp_region_sub (by kernel_rfl) (by kernel_rfl) ?_
                    repeat (go_big_quiet_step (with_reducible (exact Calls.sub (v := .bool false) WH.out)))
                    refine wpQuiet_nil ?_
                    rintro _ ⟨xs, rfl⟩
                    have HX := Lib.hid (HBW.out.trans (xs.b.mono HBW.out.size))
                    go_wp2
                    go_ret
                    exact ⟨rfl, HX.out⟩
                  · have HE := Lib.hid (YES3.out (digest (bs.map txt) == dig) HALL.out (by rw [beq_iff_eq]; exact ⟨fun g => g.elim (fun g => absurd g hz) (fun g => g.elim (fun g => absurd (of_decide_eq_true hwh) g) id), fun g => Or.inr (Or.inr g)⟩))
                    have WH := Lib.hid (fun (W : World) (hW : Below wr.heap.size wr W) => (show Calls _ _ _ _ (fun e w' => e = .returned (.bool true) ∧ Below W.heap.size W w') from hwh ▸ whole_c pub len dig sign (.slice ab nb capb) (.slice ah nb caph) hv W (by rw [HNH.out trivial]; exact HVr.out.below hW) H16.out))
                    have LH := Lib.hid (fun (W : World) (hW : Below wr.heap.size wr W) => leaves_c pub len dig sign (.slice ab nb capb) (.slice ah nb caph) bs W (by rw [HNB.out trivial]; exact HBr.out.below hW) B16.out SZ.out)
                    have DH := Lib.hid (fun v W (hW : Rd 1 W v (bs.map txt).length (enc1 (bs.map txt))) => digest_c v (bs.map txt) W hW (fun x hx => by obtain ⟨y, -, rfl⟩ := List.mem_map.1 hx; exact txt_in y) (by rw [List.length_map]; exact B16.out))
                    clear YES3 HALL SZ HBr HVr H16 B16 HBOK NO5
                    go_wp2
                    go_region_held3 (fun w' => w'.cell? ⟨w.heap.size, 0, none⟩ = some (.int .i64 pub) ∧ w'.cell? ⟨w.heap.size, 1, none⟩ = some (.int .i64 len) ∧ w'.cell? ⟨w.heap.size, 2, none⟩ = some (.int .i64 dig) ∧ w'.cell? ⟨w.heap.size, 3, none⟩ = some (.int .i64 sign) ∧ w'.cell? ⟨w.heap.size, 4, none⟩ = some (.slice ab nb capb) ∧ w'.cell? ⟨w.heap.size, 5, none⟩ = some (.slice ah nb caph)) (first | exact ⟨i0, i1, i2, i3, i4, i5⟩ | exact ⟨g0, g1, g2, g3, g4, g5⟩ | exact ⟨e0, e1, e2, e3, e4, e5⟩ | exact ⟨c0, c1, c2, c3, c4, c5⟩) ((first
                      | ((with_reducible refine (WH.out _ (Below.refl _ _).drew).mono ?_); rintro e w7 ⟨rfl, hb7⟩; have BW7 := Lib.hid ((Below.refl wr.heap.size wr).drew.trans hb7); have e0 := cell_keep BW7.out c0; have e1 := cell_keep BW7.out c1; have e2 := cell_keep BW7.out c2; have e3 := cell_keep BW7.out c3; have e4 := cell_keep BW7.out c4; have e5 := cell_keep BW7.out c5; clear hb7)
                      | ((with_reducible refine (LH.out _ BW7.out).mono ?_); rintro e w8 ⟨v8, rfl, hown8, hb8⟩; have BW8 := Lib.hid (BW7.out.trans (hb8.mono BW7.out.size)); have HV8 := Lib.hid (Rd.of_own hown8); have g0 := cell_keep hb8 e0; have g1 := cell_keep hb8 e1; have g2 := cell_keep hb8 e2; have g3 := cell_keep hb8 e3; have g4 := cell_keep hb8 e4; have g5 := cell_keep hb8 e5; clear hb8 hown8)
                      | ((with_reducible refine (DH.out _ _ HV8.out).mono ?_); rintro e w9 ⟨rfl, hb9⟩; have BW9 := Lib.hid (BW8.out.trans (hb9.mono BW8.out.size)); have i0 := cell_keep hb9 g0; have i1 := cell_keep hb9 g1; have i2 := cell_keep hb9 g2; have i3 := cell_keep hb9 g3; have i4 := cell_keep hb9 g4; have i5 := cell_keep hb9 g5; clear hb9)))
                    go_wp2
                    go_ret
                    exact ⟨ret_bb HE.out.symm, HBW.out.trans (BW9.out.mono HBW.out.size)⟩
set_option maxHeartbeats 2000000 in
theorem specFv_c (f : FeedV) (vb vh : Value) (w : World) (hb : Rd 1 w vb f.bs.length (encS f.bs)) (hh : Rd 1 w vh f.hv.length (encB f.hv)) :
    Calls Try.prog 31 #[.agg #[.int .i64 f.pub, .int .i64 f.len, .int .i64 f.dig, .int .i64 f.sign, vb, vh]] w (RetBool (fv f) w) := by
  obtain ⟨nb, hnb⟩ : ∃ nb, f.bs.length = nb := ⟨_, rfl⟩
  obtain ⟨nh, hnh⟩ : ∃ nh, f.hv.length = nh := ⟨_, rfl⟩
  rw [hnb] at hb
  rw [hnh] at hh
  obtain ⟨-, ab, capb, rfl, hb1, hb2, hb3⟩ := id hb
  obtain ⟨-, ah, caph, rfl, hh1, hh2, hh3⟩ := id hh
  unfold maxLen at hb2 hh2
  obtain ⟨W0, hW0⟩ : ∃ W0, W0 = w.alloc (.cells #[.int .i64 f.pub, .int .i64 f.len, .int .i64 f.dig, .int .i64 f.sign, .slice ab nb capb, .slice ah nh caph] 39) := ⟨_, rfl⟩
  have hB0 : Below w.heap.size w W0 := by rw [hW0]; (repeat' (first | exact Below.refl _ _ | assumption | refine Below.drew ?_ | refine below_drewN ?_ _ | refine Below.alloc ?_ (by omega) _ | refine Below.alloc ?_ (by simp; omega) _ | refine Below.alloc ?_ (by simp) _ | refine Below.setCell ?_ (by omega) _ | refine Below.setCell ?_ (by simp; omega) _ | refine Below.setCell ?_ (by simp) _))
  have c0 : W0.cell? ⟨w.heap.size, 0, none⟩ = some (.int .i64 f.pub) := by rw [hW0]; simp
  have c1 : W0.cell? ⟨w.heap.size, 1, none⟩ = some (.int .i64 f.len) := by rw [hW0]; simp
  have c2 : W0.cell? ⟨w.heap.size, 2, none⟩ = some (.int .i64 f.dig) := by rw [hW0]; simp
  have c3 : W0.cell? ⟨w.heap.size, 3, none⟩ = some (.int .i64 f.sign) := by rw [hW0]; simp
  have c4 : W0.cell? ⟨w.heap.size, 4, none⟩ = some (.slice ab nb capb) := by rw [hW0]; simp
  have c5 : W0.cell? ⟨w.heap.size, 5, none⟩ = some (.slice ah nh caph) := by rw [hW0]; simp
  have K := Lib.hid (fun w => l3Key_c f.pub w)
  have HH := Lib.hid (fun w => (show Calls _ _ _ _ (fun e w' => e = .returned (.bool (hok f.pub f.len f.dig f.sign)) ∧ Below w.heap.size w w') from specHead_c f.pub f.len f.dig f.sign w))
  have EM := Lib.hid (fun w => l11Empty_c w)
  have HRB := Lib.hid (hb.below hB0)
  have HRV := Lib.hid (hh.below hB0)
  have HB := Lib.hid hB0
  have NO1 := Lib.hid (fun h => fv_no1 (f := f) h)
  have NO2 := Lib.hid (fun h h' => fv_no2 (f := f) h h')
  have NO3 := Lib.hid (fun (h : (nb : Int) ≠ f.len) => fv_no3 (f := f) (by rw [hnb]; exact h))
  have NO4 := Lib.hid (fun (h : (nh : Int) ≠ f.len) => fv_no4 (f := f) (by rw [hnh]; exact h))
  have NO5 := Lib.hid (fun i (hi : i < nb) h => fv_no5 (f := f) (i := i) (by rw [hnb]; exact hi) h)
  have YES := Lib.hid (fun b h1 h2 (h3 : (nb : Int) = f.len) (h4 : (nh : Int) = f.len) (h5 : ∀ i, i < nb → Bok f i) (h6 : (nb = 0 ∨ cnt f.hv ≠ f.hv.length ∨ digest (f.bs.map txt) = f.dig) ↔ b = true) => fv_yes (f := f) (b := b) h1 h2 (by rw [hnb]; exact h3) (by rw [hnh]; exact h4) (by rw [hnb]; exact h5) (by rw [hnb]; exact h6))
  have SMALL := Lib.hid (fun h (h' : (nb : Int) = f.len) => (hnb ▸ gate_small (f := f) h (by rw [hnb]; exact h') : nb ≤ 16))
  have HBOK := Lib.hid (show ∀ i, Bok f i ↔ bokP (f.bs.getD i ByteArray.empty) (f.hv.getD i false) from fun i => Iff.rfl)
  generalize fv f = res at *
  generalize Bok f = bok at *
  obtain ⟨pub, len, dig, sign, bs, hv⟩ := f
  dsimp only at *
  have HNB := Lib.hid (fun (_ : True) => hnb)
  have HNH := Lib.hid (fun (_ : True) => hnh)
  clear hnb hnh hb hh hb3 hh3 hB0
  have z0 := fun (x : Sub W0) => x.cell c0
  have z1 := fun (x : Sub W0) => x.cell c1
  have z2 := fun (x : Sub W0) => x.cell c2
  have z3 := fun (x : Sub W0) => x.cell c3
  have z4 := fun (x : Sub W0) => x.cell c4
  have z5 := fun (x : Sub W0) => x.cell c5
  cases hk : inB 1 996 pub
  · have r0 := NO1.out hk
    subst r0
    rw [hk] at K
    go_enter Try.func31, Try.ntmps31
    go_wp2
    rw [← hW0]
    clear hW0
    refine wp_region_sub (by kernel_rfl) (by kernel_rfl) ?_
    repeat (go_big_quiet_step (with_reducible (first | exact Calls.sub_same (v := .bool false) (fun W _ => K.out W) | exact Calls.sub (v := .agg #[.int .i64 0, .int .i64 0, .int .i64 0]) (fun W _ => EM.out W) | exact Calls.sub (v := .bool false) (fun W _ => HH.out W))))
    refine wpQuiet_nil ?_
    rintro w2 ⟨xs, hxs⟩
    have hb2 : Below W0.heap.size W0 w2 := by rw [hxs]; exact xs.b
    clear hxs xs z0 z1 z2 z3 z4 z5
    have c0 := cell_keep hb2 c0
    have c1 := cell_keep hb2 c1
    have c2 := cell_keep hb2 c2
    have c3 := cell_keep hb2 c3
    have c4 := cell_keep hb2 c4
    have c5 := cell_keep hb2 c5
    have HB := Lib.hid (HB.out.trans (hb2.mono HB.out.size))
    have HRB := Lib.hid (HRB.out.below hb2)
    have HRV := Lib.hid (HRV.out.below hb2)
    clear hb2
    go_wp2
    go_ret
    exact ⟨rfl, HB.out⟩
  · rw [hk] at K
    have HK := Lib.hid hk
    clear hk NO1
    obtain ⟨q, hq⟩ : ∃ q, hok pub len dig sign = q := ⟨_, rfl⟩
    rw [hq] at HH NO2 SMALL YES
    clear hq
    rcases hz_cases len dig sign with ⟨rfl, rfl, rfl⟩ | h1 | ⟨rfl, h1⟩ | ⟨rfl, rfl, h1⟩
    · by_cases e1 : (nb : Int) = 0
      · have b1 : ((nb : Int) != 0) = false := by rw [bne_eq_false_iff_eq]; exact e1
        by_cases e2 : (nh : Int) = 0
        · have b2 : ((nh : Int) != 0) = false := by rw [bne_eq_false_iff_eq]; exact e2
          have HG := Lib.hid (SMALL.out (Or.inl ⟨rfl, rfl, rfl⟩))
          have YES2 := Lib.hid (fun b => YES.out b HK.out (Or.inl ⟨rfl, rfl, rfl⟩))
          go_enter Try.func31, Try.ntmps31
          go_wp2
          rw [← hW0]
          clear hW0
          refine wp_region_sub (by kernel_rfl) (by kernel_rfl) ?_
          repeat (go_big_quiet_step (with_reducible (first | exact Calls.sub_same (v := .bool true) (fun W _ => K.out W) | exact Calls.sub (v := .agg #[.int .i64 0, .int .i64 0, .int .i64 0]) (fun W _ => EM.out W) | exact Calls.sub (v := .bool true) (fun W _ => HH.out W))))
          refine wpQuiet_nil ?_
          rintro w2 ⟨xs, hxs⟩
          have hb2 : Below W0.heap.size W0 w2 := by rw [hxs]; exact xs.b
          clear hxs xs z0 z1 z2 z3 z4 z5
          have c0 := cell_keep hb2 c0
          have c1 := cell_keep hb2 c1
          have c2 := cell_keep hb2 c2
          have c3 := cell_keep hb2 c3
          have c4 := cell_keep hb2 c4
          have c5 := cell_keep hb2 c5
          have HB := Lib.hid (HB.out.trans (hb2.mono HB.out.size))
          have HRB := Lib.hid (HRB.out.below hb2)
          have HRV := Lib.hid (HRV.out.below hb2)
          clear hb2
          go_wp2
          clear HH NO2 SMALL YES
          obtain rfl : nb = nh := by omega
          have hn := HG.out (by omega)
          have YES3 := Lib.hid (fun b h5 h6 => YES2.out b (by omega) (by omega) h5 h6)
          have HCB := Lib.hid (rd_cells HRB.out)
          have HCV := Lib.hid (rd_cells HRV.out)
          clear HG YES2 NO3 NO4
          have hz : nb = 0 := by omega
          have r0 := YES3.out true (fun i hi => absurd hi (by omega)) (by rw [eq_self_iff_true, iff_true]; exact Or.inl hz)
          clear YES3 NO5 HBOK HCB HCV HRB HRV
          subst r0
          go_loopw [3] (fun i wr => i = .int .i64 0 ∧ Below w2.heap.size w2 wr) (fun i _ => 0)
          case atStart => exact ⟨rfl, Below.refl _ _⟩
          case round =>
            obtain ⟨rfl, hb⟩ := hrel
            have c0 := cell_keep hb c0
            have c1 := cell_keep hb c1
            have c2 := cell_keep hb c2
            have c3 := cell_keep hb c3
            have c4 := cell_keep hb c4
            have c5 := cell_keep hb c5
            have HBW := Lib.hid (HB.out.trans (hb.mono HB.out.size))
            clear hb
            go_wp2
            go_quiet (fail)
            go_wp2
            go_ret
            exact ⟨rfl, below_drewN HBW.out _⟩
        · have r0 := NO4.out e2
          subst r0
          have b2 : ((nh : Int) != 0) = true := by rw [bne_iff_ne]; exact e2
          go_enter Try.func31, Try.ntmps31
          go_wp2
          rw [← hW0]
          clear hW0
          refine wp_region_sub (by kernel_rfl) (by kernel_rfl) ?_
          repeat (go_big_quiet_step (with_reducible (first | exact Calls.sub_same (v := .bool true) (fun W _ => K.out W) | exact Calls.sub (v := .agg #[.int .i64 0, .int .i64 0, .int .i64 0]) (fun W _ => EM.out W) | exact Calls.sub (v := .bool true) (fun W _ => HH.out W))))
          refine wpQuiet_nil ?_
          rintro w2 ⟨xs, hxs⟩
          have hb2 : Below W0.heap.size W0 w2 := by rw [hxs]; exact xs.b
          clear hxs xs z0 z1 z2 z3 z4 z5
          have c0 := cell_keep hb2 c0
          have c1 := cell_keep hb2 c1
          have c2 := cell_keep hb2 c2
          have c3 := cell_keep hb2 c3
          have c4 := cell_keep hb2 c4
          have c5 := cell_keep hb2 c5
          have HB := Lib.hid (HB.out.trans (hb2.mono HB.out.size))
          have HRB := Lib.hid (HRB.out.below hb2)
          have HRV := Lib.hid (HRV.out.below hb2)
          clear hb2
          go_wp2
          go_ret
          exact ⟨rfl, HB.out⟩
      · have r0 := NO3.out e1
        subst r0
        have b1 : ((nb : Int) != 0) = true := by rw [bne_iff_ne]; exact e1
        go_enter Try.func31, Try.ntmps31
        go_wp2
        rw [← hW0]
        clear hW0
        refine wp_region_sub (by kernel_rfl) (by kernel_rfl) ?_
        repeat (go_big_quiet_step (with_reducible (first | exact Calls.sub_same (v := .bool true) (fun W _ => K.out W) | exact Calls.sub (v := .agg #[.int .i64 0, .int .i64 0, .int .i64 0]) (fun W _ => EM.out W) | exact Calls.sub (v := .bool true) (fun W _ => HH.out W))))
        refine wpQuiet_nil ?_
        rintro w2 ⟨xs, hxs⟩
        have hb2 : Below W0.heap.size W0 w2 := by rw [hxs]; exact xs.b
        clear hxs xs z0 z1 z2 z3 z4 z5
        have c0 := cell_keep hb2 c0
        have c1 := cell_keep hb2 c1
        have c2 := cell_keep hb2 c2
        have c3 := cell_keep hb2 c3
        have c4 := cell_keep hb2 c4
        have c5 := cell_keep hb2 c5
        have HB := Lib.hid (HB.out.trans (hb2.mono HB.out.size))
        have HRB := Lib.hid (HRB.out.below hb2)
        have HRV := Lib.hid (HRV.out.below hb2)
        clear hb2
        go_wp2
        go_ret
        exact ⟨rfl, HB.out⟩
    · cases q
      · have r0 := NO2.out rfl (fun g => h1 g.1)
        subst r0
        go_enter Try.func31, Try.ntmps31
        go_wp2
        rw [← hW0]
        clear hW0
        refine wp_region_sub (by kernel_rfl) (by kernel_rfl) ?_
        repeat (go_big_quiet_step (with_reducible (first | exact Calls.sub_same (v := .bool true) (fun W _ => K.out W) | exact Calls.sub (v := .agg #[.int .i64 0, .int .i64 0, .int .i64 0]) (fun W _ => EM.out W) | exact Calls.sub (v := .bool false) (fun W _ => HH.out W))))
        refine wpQuiet_nil ?_
        rintro w2 ⟨xs, hxs⟩
        have hb2 : Below W0.heap.size W0 w2 := by rw [hxs]; exact xs.b
        clear hxs xs z0 z1 z2 z3 z4 z5
        have c0 := cell_keep hb2 c0
        have c1 := cell_keep hb2 c1
        have c2 := cell_keep hb2 c2
        have c3 := cell_keep hb2 c3
        have c4 := cell_keep hb2 c4
        have c5 := cell_keep hb2 c5
        have HB := Lib.hid (HB.out.trans (hb2.mono HB.out.size))
        have HRB := Lib.hid (HRB.out.below hb2)
        have HRV := Lib.hid (HRV.out.below hb2)
        clear hb2
        go_wp2
        go_ret
        exact ⟨rfl, HB.out⟩
      · by_cases e1 : (nb : Int) = len
        · have b1 : ((nb : Int) != len) = false := by rw [bne_eq_false_iff_eq]; exact e1
          by_cases e2 : (nh : Int) = len
          · have b2 : ((nh : Int) != len) = false := by rw [bne_eq_false_iff_eq]; exact e2
            have HG := Lib.hid (SMALL.out (Or.inr rfl))
            have YES2 := Lib.hid (fun b => YES.out b HK.out (Or.inr rfl))
            go_enter Try.func31, Try.ntmps31
            go_wp2
            rw [← hW0]
            clear hW0
            refine wp_region_sub (by kernel_rfl) (by kernel_rfl) ?_
            repeat (go_big_quiet_step (with_reducible (first | exact Calls.sub_same (v := .bool true) (fun W _ => K.out W) | exact Calls.sub (v := .agg #[.int .i64 0, .int .i64 0, .int .i64 0]) (fun W _ => EM.out W) | exact Calls.sub (v := .bool true) (fun W _ => HH.out W))))
            refine wpQuiet_nil ?_
            rintro w2 ⟨xs, hxs⟩
            have hb2 : Below W0.heap.size W0 w2 := by rw [hxs]; exact xs.b
            clear hxs xs z0 z1 z2 z3 z4 z5
            have c0 := cell_keep hb2 c0
            have c1 := cell_keep hb2 c1
            have c2 := cell_keep hb2 c2
            have c3 := cell_keep hb2 c3
            have c4 := cell_keep hb2 c4
            have c5 := cell_keep hb2 c5
            have HB := Lib.hid (HB.out.trans (hb2.mono HB.out.size))
            have HRB := Lib.hid (HRB.out.below hb2)
            have HRV := Lib.hid (HRV.out.below hb2)
            clear hb2
            go_wp2
            clear HH NO2 SMALL YES
            obtain rfl : nb = nh := by omega
            have hn := HG.out (by omega)
            have YES3 := Lib.hid (fun b h5 h6 => YES2.out b (by omega) (by omega) h5 h6)
            have HCB := Lib.hid (rd_cells HRB.out)
            have HCV := Lib.hid (rd_cells HRV.out)
            clear HG YES2 NO3 NO4
            have hz : ¬ nb = 0 := by omega
            go_loopw [3] (fun i wr => ∃ k : Nat, k ≤ nb ∧ i = .int .i64 k ∧ (∀ j, j < k → bok j) ∧ Below w2.heap.size w2 wr) (fun i _ => nb - (intOf i).toNat)
            case atStart => exact ⟨0, Nat.zero_le _, rfl, fun j hj => absurd hj (Nat.not_lt_zero _), Below.refl _ _⟩
            case round =>
              obtain ⟨k, hk, rfl, hp, hb⟩ := hrel
              have HP := Lib.hid hp
              have c0 := cell_keep hb c0
              have c1 := cell_keep hb c1
              have c2 := cell_keep hb c2
              have c3 := cell_keep hb c3
              have c4 := cell_keep hb c4
              have c5 := cell_keep hb c5
              clear hp
              by_cases hlt : k < nb
              · obtain ⟨b1, o1, rfl, hc1⟩ := HCB.out (by omega)
                obtain ⟨b2, o2, rfl, hc2⟩ := HCV.out (by omega)
                have d1 := cell_keep hb (hc1 k _ (encS_at bs k (by rw [HNB.out trivial]; exact hlt)))
                have d2 := cell_keep hb (hc2 k _ (encB_at hv k (by rw [HNH.out trivial]; exact hlt)))
                have HX := Lib.hid (HBOK.out k)
                have HBW := Lib.hid (HB.out.trans (hb.mono HB.out.size))
                have HLT := Lib.hid (NO5.out k hlt)
                generalize bs.getD k ByteArray.empty = s at *
                generalize hv.getD k false = h at *
                clear hc1 hc2 HCB HCV HBOK NO5 YES3
                have hb0 := Lib.hid hb
                clear hb
                by_cases h8 : 8 < (s.size : Int)
                · go_wp2
                  go_ret
                  exact ⟨ret_bb (HLT.out (fun g => bok_no1 h8 (HX.out.1 g))).symm, HBW.out⟩
                · have h8' : (s.size : Int) ≤ 8 := by omega
                  cases h
                  · cases he : s.toList.isEmpty
                    · go_wp2
                      go_ret
                      exact ⟨ret_bb (HLT.out (fun g => bok_no2 he (HX.out.1 g))).symm, HBW.out⟩
                    · have H8 := Lib.hid (bok_yes2 h8' he)
                      go_wp2
                      go_roundw
                      case rel => exact ⟨k + 1, by omega, by go_num, all_snoc HP.out (HX.out.2 H8.out), hb0.out⟩
                      case measure => simp [intOf]; omega
                  · have H8 := Lib.hid (bok_yes1 h8')
                    go_wp2
                    go_roundw
                    case rel => exact ⟨k + 1, by omega, by go_num, all_snoc HP.out (HX.out.2 H8.out), hb0.out⟩
                    case measure => simp [intOf]; omega
              · have HALL := Lib.hid (show ∀ i, i < nb → bok i from fun i hi => HP.out i (by omega))
                have HBW := Lib.hid (HB.out.trans (hb.mono HB.out.size))
                have HBr := Lib.hid (HRB.out.below hb)
                have HVr := Lib.hid (HRV.out.below hb)
                have h16 : hv.length ≤ 16 := by rw [HNH.out trivial]; exact hn
                have b16 : bs.length ≤ 16 := by rw [HNB.out trivial]; exact hn
                have H16 := Lib.hid h16
                have B16 := Lib.hid b16
                have SZ := Lib.hid (show ∀ i, i < bs.length → (bs.getD i ByteArray.empty).size ≤ 8 from fun i hi => ((HBOK.out i).1 (HALL.out i (by rw [← HNB.out trivial]; exact hi))).1)
                have n1 : ((nb : Int) == 0) = false := by rw [beq_eq_false_iff_ne]; omega
                have n2 : (len == 0) = false := by rw [beq_eq_false_iff_ne]; omega
                clear HP hb HCB HCV HRB HRV h16 b16
                cases hwh : decide (cnt hv = hv.length)
                · have r0 := YES3.out true HALL.out (by rw [eq_self_iff_true, iff_true]; exact Or.inr (Or.inl (of_decide_eq_false hwh)))
                  subst r0
                  go_wp2
                  have z0 := fun (x : Sub wr) => x.cell c0
                  have z1 := fun (x : Sub wr) => x.cell c1
                  have z2 := fun (x : Sub wr) => x.cell c2
                  have z3 := fun (x : Sub wr) => x.cell c3
                  have z4 := fun (x : Sub wr) => x.cell c4
                  have z5 := fun (x : Sub wr) => x.cell c5
                  have WH := Lib.hid (fun (W : World) (hW : Below wr.heap.size wr W) => (show Calls _ _ _ _ (fun e w' => e = .returned (.bool false) ∧ Below W.heap.size W w') from hwh ▸ l11Whole_c pub len dig sign (.slice ab nb capb) (.slice ah nb caph) hv W (by rw [HNH.out trivial]; exact HVr.out.below hW) H16.out))
                  refine wp_region_sub (by kernel_rfl) (by kernel_rfl) ?_
                  repeat (go_big_quiet_step (with_reducible (exact Calls.sub (v := .bool false) WH.out)))
                  refine wpQuiet_nil ?_
                  rintro _ ⟨xs, rfl⟩
                  have HX := Lib.hid (HBW.out.trans (xs.b.mono HBW.out.size))
                  go_wp2
                  go_ret
                  exact ⟨rfl, HX.out⟩
                · have HE := Lib.hid (YES3.out (digest (bs.map txt) == dig) HALL.out (by rw [beq_iff_eq]; exact ⟨fun g => g.elim (fun g => absurd g hz) (fun g => g.elim (fun g => absurd (of_decide_eq_true hwh) g) id), fun g => Or.inr (Or.inr g)⟩))
                  have WH := Lib.hid (fun (W : World) (hW : Below wr.heap.size wr W) => (show Calls _ _ _ _ (fun e w' => e = .returned (.bool true) ∧ Below W.heap.size W w') from hwh ▸ l11Whole_c pub len dig sign (.slice ab nb capb) (.slice ah nb caph) hv W (by rw [HNH.out trivial]; exact HVr.out.below hW) H16.out))
                  have LH := Lib.hid (fun (W : World) (hW : Below wr.heap.size wr W) => l11Leaves_c (.slice ab nb capb) bs W (by rw [HNB.out trivial]; exact HBr.out.below hW) B16.out SZ.out)
                  have DH := Lib.hid (fun v W (hW : Rd 1 W v (bs.map txt).length (enc1 (bs.map txt))) => specDigest_c v (bs.map txt) W hW (fun x hx => by obtain ⟨y, -, rfl⟩ := List.mem_map.1 hx; exact txt_in y) (by rw [List.length_map]; exact B16.out))
                  clear YES3 HALL SZ HBr HVr H16 B16 HBOK NO5
                  go_wp2
                  go_region_held3 (fun w' => w'.cell? ⟨w.heap.size, 0, none⟩ = some (.int .i64 pub) ∧ w'.cell? ⟨w.heap.size, 1, none⟩ = some (.int .i64 len) ∧ w'.cell? ⟨w.heap.size, 2, none⟩ = some (.int .i64 dig) ∧ w'.cell? ⟨w.heap.size, 3, none⟩ = some (.int .i64 sign) ∧ w'.cell? ⟨w.heap.size, 4, none⟩ = some (.slice ab nb capb) ∧ w'.cell? ⟨w.heap.size, 5, none⟩ = some (.slice ah nb caph)) (first | exact ⟨i0, i1, i2, i3, i4, i5⟩ | exact ⟨g0, g1, g2, g3, g4, g5⟩ | exact ⟨e0, e1, e2, e3, e4, e5⟩ | exact ⟨c0, c1, c2, c3, c4, c5⟩) ((first
                    | ((with_reducible refine (WH.out _ (Below.refl _ _).drew).mono ?_); rintro e w7 ⟨rfl, hb7⟩; have BW7 := Lib.hid ((Below.refl wr.heap.size wr).drew.trans hb7); have e0 := cell_keep BW7.out c0; have e1 := cell_keep BW7.out c1; have e2 := cell_keep BW7.out c2; have e3 := cell_keep BW7.out c3; have e4 := cell_keep BW7.out c4; have e5 := cell_keep BW7.out c5; clear hb7)
                    | ((with_reducible refine (LH.out _ BW7.out).mono ?_); rintro e w8 ⟨v8, rfl, hown8, hb8⟩; have BW8 := Lib.hid (BW7.out.trans (hb8.mono BW7.out.size)); have HV8 := Lib.hid (Rd.of_own hown8); have g0 := cell_keep hb8 e0; have g1 := cell_keep hb8 e1; have g2 := cell_keep hb8 e2; have g3 := cell_keep hb8 e3; have g4 := cell_keep hb8 e4; have g5 := cell_keep hb8 e5; clear hb8 hown8)
                    | ((with_reducible refine (DH.out _ _ HV8.out).mono ?_); rintro e w9 ⟨rfl, hb9⟩; have BW9 := Lib.hid (BW8.out.trans (hb9.mono BW8.out.size)); have i0 := cell_keep hb9 g0; have i1 := cell_keep hb9 g1; have i2 := cell_keep hb9 g2; have i3 := cell_keep hb9 g3; have i4 := cell_keep hb9 g4; have i5 := cell_keep hb9 g5; clear hb9)))
                  go_wp2
                  go_ret
                  exact ⟨ret_bb HE.out.symm, HBW.out.trans (BW9.out.mono HBW.out.size)⟩
          · have r0 := NO4.out e2
            subst r0
            have b2 : ((nh : Int) != len) = true := by rw [bne_iff_ne]; exact e2
            go_enter Try.func31, Try.ntmps31
            go_wp2
            rw [← hW0]
            clear hW0
            refine wp_region_sub (by kernel_rfl) (by kernel_rfl) ?_
            repeat (go_big_quiet_step (with_reducible (first | exact Calls.sub_same (v := .bool true) (fun W _ => K.out W) | exact Calls.sub (v := .agg #[.int .i64 0, .int .i64 0, .int .i64 0]) (fun W _ => EM.out W) | exact Calls.sub (v := .bool true) (fun W _ => HH.out W))))
            refine wpQuiet_nil ?_
            rintro w2 ⟨xs, hxs⟩
            have hb2 : Below W0.heap.size W0 w2 := by rw [hxs]; exact xs.b
            clear hxs xs z0 z1 z2 z3 z4 z5
            have c0 := cell_keep hb2 c0
            have c1 := cell_keep hb2 c1
            have c2 := cell_keep hb2 c2
            have c3 := cell_keep hb2 c3
            have c4 := cell_keep hb2 c4
            have c5 := cell_keep hb2 c5
            have HB := Lib.hid (HB.out.trans (hb2.mono HB.out.size))
            have HRB := Lib.hid (HRB.out.below hb2)
            have HRV := Lib.hid (HRV.out.below hb2)
            clear hb2
            go_wp2
            go_ret
            exact ⟨rfl, HB.out⟩
        · have r0 := NO3.out e1
          subst r0
          have b1 : ((nb : Int) != len) = true := by rw [bne_iff_ne]; exact e1
          go_enter Try.func31, Try.ntmps31
          go_wp2
          rw [← hW0]
          clear hW0
          refine wp_region_sub (by kernel_rfl) (by kernel_rfl) ?_
          repeat (go_big_quiet_step (with_reducible (first | exact Calls.sub_same (v := .bool true) (fun W _ => K.out W) | exact Calls.sub (v := .agg #[.int .i64 0, .int .i64 0, .int .i64 0]) (fun W _ => EM.out W) | exact Calls.sub (v := .bool true) (fun W _ => HH.out W))))
          refine wpQuiet_nil ?_
          rintro w2 ⟨xs, hxs⟩
          have hb2 : Below W0.heap.size W0 w2 := by rw [hxs]; exact xs.b
          clear hxs xs z0 z1 z2 z3 z4 z5
          have c0 := cell_keep hb2 c0
          have c1 := cell_keep hb2 c1
          have c2 := cell_keep hb2 c2
          have c3 := cell_keep hb2 c3
          have c4 := cell_keep hb2 c4
          have c5 := cell_keep hb2 c5
          have HB := Lib.hid (HB.out.trans (hb2.mono HB.out.size))
          have HRB := Lib.hid (HRB.out.below hb2)
          have HRV := Lib.hid (HRV.out.below hb2)
          clear hb2
          go_wp2
          go_ret
          exact ⟨rfl, HB.out⟩
    · cases q
      · have r0 := NO2.out rfl (fun g => h1 g.2.1)
        subst r0
        go_enter Try.func31, Try.ntmps31
        go_wp2
        rw [← hW0]
        clear hW0
        refine wp_region_sub (by kernel_rfl) (by kernel_rfl) ?_
        repeat (go_big_quiet_step (with_reducible (first | exact Calls.sub_same (v := .bool true) (fun W _ => K.out W) | exact Calls.sub (v := .agg #[.int .i64 0, .int .i64 0, .int .i64 0]) (fun W _ => EM.out W) | exact Calls.sub (v := .bool false) (fun W _ => HH.out W))))
        refine wpQuiet_nil ?_
        rintro w2 ⟨xs, hxs⟩
        have hb2 : Below W0.heap.size W0 w2 := by rw [hxs]; exact xs.b
        clear hxs xs z0 z1 z2 z3 z4 z5
        have c0 := cell_keep hb2 c0
        have c1 := cell_keep hb2 c1
        have c2 := cell_keep hb2 c2
        have c3 := cell_keep hb2 c3
        have c4 := cell_keep hb2 c4
        have c5 := cell_keep hb2 c5
        have HB := Lib.hid (HB.out.trans (hb2.mono HB.out.size))
        have HRB := Lib.hid (HRB.out.below hb2)
        have HRV := Lib.hid (HRV.out.below hb2)
        clear hb2
        go_wp2
        go_ret
        exact ⟨rfl, HB.out⟩
      · by_cases e1 : (nb : Int) = 0
        · have b1 : ((nb : Int) != 0) = false := by rw [bne_eq_false_iff_eq]; exact e1
          by_cases e2 : (nh : Int) = 0
          · have b2 : ((nh : Int) != 0) = false := by rw [bne_eq_false_iff_eq]; exact e2
            have HG := Lib.hid (SMALL.out (Or.inr rfl))
            have YES2 := Lib.hid (fun b => YES.out b HK.out (Or.inr rfl))
            go_enter Try.func31, Try.ntmps31
            go_wp2
            rw [← hW0]
            clear hW0
            refine wp_region_sub (by kernel_rfl) (by kernel_rfl) ?_
            repeat (go_big_quiet_step (with_reducible (first | exact Calls.sub_same (v := .bool true) (fun W _ => K.out W) | exact Calls.sub (v := .agg #[.int .i64 0, .int .i64 0, .int .i64 0]) (fun W _ => EM.out W) | exact Calls.sub (v := .bool true) (fun W _ => HH.out W))))
            refine wpQuiet_nil ?_
            rintro w2 ⟨xs, hxs⟩
            have hb2 : Below W0.heap.size W0 w2 := by rw [hxs]; exact xs.b
            clear hxs xs z0 z1 z2 z3 z4 z5
            have c0 := cell_keep hb2 c0
            have c1 := cell_keep hb2 c1
            have c2 := cell_keep hb2 c2
            have c3 := cell_keep hb2 c3
            have c4 := cell_keep hb2 c4
            have c5 := cell_keep hb2 c5
            have HB := Lib.hid (HB.out.trans (hb2.mono HB.out.size))
            have HRB := Lib.hid (HRB.out.below hb2)
            have HRV := Lib.hid (HRV.out.below hb2)
            clear hb2
            go_wp2
            clear HH NO2 SMALL YES
            obtain rfl : nb = nh := by omega
            have hn := HG.out (by omega)
            have YES3 := Lib.hid (fun b h5 h6 => YES2.out b (by omega) (by omega) h5 h6)
            have HCB := Lib.hid (rd_cells HRB.out)
            have HCV := Lib.hid (rd_cells HRV.out)
            clear HG YES2 NO3 NO4
            have hz : nb = 0 := by omega
            have r0 := YES3.out true (fun i hi => absurd hi (by omega)) (by rw [eq_self_iff_true, iff_true]; exact Or.inl hz)
            clear YES3 NO5 HBOK HCB HCV HRB HRV
            subst r0
            go_loopw [3] (fun i wr => i = .int .i64 0 ∧ Below w2.heap.size w2 wr) (fun i _ => 0)
            case atStart => exact ⟨rfl, Below.refl _ _⟩
            case round =>
              obtain ⟨rfl, hb⟩ := hrel
              have c0 := cell_keep hb c0
              have c1 := cell_keep hb c1
              have c2 := cell_keep hb c2
              have c3 := cell_keep hb c3
              have c4 := cell_keep hb c4
              have c5 := cell_keep hb c5
              have HBW := Lib.hid (HB.out.trans (hb.mono HB.out.size))
              clear hb
              go_wp2
              go_quiet (fail)
              go_wp2
              go_ret
              exact ⟨rfl, below_drewN HBW.out _⟩
          · have r0 := NO4.out e2
            subst r0
            have b2 : ((nh : Int) != 0) = true := by rw [bne_iff_ne]; exact e2
            go_enter Try.func31, Try.ntmps31
            go_wp2
            rw [← hW0]
            clear hW0
            refine wp_region_sub (by kernel_rfl) (by kernel_rfl) ?_
            repeat (go_big_quiet_step (with_reducible (first | exact Calls.sub_same (v := .bool true) (fun W _ => K.out W) | exact Calls.sub (v := .agg #[.int .i64 0, .int .i64 0, .int .i64 0]) (fun W _ => EM.out W) | exact Calls.sub (v := .bool true) (fun W _ => HH.out W))))
            refine wpQuiet_nil ?_
            rintro w2 ⟨xs, hxs⟩
            have hb2 : Below W0.heap.size W0 w2 := by rw [hxs]; exact xs.b
            clear hxs xs z0 z1 z2 z3 z4 z5
            have c0 := cell_keep hb2 c0
            have c1 := cell_keep hb2 c1
            have c2 := cell_keep hb2 c2
            have c3 := cell_keep hb2 c3
            have c4 := cell_keep hb2 c4
            have c5 := cell_keep hb2 c5
            have HB := Lib.hid (HB.out.trans (hb2.mono HB.out.size))
            have HRB := Lib.hid (HRB.out.below hb2)
            have HRV := Lib.hid (HRV.out.below hb2)
            clear hb2
            go_wp2
            go_ret
            exact ⟨rfl, HB.out⟩
        · have r0 := NO3.out e1
          subst r0
          have b1 : ((nb : Int) != 0) = true := by rw [bne_iff_ne]; exact e1
          go_enter Try.func31, Try.ntmps31
          go_wp2
          rw [← hW0]
          clear hW0
          refine wp_region_sub (by kernel_rfl) (by kernel_rfl) ?_
          repeat (go_big_quiet_step (with_reducible (first | exact Calls.sub_same (v := .bool true) (fun W _ => K.out W) | exact Calls.sub (v := .agg #[.int .i64 0, .int .i64 0, .int .i64 0]) (fun W _ => EM.out W) | exact Calls.sub (v := .bool true) (fun W _ => HH.out W))))
          refine wpQuiet_nil ?_
          rintro w2 ⟨xs, hxs⟩
          have hb2 : Below W0.heap.size W0 w2 := by rw [hxs]; exact xs.b
          clear hxs xs z0 z1 z2 z3 z4 z5
          have c0 := cell_keep hb2 c0
          have c1 := cell_keep hb2 c1
          have c2 := cell_keep hb2 c2
          have c3 := cell_keep hb2 c3
          have c4 := cell_keep hb2 c4
          have c5 := cell_keep hb2 c5
          have HB := Lib.hid (HB.out.trans (hb2.mono HB.out.size))
          have HRB := Lib.hid (HRB.out.below hb2)
          have HRV := Lib.hid (HRV.out.below hb2)
          clear hb2
          go_wp2
          go_ret
          exact ⟨rfl, HB.out⟩
    · cases q
      · have r0 := NO2.out rfl (fun g => h1 g.2.2)
        subst r0
        go_enter Try.func31, Try.ntmps31
        go_wp2
        rw [← hW0]
        clear hW0
        refine wp_region_sub (by kernel_rfl) (by kernel_rfl) ?_
        repeat (go_big_quiet_step (with_reducible (first | exact Calls.sub_same (v := .bool true) (fun W _ => K.out W) | exact Calls.sub (v := .agg #[.int .i64 0, .int .i64 0, .int .i64 0]) (fun W _ => EM.out W) | exact Calls.sub (v := .bool false) (fun W _ => HH.out W))))
        refine wpQuiet_nil ?_
        rintro w2 ⟨xs, hxs⟩
        have hb2 : Below W0.heap.size W0 w2 := by rw [hxs]; exact xs.b
        clear hxs xs z0 z1 z2 z3 z4 z5
        have c0 := cell_keep hb2 c0
        have c1 := cell_keep hb2 c1
        have c2 := cell_keep hb2 c2
        have c3 := cell_keep hb2 c3
        have c4 := cell_keep hb2 c4
        have c5 := cell_keep hb2 c5
        have HB := Lib.hid (HB.out.trans (hb2.mono HB.out.size))
        have HRB := Lib.hid (HRB.out.below hb2)
        have HRV := Lib.hid (HRV.out.below hb2)
        clear hb2
        go_wp2
        go_ret
        exact ⟨rfl, HB.out⟩
      · by_cases e1 : (nb : Int) = 0
        · have b1 : ((nb : Int) != 0) = false := by rw [bne_eq_false_iff_eq]; exact e1
          by_cases e2 : (nh : Int) = 0
          · have b2 : ((nh : Int) != 0) = false := by rw [bne_eq_false_iff_eq]; exact e2
            have HG := Lib.hid (SMALL.out (Or.inr rfl))
            have YES2 := Lib.hid (fun b => YES.out b HK.out (Or.inr rfl))
            go_enter Try.func31, Try.ntmps31
            go_wp2
            rw [← hW0]
            clear hW0
            refine wp_region_sub (by kernel_rfl) (by kernel_rfl) ?_
            repeat (go_big_quiet_step (with_reducible (first | exact Calls.sub_same (v := .bool true) (fun W _ => K.out W) | exact Calls.sub (v := .agg #[.int .i64 0, .int .i64 0, .int .i64 0]) (fun W _ => EM.out W) | exact Calls.sub (v := .bool true) (fun W _ => HH.out W))))
            refine wpQuiet_nil ?_
            rintro w2 ⟨xs, hxs⟩
            have hb2 : Below W0.heap.size W0 w2 := by rw [hxs]; exact xs.b
            clear hxs xs z0 z1 z2 z3 z4 z5
            have c0 := cell_keep hb2 c0
            have c1 := cell_keep hb2 c1
            have c2 := cell_keep hb2 c2
            have c3 := cell_keep hb2 c3
            have c4 := cell_keep hb2 c4
            have c5 := cell_keep hb2 c5
            have HB := Lib.hid (HB.out.trans (hb2.mono HB.out.size))
            have HRB := Lib.hid (HRB.out.below hb2)
            have HRV := Lib.hid (HRV.out.below hb2)
            clear hb2
            go_wp2
            clear HH NO2 SMALL YES
            obtain rfl : nb = nh := by omega
            have hn := HG.out (by omega)
            have YES3 := Lib.hid (fun b h5 h6 => YES2.out b (by omega) (by omega) h5 h6)
            have HCB := Lib.hid (rd_cells HRB.out)
            have HCV := Lib.hid (rd_cells HRV.out)
            clear HG YES2 NO3 NO4
            have hz : nb = 0 := by omega
            have r0 := YES3.out true (fun i hi => absurd hi (by omega)) (by rw [eq_self_iff_true, iff_true]; exact Or.inl hz)
            clear YES3 NO5 HBOK HCB HCV HRB HRV
            subst r0
            go_loopw [3] (fun i wr => i = .int .i64 0 ∧ Below w2.heap.size w2 wr) (fun i _ => 0)
            case atStart => exact ⟨rfl, Below.refl _ _⟩
            case round =>
              obtain ⟨rfl, hb⟩ := hrel
              have c0 := cell_keep hb c0
              have c1 := cell_keep hb c1
              have c2 := cell_keep hb c2
              have c3 := cell_keep hb c3
              have c4 := cell_keep hb c4
              have c5 := cell_keep hb c5
              have HBW := Lib.hid (HB.out.trans (hb.mono HB.out.size))
              clear hb
              go_wp2
              go_quiet (fail)
              go_wp2
              go_ret
              exact ⟨rfl, below_drewN HBW.out _⟩
          · have r0 := NO4.out e2
            subst r0
            have b2 : ((nh : Int) != 0) = true := by rw [bne_iff_ne]; exact e2
            go_enter Try.func31, Try.ntmps31
            go_wp2
            rw [← hW0]
            clear hW0
            refine wp_region_sub (by kernel_rfl) (by kernel_rfl) ?_
            repeat (go_big_quiet_step (with_reducible (first | exact Calls.sub_same (v := .bool true) (fun W _ => K.out W) | exact Calls.sub (v := .agg #[.int .i64 0, .int .i64 0, .int .i64 0]) (fun W _ => EM.out W) | exact Calls.sub (v := .bool true) (fun W _ => HH.out W))))
            refine wpQuiet_nil ?_
            rintro w2 ⟨xs, hxs⟩
            have hb2 : Below W0.heap.size W0 w2 := by rw [hxs]; exact xs.b
            clear hxs xs z0 z1 z2 z3 z4 z5
            have c0 := cell_keep hb2 c0
            have c1 := cell_keep hb2 c1
            have c2 := cell_keep hb2 c2
            have c3 := cell_keep hb2 c3
            have c4 := cell_keep hb2 c4
            have c5 := cell_keep hb2 c5
            have HB := Lib.hid (HB.out.trans (hb2.mono HB.out.size))
            have HRB := Lib.hid (HRB.out.below hb2)
            have HRV := Lib.hid (HRV.out.below hb2)
            clear hb2
            go_wp2
            go_ret
            exact ⟨rfl, HB.out⟩
        · have r0 := NO3.out e1
          subst r0
          have b1 : ((nb : Int) != 0) = true := by rw [bne_iff_ne]; exact e1
          go_enter Try.func31, Try.ntmps31
          go_wp2
          rw [← hW0]
          clear hW0
          refine wp_region_sub (by kernel_rfl) (by kernel_rfl) ?_
          repeat (go_big_quiet_step (with_reducible (first | exact Calls.sub_same (v := .bool true) (fun W _ => K.out W) | exact Calls.sub (v := .agg #[.int .i64 0, .int .i64 0, .int .i64 0]) (fun W _ => EM.out W) | exact Calls.sub (v := .bool true) (fun W _ => HH.out W))))
          refine wpQuiet_nil ?_
          rintro w2 ⟨xs, hxs⟩
          have hb2 : Below W0.heap.size W0 w2 := by rw [hxs]; exact xs.b
          clear hxs xs z0 z1 z2 z3 z4 z5
          have c0 := cell_keep hb2 c0
          have c1 := cell_keep hb2 c1
          have c2 := cell_keep hb2 c2
          have c3 := cell_keep hb2 c3
          have c4 := cell_keep hb2 c4
          have c5 := cell_keep hb2 c5
          have HB := Lib.hid (HB.out.trans (hb2.mono HB.out.size))
          have HRB := Lib.hid (HRB.out.below hb2)
          have HRV := Lib.hid (HRV.out.below hb2)
          clear hb2
          go_wp2
          go_ret
          exact ⟨rfl, HB.out⟩
end Go.Proofs.Ytbjndbaljenlgaa
