/- The walk of the law FnFeedValidWhole. -/
import Derived.Test.YtbjndbaljenlgaaLFb
namespace Go.Proofs.Ytbjndbaljenlgaa
open Go.RowKit
set_option linter.unusedSimpArgs false
theorem leavesOf_c (vb : Value) (bs : List ByteArray) (w : World) (h : Rd 1 w vb bs.length (encS bs)) (hn : bs.length ≤ 16) (hs : ∀ i, i < bs.length → (bs.getD i ByteArray.empty).size ≤ 8) :
    Calls Try.prog 40 #[vb] w (RetOwn 3 1 (bs.map txt).length (enc1 (bs.map txt)) w) := by
  obtain ⟨-, a, cap, rfl, h1, h2, h3⟩ := h
  unfold maxLen at h2
  have HC := Lib.hid h3
  have HS := Lib.hid hs
  clear h3 hs
  go_enter Try.func40, Try.ntmps40
  go_wp2
  go_loopw [3, 4] (fun o i wr => ∃ (k : Nat) (rs : List Int), k ≤ bs.length ∧ i = .int .i64 k ∧ rs.length ≤ k ∧ Hid (rs = (bs.take k).map txt) ∧ wr.ownsRow w.heap.size 3 1 o rs.length (enc1 rs) ∧ Below w.heap.size w wr) (fun _ i _ => bs.length - (intOf i).toNat)
  case atStart => exact ⟨0, [], Nat.zero_le _, rfl, Nat.zero_le _, Lib.hid rfl, own_empty _ _ _ 1 (Nat.le_refl _), by (repeat' (first | exact Below.refl _ _ | assumption | refine Below.drew ?_ | refine below_drewN ?_ _ | refine Below.alloc ?_ (by omega) _ | refine Below.alloc ?_ (by simp; omega) _ | refine Below.alloc ?_ (by simp) _ | refine Below.setCell ?_ (by omega) _ | refine Below.setCell ?_ (by simp; omega) _ | refine Below.setCell ?_ (by simp) _))⟩
  case round =>
    obtain ⟨k, rs, hk, rfl, hrl, HR, hown, hb⟩ := hrel
    have hsz := hb.size
    by_cases hlt : k < bs.length
    · obtain ⟨b, off, rfl, hc⟩ := HC.out (by omega)
      have c1 := cell_keep hb (hc k _ (encS_at bs k hlt))
      have hsz8 := HS.out k hlt
      have HT := Lib.hid (txts_take bs k hlt)
      generalize bs.getD k ByteArray.empty = s at *
      have TC := Lib.hid (fun W => text_c s W (by omega))
      clear hc HC hsz8
      generalize txt s = t at *
      go_wp2_with fail
      refine (TC.out _).mono ?_
      rintro e w2 ⟨rfl, rfl⟩
      go_wp2_with (at_builtin; refine wpList_app1 _ rfl _ _ 48 rfl w.heap.size 3 Try.underlying48 info_int _ rs rfl hown _ _ _ rfl (by omega) hsz ?_)
      intro v' w4 qs hqs hql hown4 hg4
      have hb4 := hb.grown hg4 hsz (fun k hk => (hown.lt k hk).1)
      have HQ4 := Lib.hid (show qs = (bs.take (k + 1)).map txt by rw [hqs.out, HR.out, HT.out])
      clear hown hb hg4 hqs HR HT
      go_wp2
      go_roundw
      case rel => exact ⟨k + 1, qs, by omega, by go_num, by omega, HQ4, hown4, hb4⟩
      case measure => simp [intOf]; omega
    · have e : rs = bs.map txt := by have := HR.out; rwa [List.take_of_length_le (by omega)] at this
      subst e
      go_wp2
      go_ret
      exact ⟨_, rfl, hown, hb⟩
set_option maxRecDepth 100000 in
set_option maxHeartbeats 3200000 in
theorem lawFnFeedValidWhole_c (w : World) (v : Value) (n : Nat) (h : RdB w v n) : Calls Try.prog 10 #[v] w fun e w' => e = .returned (.bool true) ∧ Below w.heap.size w w' := by
  have H := Lib.hid h
  obtain ⟨a, cap, rfl, h1, h2, h3⟩ := h
  unfold maxLen at h2
  clear h3
  by_cases hl : (n : Int) > 1048576
  · go_enter Try.func10, Try.ntmps10
    go_wp2
    go_ret
    exact ⟨rfl, Below.refl _ _⟩
  · go_enter Try.func10, Try.ntmps10
    go_wp2_with fail
    refine (drawFeedValid_c _ n _ H.out).mono ?_
    rintro e w1 ⟨f, vb, vh, rfl, k1, k2, hbn, hhn, -, hb1⟩
    obtain ⟨a1, c1, rfl, g1, g2⟩ := k1.shape
    obtain ⟨a2, c2, rfl, g3, g4⟩ := k2.shape
    have IMP := Lib.hid (fun W (hW : Below w1.heap.size w1 W) => impFv_c f _ _ W (k1.below hW).rd (k2.below hW).rd)
    have SPC := Lib.hid (fun W (hW : Below w1.heap.size w1 W) => specFv_c f _ _ W (k1.below hW).rd (k2.below hW).rd)
    have FVF := Lib.hid (fun h : fv f = true => fv_iff.1 h)
    have K1 := Lib.hid (fun W (hW : Below w1.heap.size w1 W) => k1.below hW)
    have K2 := Lib.hid (fun W (hW : Below w1.heap.size w1 W) => k2.below hW)
    unfold maxLen at g2 g4
    clear k1 k2
    obtain ⟨p, len, dig, sign, bs, hv⟩ := f
    dsimp only at *
    have FG := Lib.hid (fun (h : fv ⟨p, len, dig, sign, bs, hv⟩ = true) k (hk : k < bs.length) => forgot_fv (f := ⟨p, len, dig, sign, bs, hv⟩) (k := k) hk h)
    obtain ⟨q, hq⟩ : ∃ q, fv ⟨p, len, dig, sign, bs, hv⟩ = q := ⟨_, rfl⟩
    rw [hq] at IMP SPC FVF FG
    have HQ := Lib.hid (fun (_ : True) => hq)
    clear hq
    obtain ⟨W1, hW1⟩ : ∃ W1, W1 = w1.alloc (.cells #[.int .i64 p, .int .i64 len, .int .i64 dig, .int .i64 sign, .slice a1 bs.length c1, .slice a2 hv.length c2] 39) := ⟨_, rfl⟩
    have hbW1 : Below w1.heap.size w1 W1 := by rw [hW1]; (repeat' (first | exact Below.refl _ _ | assumption | refine Below.drew ?_ | refine below_drewN ?_ _ | refine Below.alloc ?_ (by omega) _ | refine Below.alloc ?_ (by simp; omega) _ | refine Below.alloc ?_ (by simp) _ | refine Below.setCell ?_ (by omega) _ | refine Below.setCell ?_ (by simp; omega) _ | refine Below.setCell ?_ (by simp) _))
    have X := Lib.hid (show Bx W1 w1.heap.size p len dig sign (.slice a1 bs.length c1) (.slice a2 hv.length c2) by rw [hW1]; exact Bx.new _ _)
    have HB0 := Lib.hid hb1
    have HB := Lib.hid (hb1.trans (hbW1.mono hb1.size))
    have D := Lib.hid hbW1
    clear hb1 hbW1 H
    have x0 := X.out.x0
    have x1 := X.out.x1
    have x2 := X.out.x2
    have x3 := X.out.x3
    have x4 := X.out.x4
    have x5 := X.out.x5
    go_upto_region 4 with (fail)
    rw [← hW1]
    clear hW1
    go_wp2_with fail
    refine (IMP.out _ D.out).mono ?_
    rintro e w2 ⟨rfl, hb2⟩
    have X := Lib.hid (X.out.below hb2)
    have HB := Lib.hid (HB.out.trans (hb2.mono HB.out.size))
    have D := Lib.hid (D.out.trans (hb2.mono D.out.size))
    clear hb2 x0 x1 x2 x3 x4 x5
    have x0 := X.out.x0
    have x1 := X.out.x1
    have x2 := X.out.x2
    have x3 := X.out.x3
    have x4 := X.out.x4
    have x5 := X.out.x5
    go_wp2_with fail
    refine (SPC.out _ D.out).mono ?_
    rintro e w3 ⟨rfl, hb3⟩
    have X := Lib.hid (X.out.below hb3)
    have HB := Lib.hid (HB.out.trans (hb3.mono HB.out.size))
    have D := Lib.hid (D.out.trans (hb3.mono D.out.size))
    clear hb3 x0 x1 x2 x3 x4 x5
    have x0 := X.out.x0
    have x1 := X.out.x1
    have x2 := X.out.x2
    have x3 := X.out.x3
    have x4 := X.out.x4
    have x5 := X.out.x5
    cases q
    · go_wp2
      go_ret
      exact ⟨rfl, HB.out⟩
    · by_cases h0 : bs.length = 0
      · have h0' : ((bs.length : Int) == 0) = true := by simp [h0]
        go_wp2
        go_ret
        exact ⟨rfl, HB.out⟩
      · have h0' : ((bs.length : Int) == 0) = false := by rw [beq_eq_false_iff_ne]; omega
        have HF := Lib.hid (FVF.out rfl)
        have hhl : hv.length ≤ 16 := by have h3 := HF.out.2.2.1; have h4 := HF.out.2.2.2.1; dsimp only at h3 h4; omega
        have BC := Lib.hid (fun W (hW : Below w1.heap.size w1 W) => bitsCount_c (.slice a2 hv.length c2) hv W (K2.out W hW).rd hhl)
        have LH := Lib.hid (fun W (hW : Below w1.heap.size w1 W) => leavesOf_c (.slice a1 bs.length c1) bs W (K1.out W hW).rd hbn (fun i hi => (HF.out.2.2.2.2.1 i hi).1))
        have DH := Lib.hid (fun v W (hW : Rd 1 W v (bs.map txt).length (enc1 (bs.map txt))) => digest_c v (bs.map txt) W hW (fun x hx => by obtain ⟨y, -, rfl⟩ := List.mem_map.1 hx; exact txt_in y) (by rw [List.length_map]; exact hbn))
        have HC : Hid (cnt hv = hv.length → digest (bs.map txt) = dig) := Lib.hid fun e => by
          rcases HF.out.2.2.2.2.2 with h | h | h
          · exact absurd h h0
          · exact absurd e h
          · exact h
        have hcl : cnt hv ≤ hv.length := List.count_le_length
        generalize cnt hv = c at *
        by_cases hlt : c < hv.length
        · have hlti : (c : Int) < (hv.length : Int) := by omega
          clear hcl LH DH HC HF
          go_wp2
          have z0 := fun (x : Sub w3) => x.cell x0
          have z1 := fun (x : Sub w3) => x.cell x1
          have z2 := fun (x : Sub w3) => x.cell x2
          have z3 := fun (x : Sub w3) => x.cell x3
          have z4 := fun (x : Sub w3) => x.cell x4
          have z5 := fun (x : Sub w3) => x.cell x5
          have WH := Lib.hid (fun (W : World) (hW : Below w3.heap.size w3 W) => (show Calls _ _ _ _ (fun e w' => e = .returned (.int .i64 (c : Int)) ∧ Below W.heap.size W w') from BC.out W (D.out.trans (hW.mono D.out.size))))
          refine wp_region_sub (by kernel_rfl) (by kernel_rfl) ?_
          repeat (go_big_quiet_step (with_reducible (exact Calls.sub (v := .int .i64 (c : Int)) WH.out)))
          refine wpQuiet_nil ?_
          rintro _ ⟨xs, rfl⟩
          have HX := Lib.hid (HB.out.trans (xs.b.mono HB.out.size))
          go_wp2
          go_ret
          exact ⟨rfl, HX.out⟩
        · have hlti : ¬ ((c : Int) < (hv.length : Int)) := by omega
          have HE := Lib.hid (HC.out (by omega))
          clear HC hcl HF
          generalize hdg : digest (bs.map txt) = dg at *
          have HDG := Lib.hid hdg
          clear hdg
          have Dd := Lib.hid D.out.drew
          go_wp2
          go_region_held3 (fun w' => w'.cell? ⟨w1.heap.size, 0, none⟩ = some (.int .i64 p) ∧ w'.cell? ⟨w1.heap.size, 1, none⟩ = some (.int .i64 len) ∧ w'.cell? ⟨w1.heap.size, 2, none⟩ = some (.int .i64 dig) ∧ w'.cell? ⟨w1.heap.size, 3, none⟩ = some (.int .i64 sign) ∧ w'.cell? ⟨w1.heap.size, 4, none⟩ = some (.slice a1 bs.length c1) ∧ w'.cell? ⟨w1.heap.size, 5, none⟩ = some (.slice a2 hv.length c2)) (first | exact ⟨i0, i1, i2, i3, i4, i5⟩ | exact ⟨g0, g1, g2, g3, g4, g5⟩ | exact ⟨e0, e1, e2, e3, e4, e5⟩ | exact ⟨x0, x1, x2, x3, x4, x5⟩) ((first
            | ((with_reducible refine (BC.out _ Dd.out).mono ?_); rintro e w7 ⟨rfl, hb7⟩; have BW7 := Lib.hid (Dd.out.trans (hb7.mono Dd.out.size)); have BW7x := Lib.hid ((Below.refl w3.heap.size w3).drew.trans hb7); have e0 := cell_keep BW7x.out x0; have e1 := cell_keep BW7x.out x1; have e2 := cell_keep BW7x.out x2; have e3 := cell_keep BW7x.out x3; have e4 := cell_keep BW7x.out x4; have e5 := cell_keep BW7x.out x5; clear hb7)
            | ((with_reducible refine (LH.out _ BW7.out).mono ?_); rintro e w8 ⟨v8, rfl, hown8, hb8⟩; have BW8 := Lib.hid (BW7.out.trans (hb8.mono BW7.out.size)); have HV8 := Lib.hid (Rd.of_own hown8); have g0 := cell_keep hb8 e0; have g1 := cell_keep hb8 e1; have g2 := cell_keep hb8 e2; have g3 := cell_keep hb8 e3; have g4 := cell_keep hb8 e4; have g5 := cell_keep hb8 e5; clear hb8 hown8)
            | ((with_reducible refine (DH.out _ _ HV8.out).mono ?_); rintro e w9 ⟨rfl, hb9⟩; have BW9 := Lib.hid (BW8.out.trans (hb9.mono BW8.out.size)); have i0 := cell_keep hb9 g0; have i1 := cell_keep hb9 g1; have i2 := cell_keep hb9 g2; have i3 := cell_keep hb9 g3; have i4 := cell_keep hb9 g4; have i5 := cell_keep hb9 g5; clear hb9)))
          go_wp2
          go_ret
          exact ⟨ret_bb (by rw [HE.out]; simp), HB0.out.trans (BW9.out.mono HB0.out.size)⟩
end Go.Proofs.Ytbjndbaljenlgaa
