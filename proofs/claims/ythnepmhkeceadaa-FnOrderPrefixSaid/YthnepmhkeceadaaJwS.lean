/- Walks: JoinAppend of the program. -/
import Derived.Test.YthnepmhkeceadaaJwR
namespace Go.Proofs.Ythnepmhkeceadaa
open Go.RowKit
/-- append(row, e) in a row of the call's own; the entry's clock lies apart in older memory -/
theorem wpList_pushE2 {T : Nat → Prop} (w : World) {ops : Array Oper} {rest : List Oper} {o : Oper} {a : Act} {Q : Exit → Act → World → Prop} (hgd : o.guard = none) (s x : Operand) (t : TypeId)
    (ho : o.op = .call { callee := .builtin .append, args := #[s, x], argTypes := #[t, t] }) (hu : Try.prog.underlying t = some (.slice 32))
    (v : Value) (es : List Ent) (hs : a.eval s = v) (hown : OwnR T w v es) (cv : Value) (c : List Int) (x1 y1 : Int) (hcv : w.ownsRow 0 3 1 cv c.length (enc1 c)) (hd : ∀ b, cv.ownBlock = some b → ¬ T b)
    (E : TypeId) (m cc : Nat) (hx : a.eval x = .slice (some ⟨m, 0, none⟩) 1 cc) (hm : m = w.heap.size) (hn : es.length ≤ 1099511627776)
    (h : ∀ v' w', OwnR (fun b => T b ∨ cv.ownBlock = some b ∨ b = (w.alloc (.cells #[cv, .int .i64 x1, .int .i64 y1] E)).heap.size) w' v' (es ++ [(c, x1, y1)]) → (w.alloc (.cells #[cv, .int .i64 x1, .int .i64 y1] E)).grownBy w' v.ownBlock → wpList Try.prog ops Q rest (a.put o.dst v') w') :
    wpList Try.prog ops Q (o :: rest) a (w.alloc (.cells #[cv, .int .i64 x1, .int .i64 y1] E)) := by
  subst hm
  obtain ⟨i0, hi, hz0, hz1, hz2⟩ := info_parts info_entry
  have hone : cv.oneCell' = true := by
    rcases own_cases hcv with ⟨rfl, -⟩ | ⟨g, cap, rfl, -⟩ <;> rfl
  have hO2 : OwnR T (w.alloc (.cells #[cv, .int .i64 x1, .int .i64 y1] E)) v es := hown.below ((Below.refl _ _).alloc (Nat.le_refl _) _)
  obtain ⟨flat, hf, hcl⟩ := hO2.push (hcv.alloc (.cells #[cv, .int .i64 x1, .int .i64 y1] E)) hd x1 y1
  refine wpList_append_own_at _ hgd s x t ho 0 32 i0 zeroE 3 40 hu hi hz0 hz1 hz2 rfl (by decide) v es.length flat hs hf ⟨w.heap.size, 0, none⟩ 1 cc [cv, .int .i64 x1, .int .i64 y1] hx rfl ?_ ?_ ?_ ?_ (Nat.zero_le _) ?_
  · intro j u hj
    rw [addr_add0]
    match j, hj with
    | 0, hj => simp at hj; subst hj; simp
    | 1, hj => simp at hj; subst hj; simp
    | 2, hj => simp at hj; subst hj; simp
  · intro u hu; simp at hu; rcases hu with rfl | rfl | rfl
    · exact hone
    · rfl
    · rfl
  · unfold maxLen; omega
  · omega
  · intro v' w' g1 g2 _ g4
    exact h v' w' (hcl w' v' g1 g2 g4) g2
/-- what the first k writers' known entries know -/
noncomputable def nwN (F : Fd) (f : Nat → Int) : Nat → Nat → Int
  | 0, v => f v
  | k + 1, v => stp F (f k) k v (nwN F f k v)
theorem nwN_3 (F : Fd) (f : Nat → Int) (v : Nat) : nwN F f 3 v = nw F f v := rfl
noncomputable def mixN (F : Fd) (f : Nat → Int) (k x : Nat) : Nat → Int := fun v => if v < x then nwN F f (k + 1) v else nwN F f k v
theorem mixN_0 (F : Fd) (f : Nat → Int) (k : Nat) : mixN F f k 0 = nwN F f k := by funext v; unfold mixN; rw [if_neg (Nat.not_lt_zero _)]
theorem mixN_3 (F : Fd) (f : Nat → Int) (k : Nat) : lst3 (mixN F f k 3) = lst3 (nwN F f (k + 1)) := lst3_congr fun v hv => by unfold mixN; rw [if_pos hv]
theorem mixN_step (F : Fd) (f : Nat → Int) (k x : Nat) (hn : f k ≠ 0) : mixN F f k (x + 1) = upd1 (mixN F f k x) x (max (mixN F f k x x) (ck F k (f k - 1).toNat x)) := by
  funext v
  simp only [mixN, upd1]
  by_cases e : v = x
  · subst e
    rw [if_pos (Nat.lt_succ_self _), if_pos rfl, if_neg (Nat.lt_irrefl _)]
    show stp F (f k) k v (nwN F f k v) = _
    unfold stp
    rw [if_neg hn]
  · rw [if_neg e]
    by_cases h : v < x
    · rw [if_pos (by omega), if_pos h]
    · rw [if_neg (by omega), if_neg h]
theorem nwN_zero (F : Fd) (f : Nat → Int) (k : Nat) (hn : f k = 0) : nwN F f (k + 1) = nwN F f k := by
  funext v
  show stp F (f k) k v (nwN F f k v) = _
  unfold stp
  rw [if_pos hn]
set_option maxHeartbeats 6400000 in
theorem joinAppend_ok {S S' : Nat → Prop} (F : Fd) (fv : Value) (w : Nat) (kv : Value) (ks : List Int) (key val : Int) (W : World) (h : RdF S W fv F) (hk : RdS S' 1 W kv 3 (enc1 ks)) (hok : AppArgs F w ks key val) :
    Calls Try.prog 12 #[fv, .int .i64 w, kv, .int .i64 key, .int .i64 val] W (JaPost F w ks key val W) := by
  have H := Lib.hid h
  have HK := Lib.hid hk
  have OK := Lib.hid hok
  have HJ := Lib.hid hok.1
  have HK3 := Lib.hid hok.2.2.1
  have hw : w < 3 := by have := hok.2.1.2; omega
  have h8 : ln F w < 8 := by have := hok.2.2.2.2.2.1; simpa using this
  have HKn := Lib.hid (kf_knw (w := w) hok.2.2.2.2.2.2)
  obtain ⟨f, hf⟩ : ∃ f, kf F w ks = f := ⟨_, rfl⟩
  have HF := Lib.hid hf
  rw [hf] at HKn
  obtain ⟨ak, capk, rfl, n1, n2⟩ := hk.shape
  obtain ⟨a0, cap0, rfl, m1, m2⟩ := h.shape
  rw [hok.1.1] at m1 H ⊢
  unfold maxLen at n2 m2
  have hw3 : (w : Int) < 3 := by omega
  clear h hk hok hf
  go_enter Try.func12, Try.ntmps12
  go_wp2_with fail
  refine (canAppend_c F _ w _ ks 3 key val _ H.out HK.out HK3.out).mono ?_
  rintro e w1 ⟨rfl, hb1⟩
  rw [jaB_t OK.out]
  go_wp2_with fail
  refine (cloneInt_c _ ks 3 _ (HK.out.below hb1) HK3.out (by omega)).mono ?_
  rintro e w2 ⟨cv, rfl, hown2, hb2⟩
  have HB2 := Lib.hid (hb1.trans (hb2.mono hb1.size))
  have hz12 := hb1.size
  rw [lst3_of HK3.out] at hown2
  obtain ⟨b, cap, rfl, g1, g2, g3, g4, hcell⟩ := own_three hown2 rfl
  unfold maxLen at g4
  obtain ⟨b6, o6, c6', a7, c7, ev, -, -, q5, q6', q7', -⟩ := (H.out.below HB2.out).feed (j := w) (by rw [HJ.out.1]; exact hw)
  rw [HJ.out.1] at ev
  simp only [Value.slice.injEq, Option.some.injEq, Addr.mk.injEq, and_true] at ev
  obtain ⟨rfl, -, rfl⟩ := ev
  unfold maxLen at q7'
  obtain ⟨L, hL⟩ : ∃ L, ln F w = L := ⟨_, rfl⟩
  rw [hL] at q5 q6' h8
  have HL := Lib.hid hL
  have cw := (hcell w hw).1
  have fw := (hcell w hw).2
  have hst := (hown2.stored w (.int .i64 (L : Int))).1
  rw [← lst3_set _ hw] at hst
  have hfe : upd1 (fun v => ks.getD v 0) w (L : Int) = f := by rw [← HF.out]; unfold kf; rw [HL.out]
  rw [hfe] at hst
  obtain ⟨w3, hw3e⟩ : ∃ w3, w3 = w2.setCell ⟨b, w, none⟩ (.int .i64 (L : Int)) := ⟨_, rfl⟩
  rw [← hw3e] at hst
  have hWb : W.heap.size ≤ b := Nat.le_trans hz12 g1
  have hb3 : Below W.heap.size W w3 := by rw [hw3e]; exact HB2.out.setCell hWb _
  have HB3 := Lib.hid hb3
  have HO3 := Lib.hid hst
  have HW3 := Lib.hid hw3e
  clear hL hcell hown2 hb1 hb2 hst hw3e hb3 hfe HB2 g1
  go_wp2_with fail
  rw [← HW3.out]
  clear cw fw q5
  refine (cloneInt_c _ (lst3 f) 3 w3 (RdS.of_own HO3.out) rfl (by omega)).mono ?_
  rintro e w4 ⟨nv, rfl, hown4, hb4⟩
  obtain ⟨d, capd, rfl, d1, d2, d3, d4, -⟩ := own_three hown4 rfl
  unfold maxLen at d4
  have HO4 : Hid (w4.ownsRow w3.heap.size 3 1 (.slice (some ⟨d, 0, none⟩) 3 capd) 3 (enc1 (lst3 (nwN F f 0)))) := hown4
  have HB4 := Lib.hid hb4
  clear hown4 hb4
  go_wp2
  go_loopw [40] (fun i' wr => ∃ k : Nat, k ≤ 3 ∧ i' = .int .i64 k ∧ Hid (wr.ownsRow w3.heap.size 3 1 (.slice (some ⟨d, 0, none⟩) 3 capd) 3 (enc1 (lst3 (nwN F f k)))) ∧ Hid (Below w3.heap.size w3 wr)) (fun i' _ => 3 - (intOf i').toNat)
  case atStart => exact ⟨0, by omega, rfl, HO4, HB4⟩
  case round =>
    clear HO4 HB4
    obtain ⟨k, hk, rfl, HO, HB⟩ := hrel
    have HBW := Lib.hid (HB3.out.trans (HB.out.mono HB3.out.size))
    by_cases hlt : k < 3
    · have hlt' : (k : Int) < 3 := by omega
      have ck := cell_keep HB.out (own_cells3 HO3.out k hlt).1
      have hkn := HKn.out k hlt
      have h8k := HJ.out.2.1 k hlt
      obtain ⟨z, hz⟩ : ∃ z, f k = z := ⟨_, rfl⟩
      rw [hz] at ck hkn
      have HZ := Lib.hid hz
      clear hz
      by_cases hz0 : z = 0
      · subst hz0
        have HE := Lib.hid (nwN_zero F f k HZ.out)
        go_wp2
        go_roundw
        case rel => exact ⟨k + 1, by omega, by go_num, by rw [HE.out]; exact HO, HB⟩
        case measure => simp [intOf]; omega
      · have hz' : (z == 0) = false := by rw [beq_eq_false_iff_ne]; exact hz0
        obtain ⟨n, hn⟩ : ∃ n : Nat, z = (n : Int) + 1 := ⟨(z - 1).toNat, by omega⟩
        have hwr : IntKind.i64.wrap (z - 1) = (n : Int) := by rw [IntKind.wrap_i64]; omega
        have hnl : n < ln F k := by omega
        obtain ⟨b8, o8, c8, bA, oA, cA, aB, cB, ev, -, -, e1, e1n, e1m, e2, -, -, hrr⟩ := (H.out.below HB3.out).entry (j := k) (i := n) (by rw [HJ.out.1]; exact hlt) hnl
        rw [HJ.out.1] at ev
        simp only [Value.slice.injEq, Option.some.injEq, Addr.mk.injEq, and_true] at ev
        obtain ⟨⟨rfl, rfl⟩, -, rfl⟩ := ev
        have hLc := (HJ.out.2.2.1 k hlt n hnl).1
        rw [hLc] at e2 hrr
        have HRR := Lib.hid hrr
        have HLc := Lib.hid hLc
        have hzn : (f k - 1).toNat = n := by rw [HZ.out, hn]; omega
        have HZN := Lib.hid hzn
        have HFK : Hid (f k ≠ 0) := by rw [show f k = z from HZ.out]; exact hz0
        obtain ⟨aC, capC, ev, mC1, mC2⟩ := hrr.shape
        simp only [Value.slice.injEq, true_and] at ev
        obtain ⟨rfl, rfl⟩ := ev
        have HE12 := Lib.hid (And.intro (cell_keep HB.out e1) (cell_keep HB.out e2))
        clear hrr hLc hn hzn hkn h8k hz0
        go_wp2_with fail
        refine (clock_v _ _ 3 _ _ _ (ln F k) _ 3 _ _ k n _ hlt m1 (by unfold maxLen; exact m2) hnl e1n e1m HE12.out.1 HE12.out.2).mono ?_
        rintro e w5 ⟨rfl, hb5⟩
        have HB5 := Lib.hid (HB.out.trans (hb5.mono HB.out.size))
        have HO5 : Hid (w5.ownsRow w3.heap.size 3 1 (.slice (some ⟨d, 0, none⟩) 3 capd) 3 (enc1 (lst3 (mixN F f k 0)))) := by rw [mixN_0]; exact own_below HO.out hb5
        unfold maxLen at mC2
        clear hb5 ck
        go_wp2
        go_loopw [54] (fun i' wr => ∃ x : Nat, x ≤ 3 ∧ i' = .int .i64 x ∧ Hid (wr.ownsRow w3.heap.size 3 1 (.slice (some ⟨d, 0, none⟩) 3 capd) 3 (enc1 (lst3 (mixN F f k x)))) ∧ Hid (Below w3.heap.size w3 wr)) (fun i' _ => 3 - (intOf i').toNat)
        case atStart => exact ⟨0, by omega, rfl, HO5, HB5⟩
        case round =>
          clear HO5 HB5
          obtain ⟨x, hx, rfl, HOx, HBx⟩ := hrel
          by_cases hx3 : x < 3
          · have hx3' : (x : Int) < 3 := by omega
            have hcell := own_cells3 HOx.out x hx3
            have cx := hcell.1
            have fx := hcell.2
            obtain ⟨u, hu⟩ : ∃ u, mixN F f k x x = u := ⟨_, rfl⟩
            rw [hu] at cx
            obtain ⟨b9, o9, c9, y, ev, -, m9, e3, HYY⟩ := HRR.out.num2 HLc.out hx3
            simp only [Value.slice.injEq] at ev
            obtain ⟨rfl, -, rfl⟩ := ev
            have e3 := cell_keep HBx.out e3
            have HT : Hid (lst3 (mixN F f k (x + 1)) = lst3 (upd1 (mixN F f k x) x (max u y))) := by
              show _ = _
              rw [mixN_step F f k x HFK.out, hu, HZN.out, show Proofs.Ythnepmhkeceadaa.ck F k n x = y from HYY.out]
            have HO' : Hid ((wr.setCell ⟨d, x, none⟩ (.int .i64 (max u y))).ownsRow w3.heap.size 3 1 (.slice (some ⟨d, 0, none⟩) 3 capd) 3 (enc1 (lst3 (mixN F f k (x + 1))))) := by
              have := (HOx.out.stored x (.int .i64 (max u y))).1
              rw [← lst3_set _ hx3, ← HT.out] at this
              exact this
            have HB' : Hid (Below w3.heap.size w3 (wr.setCell ⟨d, x, none⟩ (.int .i64 (max u y)))) := HBx.out.setCell d1 _
            clear hcell hu HYY HT
            by_cases huy : u < y
            · rw [Int.max_eq_right (by omega)] at HO' HB'
              go_wp2
              go_roundw
              case rel => exact ⟨x + 1, by omega, by go_num, HO', HB'⟩
              case measure => simp [intOf]; omega
            · rw [Int.max_eq_left (by omega)] at HO' HB'
              go_wp2
              go_roundw
              case rel => exact ⟨x + 1, by omega, by go_num, HO', HB'⟩
              case measure => simp [intOf]; omega
          · obtain rfl : x = 3 := by omega
            have HE := Lib.hid (mixN_3 F f k)
            go_wp2
            go_roundw
            case rel => exact ⟨k + 1, by omega, by go_num, by rw [← HE.out]; exact HOx, HBx⟩
            case measure => simp [intOf]; omega
    · obtain rfl : k = 3 := by omega
      have hcd := own_cells3 HO.out w hw
      have cw := hcd.1
      have fw := hcd.2
      obtain ⟨b6', o6', c6'', a7', c7', ev, -, -, q5, -, -, -⟩ := (H.out.below HBW.out).feed (j := w) (by rw [HJ.out.1]; exact hw)
      rw [HJ.out.1] at ev
      simp only [Value.slice.injEq, Option.some.injEq, Addr.mk.injEq, and_true] at ev
      obtain ⟨⟨rfl, rfl⟩, -, rfl⟩ := ev
      rw [HL.out] at q5
      have hwr : IntKind.i64.wrap ((L : Int) + 1) = (L : Int) + 1 := by rw [IntKind.wrap_i64]; omega
      have HNW : Hid (upd1 (nw F f) w ((L : Int) + 1) = upd1 (nwN F f 3) w ((L : Int) + 1)) := rfl
      have HO9 : Hid ((wr.setCell ⟨d, w, none⟩ (.int .i64 ((L : Int) + 1))).ownsRow 0 3 1 (.slice (some ⟨d, 0, none⟩) 3 capd) 3 (enc1 (newc F w (kf F w ks)))) := by
        have := (own_zero HO.out).stored w (.int .i64 ((L : Int) + 1))
        have := this.1
        rw [← lst3_set _ hw] at this
        show World.ownsRow _ _ _ _ _ _ _
        rw [newc_lst3, HF.out, HL.out]
        exact this
      have HB9 : Hid (Below w3.heap.size w3 (wr.setCell ⟨d, w, none⟩ (.int .i64 ((L : Int) + 1)))) := HB.out.setCell d1 _
      obtain ⟨w9, hw9⟩ : ∃ w9, w9 = wr.setCell ⟨d, w, none⟩ (.int .i64 ((L : Int) + 1)) := ⟨_, rfl⟩
      rw [← hw9] at HO9 HB9
      have HW9 := Lib.hid hw9
      clear hcd hw9
      go_wp2_with fail
      rw [← HW9.out]
      clear cw fw q5
      have HBW9 := Lib.hid (HB3.out.trans (HB9.out.mono HB3.out.size))
      refine (copyFeeds_c F _ w9 (H.out.below HBW9.out) HJ.out).mono ?_
      rintro e w8 ⟨vc, rfl, hF8, hb8⟩
      obtain ⟨g, cap8, rv, T, rfl, gle, gcm, gsz, hSg, crow, frow, hOR, hT, -, close⟩ := hF8.row (j := w) (by rw [HJ.out.1]; exact hw)
      rw [HJ.out.1] at gle close ⊢
      unfold maxLen at gcm
      obtain ⟨es, hes⟩ : ∃ es, F.getD w [] = es := ⟨_, rfl⟩
      have hel : es.length = L := by rw [← hes]; exact HL.out
      rw [hes] at hOR
      obtain ⟨ar, capr, hrv⟩ := hOR.slice
      rw [hel] at hrv
      subst hrv
      have HST8 := Lib.hid (own_below HO9.out hb8)
      have hb8W := HBW9.out.trans (hb8.mono HBW9.out.size)
      have hd9 : d < w9.heap.size := (HO9.out.lt d rfl).2
      have hbd : ∀ k, (Value.slice (some ⟨d, 0, none⟩) 3 capd).ownBlock = some k → ¬ T k := fun k hk hh => by
        have := (hT k hh).1
        simp [Value.ownBlock] at hk
        omega
      have hrb : ∀ k, (Value.slice ar L capr).ownBlock = some k → T k := fun k hk => (hOR.blk k hk).1
      have JF : ∀ (X w91 : World) (v91 : Value), Below w8.heap.size w8 X → X.grownBy w91 (Value.slice ar L capr).ownBlock → OwnR (fun k => T k ∨ (Value.slice (some ⟨d, 0, none⟩) 3 capd).ownBlock = some k ∨ k = X.heap.size) w91 v91 (es ++ [(newc F w (kf F w ks), key, val)]) →
          w91.cell? ⟨g, w, none⟩ = some (.slice ar L capr) ∧ w91.frozen? ⟨g, w, none⟩ = false ∧ Hid (OwnF (fun k => W.heap.size ≤ k) (w91.setCell ⟨g, w, none⟩ v91) (.slice (some ⟨g, 0, none⟩) 3 cap8) (jaF F w ks key val) ∧ Below W.heap.size W (w91.setCell ⟨g, w, none⟩ v91)) := by
        intro X w91 v91 hbX hg ho
        have hgr : some g ≠ (Value.slice ar L capr).ownBlock := fun e => (hT g (hrb g e.symm)).2 rfl
        have hbX8 := hbX.size
        have h9 := HBW9.out.size
        have h8s := hb8.size
        have h3 := HB3.out.size
        refine ⟨grown_cell hg (cell_keep hbX crow) hgr, (grown_frozen hg (Nat.lt_of_lt_of_le gsz hbX8) hgr).trans ((hbX.frozen (p := ⟨g, w, none⟩) gsz).trans frow), ?_, ?_⟩
        · have := close w91 v91 (es ++ [(newc F w (kf F w ks), key, val)]) (fun k => k = d ∨ k = X.heap.size) ((Chg.of_below hbX T).trans ((Chg.of_grown hg).mono fun k _ hk => hrb k hk)) (ho.sub fun k _ hk => by
            rcases hk with hk | hk | hk
            · exact .inl hk
            · simp [Value.ownBlock] at hk; exact .inr (.inl hk.symm)
            · exact .inr (.inr hk)) (fun k hk hh => by
            rcases hk with hk | hk
            · subst hk; have := hh.1; omega
            · subst hk; have := hh.2; omega)
          rw [jaF_t OK.out, Int.toNat_natCast]
          unfold app
          rw [hes]
          refine this.sub fun k _ hk => ?_
          rcases hk with hk | hk | hk
          · have hk' : w9.heap.size ≤ k := hk
            exact Nat.le_trans h9 hk'
          · subst hk; omega
          · subst hk; omega
        · refine ((hb8W.trans (hbX.mono hb8W.size)).grown hg (Nat.le_trans hb8W.size hbX8) (fun k hk => ?_)).setCell ?_ _
          · have := (hT k (hrb k hk)).1
            omega
          · show W.heap.size ≤ g
            omega
      have HJF := Lib.hid JF
      have HOR := Lib.hid hOR
      have HBD := Lib.hid hbd
      have hen : es.length ≤ 1099511627776 := by rw [hel]; omega
      have HEL := Lib.hid (show (es ++ [(newc F w (kf F w ks), key, val)]).length = L + 1 by rw [List.length_append, hel]; rfl)
      clear JF hOR hbd close hT hes hel hSg hrb hF8 hb8W
      go_wp2_with (at_builtin; refine wpList_pushE2 (T := T) _ rfl _ _ 30 rfl Try.underlying30 (.slice ar L capr) es rfl HOR.out (.slice (some ⟨d, 0, none⟩) 3 capd) (newc F w (kf F w ks)) key val HST8.out HBD.out _ _ _ rfl (by simp) hen ?_)
      intro v91 w91 ho91 hg91
      obtain ⟨a91, cap91, hv91⟩ := ho91.slice
      rw [HEL.out] at hv91
      subst hv91
      have R91 := HJF.out _ w91 _ ((Below.refl _ _).alloc (Nat.le_refl _) _) hg91 (by first | exact ho91 | (simp only [World.size_alloc]; exact ho91))
      have c91 := R91.1
      have f91 := R91.2.1
      have FIN := Lib.hid R91.2.2
      clear R91 ho91 hg91
      go_wp2
      go_ret2
      exact ⟨_, ret_vb (jaB_t OK.out).symm, FIN.out.1, FIN.out.2⟩
theorem joinAppend_c {S S' : Nat → Prop} (F : Fd) (fv : Value) (w : Int) (kv : Value) (ks : List Int) (key val : Int) (W : World) (h : RdF S W fv F) (hk : RdS S' 1 W kv ks.length (enc1 ks)) :
    Calls Try.prog 12 #[fv, .int .i64 w, kv, .int .i64 key, .int .i64 val] W (JaPost F w ks key val W) := by
  by_cases hh : AppArgs F w ks key val
  · obtain ⟨n, rfl⟩ := Int.eq_ofNat_of_zero_le hh.2.1.1
    rw [hh.2.2.1] at hk
    exact joinAppend_ok F fv n kv ks key val W h hk hh
  · obtain ⟨n, hn⟩ : ∃ n, ks.length = n := ⟨_, rfl⟩
    rw [hn] at hk
    have H := Lib.hid h
    have NO := Lib.hid hh
    go_enter Try.func12, Try.ntmps12
    go_wp2_with fail
    refine (canAppend_c F _ w _ ks n key val _ h hk hn).mono ?_
    rintro e w1 ⟨rfl, hb1⟩
    rw [jaB_f NO.out]
    have HB := Lib.hid hb1
    clear hb1 h hk hn hh
    go_wp2
    go_ret2
    refine ⟨_, ret_vb (jaB_f NO.out).symm, ?_, HB.out⟩
    rw [jaF_f NO.out]
    exact OwnF.nil (World.ownsRow_nil _ _ _ _) (fun b hb => by simp [Value.ownBlock] at hb)
end Go.Proofs.Ythnepmhkeceadaa
