/- Walks: the order of the reference. -/
import Derived.Test.YthnepmhkeceadaaJwH
namespace Go.Proofs.Ythnepmhkeceadaa
open Go.RowKit
theorem rdy_iff {F : Fd} {p : Nat → Nat} {v : Nat} (h : p v < ln F v) {b : Bool} (hb : b = true ↔ ∀ x, x < 3 → x = v ∨ ck F v (p v) x ≤ (p x : Int)) : b = true ↔ Rdy F p v := by
  rw [hb]
  exact ⟨fun hh => ⟨h, hh⟩, fun hh => hh.2⟩
theorem all_step {Q : Nat → Prop} {x : Nat} {b : Bool} (hb : b = true ↔ ∀ y, y < x → Q y) {c : Bool} (hc : c = true ↔ (b = true ∧ Q x)) : c = true ↔ ∀ y, y < x + 1 → Q y := by
  rw [hc, hb]
  constructor
  · rintro ⟨h1, h2⟩ y hy
    by_cases e : y = x
    · subst e; exact h2
    · exact h1 y (by omega)
  · intro h
    exact ⟨fun y hy => h y (by omega), h x (by omega)⟩
def boolV : Value → Nat
  | .bool true => 1
  | _ => 0
set_option maxHeartbeats 6400000 in
theorem l31Order_c {S : Nat → Prop} (F : Fd) (fv : Value) (W : World) (h : RdF S W fv F) (hj : JV F) :
    Calls Try.prog 57 #[fv] W (RetOwn 37 2 (tot F) (enc2 (ordN F (tot F))) W) := by
  have H := Lib.hid h
  have HJ := Lib.hid hj
  obtain ⟨a0, cap0, rfl, q1, q2⟩ := h.shape
  rw [hj.1] at q1 H ⊢
  unfold maxLen at q2
  clear h hj
  have hmk : ∀ w, (Instr.makeSlice 24 (.int .i64 3) (.int .i64 3)).run Try.prog w = .ok (.slice (some ⟨w.heap.size, 0, none⟩) 3 3) (w.alloc (.cells #[.int .i64 0, .int .i64 0, .int .i64 0] 3)) := fun _ => by kernel_rfl
  have hown0 := (own_empty W W.heap.size 37 2 (Nat.le_refl _)).alloc (.cells #[.int .i64 0, .int .i64 0, .int .i64 0] 3)
  have hbA := ((Below.refl W.heap.size W).alloc (Nat.le_refl _) (.cells #[] 37)).alloc (by simp) (.cells #[.int .i64 0, .int .i64 0, .int .i64 0] 3)
  obtain ⟨w3, hw3⟩ : ∃ w3, w3 = (W.alloc (.cells #[] 37)).alloc (.cells #[.int .i64 0, .int .i64 0, .int .i64 0] 3) := ⟨_, rfl⟩
  have HC0 : Hid (Cells3 w3 (W.heap.size + 1) (pst F 0)) := fun u hu => by
    obtain rfl | rfl | rfl : u = 0 ∨ u = 1 ∨ u = 2 := by omega
    all_goals (rw [hw3]; simp [pst])
  have hz3 : W.heap.size + 1 < w3.heap.size := by rw [hw3]; simp
  rw [← hw3] at hown0 hbA
  have HW3 := Lib.hid hw3
  clear hw3
  go_enter Try.func57, Try.ntmps57
  go_wp2
  rw [← HW3.out]
  clear hmk
  go_loopw [3, 5] (fun o m wr => ∃ (k : Nat) (mb : Bool), k ≤ tot F ∧ m = .bool mb ∧ (mb = false → k = tot F) ∧ wr.ownsRow W.heap.size 37 2 o k (enc2 (ordN F k)) ∧ Hid (Below W.heap.size W wr) ∧ Hid (Cells3 wr (W.heap.size + 1) (pst F k)) ∧ Hid (∀ b, o.ownBlock = some b → b ≠ W.heap.size + 1) ∧ W.heap.size + 1 < wr.heap.size) (fun o m _ => (tot F - lenV o) * 2 + boolV m)
  case atStart => exact ⟨0, true, Nat.zero_le _, rfl, (fun h => by cases h), hown0, hbA, HC0, fun b hb => by simp [Value.ownBlock] at hb; omega, hz3⟩
  case round =>
    clear hown0 hbA HC0 hz3
    obtain ⟨k, mb, hk, rfl, hmk, hown, HB, HC, HN, hwz⟩ := hrel
    obtain ⟨a, cap, rfl⟩ := own_slice hown
    cases mb with
    | false =>
      have HK := Lib.hid (hmk rfl)
      clear hmk
      go_wp2
      go_ret
      refine ⟨_, rfl, ?_, HB.out⟩
      rw [← HK.out]
      exact hown
    | true =>
      clear hmk
      have ht := tot_le HJ.out
      go_wp2
      go_loopw [3, 5, 6] (fun o m i wr => ∃ (k2 v : Nat) (mb : Bool), k2 ≤ tot F ∧ v ≤ 3 ∧ i = .int .i64 v ∧ m = .bool mb ∧ wr.ownsRow W.heap.size 37 2 o k2 (enc2 (ordN F k2)) ∧ Hid (Below W.heap.size W wr) ∧ Hid (Cells3 wr (W.heap.size + 1) (pst F k2)) ∧ Hid (∀ b, o.ownBlock = some b → b ≠ W.heap.size + 1) ∧ W.heap.size + 1 < wr.heap.size ∧ ((mb = false ∧ k2 = k ∧ Hid (∀ u, u < v → ¬ Rdy F (pst F k) u)) ∨ (mb = true ∧ k2 = k + 1))) (fun _ _ i _ => 3 - (intOf i).toNat)
      case atStart => exact ⟨k, 0, false, hk, by omega, rfl, rfl, hown, HB, HC, HN, hwz, .inl ⟨rfl, rfl, fun u hu => absurd hu (Nat.not_lt_zero _)⟩⟩
      case round =>
        clear hown HB HC HN hwz
        obtain ⟨k2, v, mb, hk2, hv, rfl, rfl, hown, HB, HC, HN, hwz, hor⟩ := hrel
        obtain ⟨a, cap, rfl⟩ := own_slice hown
        rcases hor with ⟨rfl, rfl, HR⟩ | ⟨rfl, rfl⟩
        · by_cases hlt : v < 3
          · obtain ⟨p, hp⟩ : ∃ p, pst F k2 = p := ⟨_, rfl⟩
            have hpl := pst_le F k2 v
            rw [hp] at HC HR hpl
            have HP := Lib.hid hp
            clear hp
            have hlt' : (v : Int) < 3 := by omega
            have av := (HC.out v hlt).1
            obtain ⟨b5, o5, c5, a6, c6, ev, -, -, q5, q6, q7, -⟩ := (H.out.below HB.out).feed (j := v) (by rw [HJ.out.1]; exact hlt)
            rw [HJ.out.1] at ev
            simp only [Value.slice.injEq] at ev
            obtain ⟨rfl, -, rfl⟩ := ev
            unfold maxLen at q7
            by_cases he : p v = ln F v
            · have hee : ((p v : Int) == (ln F v : Int)) = true := by rw [beq_iff_eq]; omega
              have hnr := Lib.hid (show ¬ Rdy F p v from fun hh => by have := hh.1; omega)
              clear he
              have HBw := Lib.hid HB.out.drew
              go_wp2
              go_quiet (fail)
              obtain ⟨w7, hw7⟩ : ∃ w7, w7 = wr.drewN nq := ⟨_, rfl⟩
              have hb7 : Below wr.heap.size wr w7 := by rw [hw7]; (repeat' (first | exact Below.refl _ _ | assumption | refine Below.drew ?_ | refine below_drewN ?_ _ | refine Below.alloc ?_ (by omega) _ | refine Below.alloc ?_ (by simp; omega) _ | refine Below.alloc ?_ (by simp) _ | refine Below.setCell ?_ (by omega) _ | refine Below.setCell ?_ (by simp; omega) _ | refine Below.setCell ?_ (by simp) _))
              rw [← hw7]
              clear hw7
              have hown7 := own_below hown hb7
              have HB7 := Lib.hid (HB.out.trans (hb7.mono HB.out.size))
              have HC7 := Lib.hid (HC.out.below hb7)
              have hwz7 := Nat.lt_of_lt_of_le hwz hb7.size
              clear hb7 av q5 hown HB HC hwz HBw
              go_wp2
              go_roundw
              case rel =>
                refine ⟨k2, v + 1, false, hk2, by omega, by go_num, rfl, hown7, HB7, by rw [HP.out]; exact HC7, HN, hwz7, .inl ⟨rfl, rfl, fun u hu => ?_⟩⟩
                rw [HP.out]
                by_cases e : u = v
                · subst e; exact hnr.out
                · exact HR.out u (by omega)
              case measure => simp [intOf]; omega
            · have hee : ((p v : Int) == (ln F v : Int)) = false := by rw [beq_eq_false_iff_ne]; omega
              have hpv : p v < ln F v := by omega
              clear he
              go_wp2
              go_quiet (fail)
              obtain ⟨w7, hw7⟩ : ∃ w7, w7 = wr.drewN nq := ⟨_, rfl⟩
              have hb7 : Below wr.heap.size wr w7 := by rw [hw7]; (repeat' (first | exact Below.refl _ _ | assumption | refine Below.drew ?_ | refine below_drewN ?_ _ | refine Below.alloc ?_ (by omega) _ | refine Below.alloc ?_ (by simp; omega) _ | refine Below.alloc ?_ (by simp) _ | refine Below.setCell ?_ (by omega) _ | refine Below.setCell ?_ (by simp; omega) _ | refine Below.setCell ?_ (by simp) _))
              rw [← hw7]
              clear hw7
              have hown7 := own_below hown hb7
              have HB7 := Lib.hid (HB.out.trans (hb7.mono HB.out.size))
              have HC7 := Lib.hid (HC.out.below hb7)
              have hwz7 := Nat.lt_of_lt_of_le hwz hb7.size
              clear hb7 av q5 hown HB HC hwz hee
              go_wp2
              go_loopw [7, 8] (fun r i wq => ∃ (x : Nat) (b : Bool), x ≤ 3 ∧ i = .int .i64 x ∧ r = .bool b ∧ Hid (Below w7.heap.size w7 wq) ∧ Hid (b = true ↔ ∀ y, y < x → y = v ∨ ck F v (p v) y ≤ (p y : Int))) (fun _ i _ => 3 - (intOf i).toNat)
              case atStart => exact ⟨0, true, by omega, rfl, rfl, Below.refl _ _, ⟨fun _ y hy => absurd hy (Nat.not_lt_zero _), fun _ => rfl⟩⟩
              case round =>
                obtain ⟨x, b, hx, rfl, rfl, HQ, HY⟩ := hrel
                obtain ⟨wq', rfl⟩ : ∃ wq' : World, wq' = wr := ⟨_, rfl⟩
                by_cases hx3 : x < 3
                · have hx3' : (x : Int) < 3 := by omega
                  have fin : ∀ (c : Bool) (n : Nat), (c = true ↔ (b = true ∧ (x = v ∨ ck F v (p v) x ≤ (p x : Int)))) → Hid (Below w7.heap.size w7 (wq'.drewN n)) ∧ Hid (c = true ↔ ∀ y, y < x + 1 → y = v ∨ ck F v (p v) y ≤ (p y : Int)) := fun c n hc =>
                    ⟨by have := HQ.out; show Below _ _ _; (repeat' (first | exact Below.refl _ _ | assumption | refine Below.drew ?_ | refine below_drewN ?_ _ | refine Below.alloc ?_ (by omega) _ | refine Below.alloc ?_ (by simp; omega) _ | refine Below.alloc ?_ (by simp) _ | refine Below.setCell ?_ (by omega) _ | refine Below.setCell ?_ (by simp; omega) _ | refine Below.setCell ?_ (by simp) _)), all_step HY.out hc⟩
                  have FIN := Lib.hid fin
                  clear fin
                  cases b with
                  | false =>
                    go_wp2
                    go_quiet (fail)
                    go_wp2
                    go_roundw
                    case rel => exact ⟨x + 1, false, by omega, by go_num, rfl, FIN.out false _ (by simp)⟩
                    case measure => simp [intOf]; omega
                  | true =>
                    by_cases hxv : x = v
                    · have hxv' : ((x : Int) == (v : Int)) = true := by rw [beq_iff_eq]; omega
                      have HXV := Lib.hid hxv
                      clear hxv
                      go_wp2
                      go_quiet (fail)
                      go_wp2
                      go_roundw
                      case rel => exact ⟨x + 1, true, by omega, by go_num, rfl, FIN.out true _ (by simp [HXV.out])⟩
                      case measure => simp [intOf]; omega
                    · have hxv' : ((x : Int) == (v : Int)) = false := by rw [beq_eq_false_iff_ne]; omega
                      have HXV := Lib.hid hxv
                      clear hxv
                      have HCq := HC7.out.below HQ.out
                      have av := (HCq v hlt).1
                      have ax := (HCq x hx3).1
                      obtain ⟨b8, o8, c8, bA, oA, cA, aB, cB, ev, -, -, d1, -, d1m, d2, -, -, hrr⟩ := (H.out.below (HB7.out.trans (HQ.out.mono HB7.out.size))).entry (j := v) (i := p v) (by rw [HJ.out.1]; exact hlt) hpv
                      rw [HJ.out.1] at ev
                      simp only [Value.slice.injEq, Option.some.injEq, Addr.mk.injEq, and_true] at ev
                      obtain ⟨⟨rfl, rfl⟩, -, rfl⟩ := ev
                      have hL := (HJ.out.2.2.1 v hlt (p v) hpv).1
                      obtain ⟨b9, o9, c9, y, ev, -, m9, d3, HYY⟩ := hrr.num' hL hx3
                      rw [hL] at d2
                      rw [hL] at ev
                      simp only [Value.slice.injEq] at ev
                      obtain ⟨rfl, -, rfl⟩ := ev
                      unfold maxLen at d1m m9
                      have hpv' : (p v : Int) < (ln F v : Int) := by omega
                      clear hrr hL HCq
                      obtain ⟨c, hc⟩ : ∃ c, decide (y ≤ (p x : Int)) = c := ⟨_, rfl⟩
                      have HCC := Lib.hid hc
                      clear hc
                      go_wp2
                      go_quiet (fail)
                      go_wp2
                      go_roundw
                      case rel =>
                        refine ⟨x + 1, _, by omega, by go_num, rfl, FIN.out _ _ ?_⟩
                        have : ck F v (p v) x = y := HYY.out
                        rw [this]
                        simp [HXV.out]
                      case measure => simp [intOf]; omega
                · obtain rfl : x = 3 := by omega
                  have HRD := Lib.hid (rdy_iff hpv HY.out)
                  have hown9 := own_below hown7 HQ.out
                  have HB9 := Lib.hid (HB7.out.trans (HQ.out.mono HB7.out.size))
                  have HC9 := Lib.hid (HC7.out.below HQ.out)
                  have hwz9 := Nat.lt_of_lt_of_le hwz7 HQ.out.size
                  clear hown7 HB7 HC7 hwz7 HQ HY
                  cases b with
                  | false =>
                    have hnr := Lib.hid (show ¬ Rdy F p v from fun hh => by have := HRD.out.2 hh; cases this)
                    go_wp2
                    go_roundw
                    case rel =>
                      refine ⟨k2, v + 1, false, hk2, by omega, by go_num, rfl, hown9, HB9, by rw [HP.out]; exact HC9, HN, hwz9, .inl ⟨rfl, rfl, fun u hu => ?_⟩⟩
                      rw [HP.out]
                      by_cases e : u = v
                      · subst e; exact hnr.out
                      · exact HR.out u (by omega)
                    case measure => simp [intOf]; omega
                  | true =>
                    have hr := HRD.out.1 rfl
                    have HE := Lib.hid (nxt_first hlt hr HR.out)
                    have hkt : k2 < tot F := by
                      have := sm_pst HJ.out k2 hk2
                      have hl := pst_le F k2
                      have h0 := hl 0; have h1 := hl 1; have h2 := hl 2
                      have hrr := hr.1
                      rw [← HP.out] at hrr
                      unfold sm at this
                      unfold tot at *
                      obtain rfl | rfl | rfl : v = 0 ∨ v = 1 ∨ v = 2 := by omega
                      all_goals omega
                    have hw4 : IntKind.i64.wrap ((p v : Int) + 1) = (p v : Int) + 1 := by
                      rw [IntKind.wrap_i64]; have := HJ.out.2.1 v hlt; omega
                    clear hr HRD
                    have hsz2 := HB9.out.size
                    have av := (HC9.out v hlt).1
                    have fv' := (HC9.out v hlt).2
                    go_wp2_with (at_builtin; refine wpList_app2_at _ rfl _ _ 47 rfl W.heap.size 37 Try.underlying47 info_ref _ k2 (ordN F k2) (ordN_len F k2) rfl hown9 _ _ _ _ rfl (by omega) hsz2 ?_)
                    intro v' w4 hown4 hg4 hloc
                    have hne : (Value.slice a k2 cap).ownBlock ≠ some (W.heap.size + 1) := fun e => HN.out _ e rfl
                    have HB4 := Lib.hid (HB9.out.grown hg4 hsz2 (fun b hb => (hown9.lt b hb).1))
                    have HC4 := Lib.hid (HC9.out.grown hg4 hne)
                    have HN4 : Hid (∀ b, v'.ownBlock = some b → b ≠ W.heap.size + 1) := fun b hb => by
                      rcases hloc b hb with h1 | h1
                      · exact HN.out b h1
                      · omega
                    have hwz4 := Nat.lt_of_lt_of_le hwz9 hg4.size
                    have HX : Hid (ordN F (k2 + 1) = ordN F k2 ++ [((v : Int), (p v : Int))]) := by
                      show _ = _
                      rw [ordN_succ, rf_of (by rw [HP.out]; exact HE.out), HP.out]
                    have HPS : Hid (pst F (k2 + 1) = inc p v) := by
                      show _ = _
                      rw [pst_succ (by rw [HP.out]; exact HE.out), HP.out]
                    rw [← HX.out] at hown4
                    obtain ⟨a4, cap4, rfl⟩ := own_slice hown4
                    clear hown9 hg4 hloc HC9 HB9 HN hne hwz9 hsz2 av fv'
                    have av := (HC4.out v hlt).1
                    have fv' := (HC4.out v hlt).2
                    go_wp2
                    go_roundw
                    case rel =>
                      refine ⟨k2 + 1, v + 1, true, by omega, by omega, by go_num, rfl, ?_, HB4.out.setCell (by show _ ≤ W.heap.size + 1; omega) _, ?_, HN4, by simpa using hwz4, .inr ⟨rfl, rfl⟩⟩
                      · exact own_chg hown4 (Chg.setC (T := fun b => b = W.heap.size + 1) (Chg.refl _ _) rfl) (fun b hb e => HN4.out b hb e)
                      · rw [HPS.out]
                        exact HC4.out.inc hlt (by first | rfl | omega)
                    case measure => simp [intOf]; omega
          · obtain rfl : v = 3 := by omega
            have hkt : k2 = tot F := by
              by_cases e : k2 < tot F
              · obtain ⟨w, hw⟩ := left HJ.out (k := k2) (by rw [sm_pst HJ.out k2 hk2]; exact e)
                have := nxt_some hw
                exact absurd this.2.1 (HR.out w this.1)
              · omega
            have HK := Lib.hid hkt
            go_wp2
            go_roundw
            case rel => exact ⟨k2, false, hk2, rfl, fun _ => HK.out, hown, HB, HC, HN, hwz⟩
            case measure => simp [lenV, boolV]
        · go_wp2
          all_goals go_roundw
          all_goals first
            | (case rel => exact ⟨k + 1, true, hk2, rfl, fun h => by (cases h), hown, HB, HC, HN, hwz⟩)
            | skip
          all_goals simp [lenV, boolV]
          all_goals omega
end Go.Proofs.Ythnepmhkeceadaa
