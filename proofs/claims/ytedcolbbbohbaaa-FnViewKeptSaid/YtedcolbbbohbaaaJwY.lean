/- Walks: ViewKept. -/
import Derived.Test.YtedcolbbbohbaaaJwW
namespace Go.Proofs.Ytedcolbbbohbaaa
open Go.RowKit
/-- how many places at the beginning of two orders are equal -/
def cpl : List P2 → List P2 → Nat
  | x :: xs, y :: ys => if x = y then cpl xs ys + 1 else 0
  | _, _ => 0
theorem cpl_eq : ∀ (a b : List P2) (n : Nat) (d : P2), n ≤ a.length → n ≤ b.length → (∀ j, j < n → a.getD j d = b.getD j d) → (n = a.length ∨ n = b.length ∨ a.getD n d ≠ b.getD n d) → cpl a b = n := by
  intro a
  induction a with
  | nil => intro b n d h _ _ _; simp at h; subst h; cases b <;> rfl
  | cons x xs ih =>
    intro b n d h1 h2 h3 h4
    cases b with
    | nil => simp at h2; subst h2; rfl
    | cons y ys =>
      cases n with
      | zero =>
        rcases h4 with h4 | h4 | h4
        · simp at h4
        · simp at h4
        · simp [List.getD] at h4
          simp [cpl, h4]
      | succ n =>
        have hxy : x = y := by have := h3 0 (by omega); simpa [List.getD] using this
        subst hxy
        simp only [List.length_cons] at h1 h2 h4
        have := ih ys n d (by omega) (by omega) (fun j hj => by have := h3 (j + 1) (by omega); simpa [List.getD] using this) (by
          rcases h4 with h4 | h4 | h4
          · exact .inl (by omega)
          · exact .inr (.inl (by omega))
          · exact .inr (.inr (by simpa [List.getD] using h4)))
        simp [cpl, this]
theorem cpl_le : ∀ (a b : List P2), cpl a b ≤ a.length ∧ cpl a b ≤ b.length := by
  intro a
  induction a with
  | nil => intro b; cases b <;> simp [cpl]
  | cons x xs ih =>
    intro b
    cases b with
    | nil => simp [cpl]
    | cons y ys =>
      have := ih ys
      unfold cpl
      split <;> simp <;> omega
theorem cpl_same : ∀ (a b : List P2) (d : P2) (j : Nat), j < cpl a b → a.getD j d = b.getD j d := by
  intro a
  induction a with
  | nil => intro b d j h; cases b <;> simp [cpl] at h
  | cons x xs ih =>
    intro b d j h
    cases b with
    | nil => simp [cpl] at h
    | cons y ys =>
      unfold cpl at h
      split at h
      · rename_i e
        subst e
        cases j with
        | zero => rfl
        | succ j => have := ih ys d j (by omega); simpa [List.getD] using this
      · omega
theorem cpl_stop : ∀ (a b : List P2) (d : P2), cpl a b = a.length ∨ cpl a b = b.length ∨ a.getD (cpl a b) d ≠ b.getD (cpl a b) d := by
  intro a
  induction a with
  | nil => intro b d; left; cases b <;> rfl
  | cons x xs ih =>
    intro b d
    cases b with
    | nil => right; left; rfl
    | cons y ys =>
      unfold cpl
      split
      · rename_i e
        rcases ih ys d with h | h | h
        · left; simp [h]
        · right; left; simp [h]
        · right; right; simpa [List.getD] using h
      · rename_i e
        right; right
        simpa [List.getD] using e
theorem cpl_take (a b : List P2) : a.take (cpl a b) = b.take (cpl a b) := by
  have h := cpl_le a b
  refine getD_ext (0, 0) (by rw [List.length_take, List.length_take]; omega) fun j hj => ?_
  rw [List.length_take] at hj
  have := cpl_same a b (0, 0) j (by omega)
  have hj' : j < cpl a b := by omega
  simpa [List.getD, List.getElem?_take, hj'] using this
open Classical in
noncomputable def vkv (F G : Fd) : Int := if Grw F G then (cpl (jo F) (jo G) : Int) else -1
theorem vkv_t {F G : Fd} (h : Grw F G) : vkv F G = (cpl (jo F) (jo G) : Int) := by unfold vkv; rw [if_pos h]
theorem vkv_f {F G : Fd} (h : ¬ Grw F G) : vkv F G = -1 := by unfold vkv; rw [if_neg h]
theorem jo_len_le {F G : Fd} (h : Grw F G) : (jo F).length ≤ (jo G).length := by rw [jo_len h.1, jo_len h.2.1]; exact h.tot
theorem RetI.of {a b : Int} {W W' : World} (h : a = b) (hb : Below W.heap.size W W') : RetI b W (.returned (.int .i64 a)) W' := by subst h; exact ⟨rfl, hb⟩
theorem l31Order_o {S : Nat → Prop} (F : Fd) (fv : Value) (W : World) (h : RdF S W fv F) (hj : JV F) : Calls Try.prog 46 #[fv] W (OrdPost F W) :=
  (l31Order_c F fv W h hj).mono fun _ _ h => ordPost_of (by rw [jo_t hj, ordN_len]; exact h)
set_option maxRecDepth 100000 in
set_option maxHeartbeats 3200000 in
theorem viewKept_c {S S' : Nat → Prop} (F G : Fd) (fv gv : Value) (W : World) (hf : RdF S W fv F) (hg : RdF S' W gv G) :
    Calls Try.prog 24 #[fv, gv] W (RetI (vkv F G) W) := by
  have HF := Lib.hid hf
  have HG := Lib.hid hg
  obtain ⟨z, hz⟩ : ∃ z, vkv F G = z := ⟨_, rfl⟩
  rw [hz]
  have HZ := Lib.hid hz
  clear hf hg hz
  go_enter Try.func24, Try.ntmps24
  go_wp2_with fail
  refine (viewGrows_c F G _ _ _ HF.out HG.out).mono ?_
  rintro e w1 ⟨rfl, hb1⟩
  have HB1 := Lib.hid hb1
  clear hb1
  by_cases hgr : Grw F G
  · rw [vgrB_grw hgr]
    have GR := Lib.hid hgr
    clear hgr
    go_wp2_with fail
    refine (joinOrder_o F _ _ (HF.out.below HB1.out)).mono ?_
    rintro e w2 ⟨ao, ON, Oc, rfl, Ob, O1, O2, hO, hb2⟩
    have HB2 := Lib.hid (HB1.out.trans (hb2.mono HB1.out.size))
    have HO := Lib.hid hO
    unfold maxLen at O2
    clear hO hb2
    go_wp2_with fail
    refine (joinOrder_o G _ _ (HG.out.below HB2.out)).mono ?_
    rintro e w3 ⟨ap, PN, Pc, rfl, Pb, P1, P2, hP, hb3⟩
    have HB3 := Lib.hid (HB2.out.trans (hb3.mono HB2.out.size))
    have HO3 := Lib.hid (HO.out.below hb3)
    have HP := Lib.hid hP
    unfold maxLen at P2
    have hNP : ON ≤ PN := by rw [HO.out.1, hP.1]; exact jo_len_le GR.out
    clear hP hb3
    go_wp2
    go_loopw [7] (fun n' wr => ∃ n : Nat, n ≤ ON ∧ n' = .int .i64 n ∧ Hid (Below w3.heap.size w3 wr) ∧ Hid (∀ j, j < n → (jo F).getD j (0, 0) = (jo G).getD j (0, 0))) (fun n' _ => ON - (intOf n').toNat)
    case atStart => exact ⟨0, Nat.zero_le _, rfl, Below.refl _ _, fun j hj => absurd hj (Nat.not_lt_zero _)⟩
    case round =>
      obtain ⟨n, hn, rfl, HBr, HE⟩ := hrel
      have HD : Hid (∀ n, Below w3.heap.size w3 (wr.drewN n)) := fun n => by have := HBr.out; (repeat' (first | exact Below.refl _ _ | assumption | refine Below.drew ?_ | refine below_drewN ?_ _ | refine Below.alloc ?_ (by omega) _ | refine Below.alloc ?_ (by simp; omega) _ | refine Below.alloc ?_ (by simp) _ | refine Below.setCell ?_ (by omega) _ | refine Below.setCell ?_ (by simp; omega) _ | refine Below.setCell ?_ (by simp) _))
      by_cases hlt : n < ON
      · have hlt' : (n : Int) < (ON : Int) := by omega
        obtain ⟨g, o, x, y, rfl, d1, d2, HX, x3, yL⟩ := (HO3.out.below HBr.out).at GR.out.1 (k := n) hlt
        obtain ⟨g', o', x', y', rfl, e1, e2, HX', x3', yL'⟩ := (HP.out.below HBr.out).at GR.out.2.1 (k := n) (by omega)
        have hnP : (n : Int) < (PN : Int) := by omega
        have hA : Hid ((jo F).getD n (0, 0) = ((x : Int), (y : Int))) := by show _ = _; rw [jo_at GR.out.1 (by rw [← HO.out.tot GR.out.1]; exact hlt), HX.out.1, HX.out.2]
        have hB : Hid ((jo G).getD n (0, 0) = ((x' : Int), (y' : Int))) := by show _ = _; rw [jo_at GR.out.2.1 (by rw [← HP.out.tot GR.out.2.1]; omega), HX'.out.1, HX'.out.2]
        by_cases hxy : x = x' ∧ y = y'
        · obtain ⟨rfl, rfl⟩ := hxy
          have HE' : Hid (∀ j, j < n + 1 → (jo F).getD j (0, 0) = (jo G).getD j (0, 0)) := fun j hj => by
            by_cases e : j = n
            · subst e; rw [hA.out, hB.out]
            · exact HE.out j (by omega)
          go_wp2
          go_quiet (fail)
          go_wp2
          go_roundw
          case rel => exact ⟨n + 1, by omega, by go_num, HD.out _, HE'⟩
          case measure => simp [intOf]; omega
        · have hZ' : Hid ((n : Int) = z) := by
            show _ = _
            rw [← HZ.out, vkv_t GR.out, cpl_eq (jo F) (jo G) n (0, 0) (by rw [← HO.out.1]; omega) (by rw [← HP.out.1]; omega) HE.out (.inr (.inr (by
              rw [hA.out, hB.out]
              intro e
              simp only [Prod.mk.injEq] at e
              exact hxy ⟨by omega, by omega⟩)))]
          have hc : ((x : Int) == (x' : Int)) = false ∨ (((x : Int) == (x' : Int)) = true ∧ ((y : Int) == (y' : Int)) = false) := by
            rw [beq_eq_false_iff_ne, beq_eq_false_iff_ne, beq_iff_eq]
            by_cases e : x = x'
            · exact .inr ⟨by omega, fun h => hxy ⟨e, by omega⟩⟩
            · exact .inl (by omega)
          clear hxy
          rcases hc with heq | ⟨heq, heq2⟩
          all_goals
            go_wp2
            go_quiet (fail)
            go_wp2
            go_ret
            exact RetI.of hZ'.out (HB3.out.trans ((HD.out _).mono HB3.out.size))
      · obtain rfl : n = ON := by omega
        have hZ' : Hid ((n : Int) = z) := by
          show _ = _
          rw [← HZ.out, vkv_t GR.out, cpl_eq (jo F) (jo G) n (0, 0) (by rw [← HO.out.1]; exact Nat.le_refl _) (by rw [← HP.out.1]; omega) HE.out (.inl HO.out.1)]
        go_wp2
        go_quiet (fail)
        go_wp2
        go_ret
        exact RetI.of hZ'.out (HB3.out.trans ((HD.out _).mono HB3.out.size))
  · rw [vgrB_not hgr]
    have hZ' := Lib.hid ((vkv_f hgr).symm.trans HZ.out)
    clear hgr
    go_wp2
    go_ret
    exact RetI.of hZ'.out HB1.out
set_option maxRecDepth 100000 in
set_option maxHeartbeats 3200000 in
theorem specViewKept_c {S S' : Nat → Prop} (F G : Fd) (fv gv : Value) (W : World) (hf : RdF S W fv F) (hg : RdF S' W gv G) :
    Calls Try.prog 30 #[fv, gv] W (RetI (vkv F G) W) := by
  have HF := Lib.hid hf
  have HG := Lib.hid hg
  obtain ⟨z, hz⟩ : ∃ z, vkv F G = z := ⟨_, rfl⟩
  rw [hz]
  have HZ := Lib.hid hz
  clear hf hg hz
  go_enter Try.func30, Try.ntmps30
  go_wp2_with fail
  refine (specViewGrows_c F G _ _ _ HF.out HG.out).mono ?_
  rintro e w1 ⟨rfl, hb1⟩
  have HB1 := Lib.hid hb1
  clear hb1
  by_cases hgr : Grw F G
  · rw [vgrB_grw hgr]
    have GR := Lib.hid hgr
    clear hgr
    go_wp2_with fail
    refine (l31Order_o F _ _ (HF.out.below HB1.out) GR.out.1).mono ?_
    rintro e w2 ⟨ao, ON, Oc, rfl, Ob, O1, O2, hO, hb2⟩
    have HB2 := Lib.hid (HB1.out.trans (hb2.mono HB1.out.size))
    have HO := Lib.hid hO
    unfold maxLen at O2
    clear hO hb2
    go_wp2_with fail
    refine (l31Order_o G _ _ (HG.out.below HB2.out) GR.out.2.1).mono ?_
    rintro e w3 ⟨ap, PN, Pc, rfl, Pb, P1, P2, hP, hb3⟩
    have HB3 := Lib.hid (HB2.out.trans (hb3.mono HB2.out.size))
    have HO3 := Lib.hid (HO.out.below hb3)
    have HP := Lib.hid hP
    unfold maxLen at P2
    have hNP : ON ≤ PN := by rw [HO.out.1, hP.1]; exact jo_len_le GR.out
    clear hP hb3
    go_wp2
    go_loopw [7] (fun n' wr => ∃ n : Nat, n ≤ ON ∧ n' = .int .i64 n ∧ Hid (Below w3.heap.size w3 wr) ∧ Hid (∀ j, j < n → (jo F).getD j (0, 0) = (jo G).getD j (0, 0))) (fun n' _ => ON - (intOf n').toNat)
    case atStart => exact ⟨0, Nat.zero_le _, rfl, Below.refl _ _, fun j hj => absurd hj (Nat.not_lt_zero _)⟩
    case round =>
      obtain ⟨n, hn, rfl, HBr, HE⟩ := hrel
      have HD : Hid (∀ n, Below w3.heap.size w3 (wr.drewN n)) := fun n => by have := HBr.out; (repeat' (first | exact Below.refl _ _ | assumption | refine Below.drew ?_ | refine below_drewN ?_ _ | refine Below.alloc ?_ (by omega) _ | refine Below.alloc ?_ (by simp; omega) _ | refine Below.alloc ?_ (by simp) _ | refine Below.setCell ?_ (by omega) _ | refine Below.setCell ?_ (by simp; omega) _ | refine Below.setCell ?_ (by simp) _))
      by_cases hlt : n < ON
      · have hlt' : (n : Int) < (ON : Int) := by omega
        obtain ⟨g, o, x, y, rfl, d1, d2, HX, x3, yL⟩ := (HO3.out.below HBr.out).at GR.out.1 (k := n) hlt
        obtain ⟨g', o', x', y', rfl, e1, e2, HX', x3', yL'⟩ := (HP.out.below HBr.out).at GR.out.2.1 (k := n) (by omega)
        have hnP : (n : Int) < (PN : Int) := by omega
        have hA : Hid ((jo F).getD n (0, 0) = ((x : Int), (y : Int))) := by show _ = _; rw [jo_at GR.out.1 (by rw [← HO.out.tot GR.out.1]; exact hlt), HX.out.1, HX.out.2]
        have hB : Hid ((jo G).getD n (0, 0) = ((x' : Int), (y' : Int))) := by show _ = _; rw [jo_at GR.out.2.1 (by rw [← HP.out.tot GR.out.2.1]; omega), HX'.out.1, HX'.out.2]
        by_cases hxy : x = x' ∧ y = y'
        · obtain ⟨rfl, rfl⟩ := hxy
          have HE' : Hid (∀ j, j < n + 1 → (jo F).getD j (0, 0) = (jo G).getD j (0, 0)) := fun j hj => by
            by_cases e : j = n
            · subst e; rw [hA.out, hB.out]
            · exact HE.out j (by omega)
          go_wp2
          go_quiet (fail)
          go_wp2
          go_roundw
          case rel => exact ⟨n + 1, by omega, by go_num, HD.out _, HE'⟩
          case measure => simp [intOf]; omega
        · have hZ' : Hid ((n : Int) = z) := by
            show _ = _
            rw [← HZ.out, vkv_t GR.out, cpl_eq (jo F) (jo G) n (0, 0) (by rw [← HO.out.1]; omega) (by rw [← HP.out.1]; omega) HE.out (.inr (.inr (by
              rw [hA.out, hB.out]
              intro e
              simp only [Prod.mk.injEq] at e
              exact hxy ⟨by omega, by omega⟩)))]
          have hc : ((x : Int) == (x' : Int)) = false ∨ (((x : Int) == (x' : Int)) = true ∧ ((y : Int) == (y' : Int)) = false) := by
            rw [beq_eq_false_iff_ne, beq_eq_false_iff_ne, beq_iff_eq]
            by_cases e : x = x'
            · exact .inr ⟨by omega, fun h => hxy ⟨e, by omega⟩⟩
            · exact .inl (by omega)
          clear hxy
          rcases hc with heq | ⟨heq, heq2⟩
          all_goals
            go_wp2
            go_quiet (fail)
            go_wp2
            go_ret
            exact RetI.of hZ'.out (HB3.out.trans ((HD.out _).mono HB3.out.size))
      · obtain rfl : n = ON := by omega
        have hZ' : Hid ((n : Int) = z) := by
          show _ = _
          rw [← HZ.out, vkv_t GR.out, cpl_eq (jo F) (jo G) n (0, 0) (by rw [← HO.out.1]; exact Nat.le_refl _) (by rw [← HP.out.1]; omega) HE.out (.inl HO.out.1)]
        go_wp2
        go_quiet (fail)
        go_wp2
        go_ret
        exact RetI.of hZ'.out (HB3.out.trans ((HD.out _).mono HB3.out.size))
  · rw [vgrB_not hgr]
    have hZ' := Lib.hid ((vkv_f hgr).symm.trans HZ.out)
    clear hgr
    go_wp2
    go_ret
    exact RetI.of hZ'.out HB1.out
end Go.Proofs.Ytedcolbbbohbaaa
