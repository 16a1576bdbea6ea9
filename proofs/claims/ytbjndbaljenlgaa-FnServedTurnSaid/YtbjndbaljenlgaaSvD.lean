/- Walks: the reference's l23Turn and ChokeServed. -/
import Derived.Test.YtbjndbaljenlgaaSvC
import Derived.Maps.AppendAt
namespace Go.Proofs.Ytbjndbaljenlgaa
open Go.RowKit
set_option linter.unusedSimpArgs false
theorem filt_snoc (p : Nat → Bool) (k : Nat) : (List.range (k + 1)).filter p = (List.range k).filter p ++ (if p k = true then [k] else []) := by
  rw [List.range_succ, List.filter_append]
  congr 1
  by_cases h : p k = true
  · simp [h]
  · simp [h]
def pr (G : List Int) (i : Nat) : Bool := decide (¬ rk G i < 3)
def ps (G : List Int) (t : Int) (i : Nat) : Bool := decide (rk G i < 3 ∨ (i : Int) = tn G t)
theorem filt_len (p : Nat → Bool) (k : Nat) : ((List.range k).filter p).length ≤ k := Nat.le_trans (List.length_filter_le _ _) (by simp)
set_option maxHeartbeats 800000 in
theorem l23Turn_c {S : Nat → Prop} (v : Value) (G : List Int) (t : Int) (w : World) (h : RdS S 1 w v G.length (enc1 G)) (hn : G.length ≤ 1000) (ht : 0 ≤ t ∧ t ≤ 999) : Calls Try.prog 69 #[v, .int .i64 t] w fun e w' => e = .returned (.int .i64 (tn G t)) ∧ Below w.heap.size w w' := by
  have BC := Lib.hid (l23Best_c v G w h hn)
  obtain ⟨a, c, rfl, h1, h2⟩ := h.shape
  unfold maxLen at h2
  clear h
  go_enter Try.func69, Try.ntmps69
  go_wp2_with fail
  refine (BC.out).mono ?_
  rintro e w1 ⟨u, N, rfl, o1, hN3, hmem, hb1⟩
  obtain ⟨a1, c1, rfl⟩ := own_slice o1
  have O1 := Lib.hid o1
  have HM := Lib.hid hmem
  have HB1 := Lib.hid hb1
  clear o1 hmem hb1 BC
  go_wp2
  go_loopw [6, 7] (fun o i wr => ∃ (k : Nat), k ≤ G.length ∧ i = .int .i64 k ∧ wr.ownsRow w1.heap.size 3 1 o ((List.range k).filter (pr G)).length (enc1 (castL ((List.range k).filter (pr G)))) ∧ Hid (Below w1.heap.size w1 wr)) (fun _ i _ => G.length - (intOf i).toNat)
  case atStart => exact ⟨0, Nat.zero_le _, rfl, own_empty _ _ _ 1 (Nat.le_refl _), by show Below _ _ _; (repeat' (first | exact Below.refl _ _ | assumption | refine Below.drew ?_ | refine below_drewN ?_ _ | refine Below.alloc ?_ (by omega) _ | refine Below.alloc ?_ (by simp; omega) _ | refine Below.alloc ?_ (by simp) _ | refine Below.setCell ?_ (by omega) _ | refine Below.setCell ?_ (by simp; omega) _ | refine Below.setCell ?_ (by simp) _))⟩
  case round =>
    obtain ⟨k, hk, rfl, ho, HB⟩ := hrel
    by_cases hlt : k < G.length
    · have hsz := HB.out.size
      go_wp2_with fail
      refine (l1Has_c _ (castL N) k _ (by rw [castL_len]; exact Rd.of_own (own_below O1.out HB.out))).mono ?_
      rintro e w' ⟨rfl, rfl⟩
      rw [inL_cast]
      by_cases hin : k ∈ N
      · rw [decide_eq_true hin]
        have hp : pr G k = false := by
          have := (mem_bst.1 ((HM.out k).1 hin)).2
          simp [pr, this]
        have hf := filt_snoc (pr G) k
        rw [hp] at hf
        simp only [Bool.false_eq_true, if_false, List.append_nil] at hf
        rw [← hf] at ho
        clear hf hp hin
        go_wp2
        go_roundw
        case rel => exact ⟨k + 1, by omega, by go_num, ho, HB⟩
        case measure => simp [intOf]; omega
      · rw [decide_eq_false hin]
        have hp : pr G k = true := by
          have : ¬ rk G k < 3 := fun h => hin ((HM.out k).2 (mem_bst.2 ⟨hlt, h⟩))
          simp only [pr, decide_eq_true_eq]
          exact this
        have hf := filt_snoc (pr G) k
        rw [if_pos hp] at hf
        have hfl := filt_len (pr G) k
        obtain ⟨R, hR⟩ : ∃ R, (List.range k).filter (pr G) = R := ⟨_, rfl⟩
        rw [hR] at ho hf hfl
        have HF := Lib.hid hf
        clear hp hin hR hf
        go_wp2_with (at_builtin; refine wpList_app1 _ rfl _ _ 48 rfl w1.heap.size 3 Try.underlying48 info_intI _ (castL R) rfl (by rw [castL_len]; exact ho) _ _ _ rfl (by rw [castL_len]; omega) hsz ?_)
        intro v4 w4 qs hqs hql o4 hg4
        have e4 : qs = castL (R ++ [k]) := by rw [hqs.out]; simp [castL]
        subst e4
        rw [castL_len, ← HF.out] at o4
        have HB4 := Lib.hid (HB.out.grown hg4 hsz (fun j hj => (own_block ho j hj).1))
        clear hqs hql hg4 ho HB
        go_wp2
        go_roundw
        case rel => exact ⟨k + 1, by omega, by go_num, o4, HB4⟩
        case measure => simp [intOf]; omega
    · obtain rfl : k = G.length := by omega
      have hrs : (List.range G.length).filter (pr G) = rst G := rfl
      rw [hrs] at ho
      have HT := Lib.hid (show tn G t = if (rst G).length = 0 then -1 else (((rst G).getD (t.toNat % (rst G).length) 0 : Nat) : Int) from rfl)
      have hrl := rst_len G
      obtain ⟨R, hR⟩ : ∃ R, rst G = R := ⟨_, rfl⟩
      rw [hR] at ho HT hrl
      have HBZ := Lib.hid (HB1.out.trans (HB.out.mono HB1.out.size))
      clear hrs hR
      by_cases h0 : R.length = 0
      · obtain ⟨a2, c2, rfl⟩ : ∃ a c, _ = Value.slice a 0 c := by have := own_slice ho; rwa [h0] at this
        rw [if_pos h0] at HT
        clear ho h0
        go_wp2
        go_ret
        exact ⟨by rw [HT.out]; rfl, HBZ.out⟩
      · obtain ⟨g, c2, rfl, hg1, hg3, hg4⟩ : ∃ g cap, _ = Value.slice (some ⟨g, 0, none⟩) R.length cap ∧ w1.heap.size ≤ g ∧ R.length ≤ cap ∧ cap ≤ maxLen := by
          rcases own_cases ho with ⟨-, h0', -⟩ | ⟨g, cap, q1, q2, q3, q4, q5⟩
          · omega
          · exact ⟨g, cap, q1, q2, q4, q5⟩
        unfold maxLen at hg4
        rw [if_neg h0] at HT
        have htn : (t.toNat : Int) = t := Int.toNat_of_nonneg ht.1
        have hk1 : t.tmod (R.length : Int) = ((t.toNat % R.length : Nat) : Int) := by rw [Int.tmod_eq_emod_of_nonneg ht.1, Int.natCast_emod, htn]
        have hk2 : t.toNat % R.length < R.length := Nat.mod_lt _ (by omega)
        obtain ⟨m, hk3⟩ : ∃ m, t.toNat % R.length = m := ⟨_, rfl⟩
        rw [hk3] at hk1 hk2 HT
        clear htn
        have hk4 : (m : Int) < (R.length : Int) := by omega
        have hn0 : ¬ (R.length : Int) = 0 := by omega
        have s1 := ho.cellAt m (by omega)
        rw [enc1_at (castL R) m 0 (by rw [castL_len]; exact hk2), castL_at R m hk2] at s1
        obtain ⟨z, hz⟩ : ∃ z : Nat, R.getD m 0 = z := ⟨_, rfl⟩
        rw [hz] at s1 HT
        have hkw : IntKind.i64.wrap (m : Int) = (m : Int) := IntWalk.i64_in _ (by omega)
        clear ho hk3 hz
        go_wp2
        go_ret
        exact ⟨by rw [HT.out]; rfl, HBZ.out⟩
/-- append of one cell to a slice of the call's own; where the new slice lies -/
theorem wpList_appLI {P : Program} (w : World) {ops : Array Oper} {rest : List Oper} {o : Oper} {a : Act} {Q : Exit → Act → World → Prop} (hgd : o.guard = none) (s x : Operand) (t : TypeId)
    (ho : o.op = .call { callee := .builtin .append, args := #[s, x], argTypes := #[t, t] }) (base : Nat) (e : TypeId) (hu : P.underlying t = some (.slice e)) (z : Value) (by_ : Nat)
    (hinfo : (P.info? e).map (fun i => (i.zero, i.size, i.bytes)) = some (some z, 1, by_)) (hz : z.cells.size = 1) (hby : by_ ≤ 16) (v : Value) (n : Nat) (flat : List Value) (hs : a.eval s = v) (hown : w.ownsRow base e 1 v n flat)
    (u : Value) (hu1 : u.oneCell' = true) (T : TypeId) (c : Nat) (hx : a.eval x = .slice (some ⟨w.heap.size, 0, none⟩) 1 c) (hn : n ≤ 1048576) (hb : base ≤ w.heap.size)
    (h : ∀ v' w', w'.ownsRow base e 1 v' (n + 1) (flat ++ [u]) → w.grownBy w' v.ownBlock → (v'.ownBlock = v.ownBlock ∨ v'.ownBlock = some (w.heap.size + 1)) → wpList P ops Q rest (a.put o.dst v') w') :
    wpList P ops Q (o :: rest) a (w.alloc (.cells #[u] T)) := by
  obtain ⟨i0, hi, hz0, hz1, hz2⟩ := info_parts hinfo
  refine wpList_append_own_at _ hgd s x t ho base e i0 z 1 by_ hu hi hz0 hz1 hz2 hz (by decide) v n flat hs (hown.alloc _) ⟨w.heap.size, 0, none⟩ 1 c [u] hx rfl ?_ ?_ ?_ ?_ ?_ ?_
  · intro j u' hj
    match j, hj with
    | 0, hj => simp at hj; subst hj; simp [Addr.add]
  · intro u' hu'; simp at hu'; subst hu'; exact hu1
  · unfold maxLen; omega
  · have : (n + 1) * by_ ≤ (n + 1) * 16 := Nat.mul_le_mul_left _ hby
    omega
  · simp; omega
  · intro v' w' h1 h2 _ h4
    exact h v' w' h1 (grown_of_alloc h2) (by simpa using h4)
theorem inL_app {N : List Nat} {z : Int} {k : Nat} : inL (castL N ++ [z]) (k : Int) = decide (k ∈ N ∨ (k : Int) = z) := by
  have h := inL_cast (N := N) (k := k)
  unfold inL at *
  rw [decide_eq_decide] at h ⊢
  rw [List.mem_append, h, List.mem_singleton]
set_option maxHeartbeats 800000 in
theorem specServed_c {S : Nat → Prop} (v : Value) (G : List Int) (t : Int) (w : World) (h : RdS S 1 w v G.length (enc1 G)) (hn : G.length ≤ 1000) : Calls Try.prog 26 #[v, .int .i64 t] w (ServP G t w) := by
  have GVc := Lib.hid (fun W (hW : Below w.heap.size w W) => l23Given_c v G W (h.below hW).rd hn)
  have BC := Lib.hid (fun W (hW : Below w.heap.size w W) => l23Best_c v G W (h.below hW) hn)
  have TC := Lib.hid (fun W (hW : Below w.heap.size w W) (ht : 0 ≤ t ∧ t ≤ 999) => l23Turn_c v G t W (h.below hW) hn ht)
  have HP := Lib.hid (show ∀ e w' u N, e = .returned u → w'.ownsRow w.heap.size 3 1 u N.length (enc1 (castL N)) → (OkS G t → N = srv G t) → (¬ OkS G t → N = []) → Below w.heap.size w w' → ServP G t w e w' from fun _ _ u N h1 h2 h3 h4 h5 => ⟨u, N, h1, h2, h3, h4, h5⟩)
  obtain ⟨a, c, rfl, h1, h2⟩ := h.shape
  unfold maxLen at h2
  clear h
  have B1 := Lib.hid (show Below w.heap.size w (w.alloc (.cells #[] 3)) by (repeat' (first | exact Below.refl _ _ | assumption | refine Below.drew ?_ | refine below_drewN ?_ _ | refine Below.alloc ?_ (by omega) _ | refine Below.alloc ?_ (by simp; omega) _ | refine Below.alloc ?_ (by simp) _ | refine Below.setCell ?_ (by omega) _ | refine Below.setCell ?_ (by simp; omega) _ | refine Below.setCell ?_ (by simp) _)))
  have OE := Lib.hid (own_empty w w.heap.size 3 1 (Nat.le_refl _))
  by_cases hG : OkV G
  · rw [okB_t hG] at GVc
    go_enter Try.func26, Try.ntmps26
    go_wp2_with fail
    refine (GVc.out _ B1.out).mono ?_
    rintro e w' ⟨rfl, rfl⟩
    by_cases ht : 0 ≤ t ∧ t ≤ 999
    · go_wp2_with fail
      refine (l6In_c t 0 999 _).mono ?_
      rintro e w' ⟨rfl, rfl⟩
      rw [inB_t ht.1 ht.2]
      have HY := Lib.hid (show OkS G t from ⟨hG, ht⟩)
      have h6 := hG.1
      go_wp2_with fail
      refine (BC.out _ B1.out).mono ?_
      rintro e w1 ⟨u, N, rfl, o1, hN3, hmem, hb1⟩
      have HB1 := Lib.hid (B1.out.trans (hb1.mono B1.out.size))
      have HM := Lib.hid hmem
      have HSa := Lib.hid hb1.size
      have HE1 := Lib.hid (own_below OE.out hb1)
      have O1 := Lib.hid o1
      have HD := Lib.hid (show w.heap.size < (w.alloc (.cells #[] 3)).heap.size by simp)
      clear o1 hmem hb1 OE B1
      go_wp2_with fail
      refine (TC.out _ HB1.out ht).mono ?_
      rintro e w2 ⟨rfl, hb2⟩
      obtain ⟨z, hz⟩ : ∃ z, tn G t = z := ⟨_, rfl⟩
      rw [hz]
      have HZ := Lib.hid hz
      have HB2 := Lib.hid (HB1.out.trans (hb2.mono HB1.out.size))
      have HE2 := Lib.hid (own_below HE1.out hb2)
      have O2 := Lib.hid (own_below O1.out hb2)
      have HS2 := Lib.hid (Nat.le_trans HSa.out hb2.size)
      obtain ⟨B1s, hB1s⟩ : ∃ b, (w.alloc (.cells #[] 3)).heap.size = b := ⟨_, rfl⟩
      rw [hB1s] at HS2 HD O2
      clear hb2 hz O1 HE1 HB1 HSa hB1s
      go_wp2_with (at_builtin; refine wpList_app1 _ rfl _ _ 48 rfl B1s 3 Try.underlying48 info_intI _ (castL N) rfl (by rw [castL_len]; exact O2.out) _ _ _ rfl (by rw [castL_len]; omega) HS2.out ?_)
      intro v3 w3 qs hqs hql o3 hg3
      have e3 := hqs.out
      subst e3
      have HB3 := Lib.hid (HB2.out.grown hg3 HB2.out.size (fun j hj => by have := (own_block O2.out j hj).1; have := HD.out; omega))
      have HE3 := Lib.hid (HE2.out.kept hg3 (by
        rcases hv : u.ownBlock with _ | j
        · exact .inr (by show some w.heap.size ≠ none; simp)
        · have := (own_block O2.out j hv).1
          have := HD.out
          exact .inr (by show some w.heap.size ≠ some j; simp; omega)))
      have R3 := Lib.hid ((RdS.of_own o3).sub (S' := fun j => w.heap.size < j ∧ j < w3.heap.size) (fun j hj hk => by have := (own_block o3 j hk).1; have := HD.out; exact ⟨by omega, hj⟩))
      have hlen3 : (castL N ++ [z]).length = N.length + 1 := by rw [List.length_append, castL_len]; rfl
      rw [hlen3] at o3
      obtain ⟨a3, c3, rfl⟩ := own_slice o3
      have hb3 : N.length + 1 ≤ c3 ∧ c3 ≤ maxLen := by obtain ⟨a', c', e, h1, h2⟩ := R3.out.shape; simp only [Value.slice.injEq] at e; obtain ⟨rfl, -, rfl⟩ := e; exact ⟨by rw [← hlen3]; exact h1, h2⟩
      unfold maxLen at hb3
      obtain ⟨hb3a, hb3b⟩ := hb3
      have HL3 := Lib.hid hlen3
      clear hqs hql hg3 o3 O2 HE2 HB2 hlen3
      go_wp2
      go_loopw [5, 7] (fun o i wr => ∃ (k : Nat), k ≤ G.length ∧ i = .int .i64 k ∧ wr.ownsRow w.heap.size 3 1 o ((List.range k).filter (ps G t)).length (enc1 (castL ((List.range k).filter (ps G t)))) ∧ Hid ((∀ j, o.ownBlock = some j → j = w.heap.size ∨ w3.heap.size ≤ j) ∧ Below w.heap.size w wr ∧ w3.heap.size ≤ wr.heap.size ∧ RdS (fun j => w.heap.size < j ∧ j < w3.heap.size) 1 wr (.slice a3 (N.length + 1) c3) (castL N ++ [z]).length (enc1 (castL N ++ [z])))) (fun _ i _ => G.length - (intOf i).toNat)
      case atStart => exact ⟨0, Nat.zero_le _, rfl, HE3.out, fun j hj => .inl (by injection hj with hj; exact hj.symm), HB3.out, Nat.le_refl _, R3.out⟩
      case round =>
        obtain ⟨k, hk, rfl, ho, HI⟩ := hrel
        by_cases hlt : k < G.length
        · have hsz := HI.out.2.1.size
          have LC := Lib.hid (l1Has_c (.slice a3 (N.length + 1) c3) (castL N ++ [z]) k wr HI.out.2.2.2.rd)
          rw [inL_app] at LC
          go_wp2_with fail
          refine (LC.out).mono ?_
          rintro e w' ⟨rfl, rfl⟩
          have hpe : decide (k ∈ N ∨ (k : Int) = z) = ps G t k := by
            unfold ps
            rw [decide_eq_decide, HZ.out, HM.out k, mem_bst]
            exact ⟨fun h => h.elim (fun h => .inl h.2) .inr, fun h => h.elim (fun h => .inl ⟨hlt, h⟩) .inr⟩
          rw [hpe]
          have hf := filt_snoc (ps G t) k
          have hfl := filt_len (ps G t) k
          obtain ⟨R, hR⟩ : ∃ R, (List.range k).filter (ps G t) = R := ⟨_, rfl⟩
          rw [hR] at ho hf hfl
          cases hp : ps G t k
          · rw [hp] at hf
            simp only [Bool.false_eq_true, if_false, List.append_nil] at hf
            have HF := Lib.hid hf
            clear hf hp hR hpe LC
            rw [← HF.out] at ho
            go_wp2
            go_roundw
            case rel => exact ⟨k + 1, by omega, by go_num, ho, HI⟩
            case measure => simp [intOf]; omega
          · rw [if_pos hp] at hf
            have HF := Lib.hid hf
            clear hf hp hR hpe LC
            go_wp2_with (at_builtin; refine wpList_appLI _ rfl _ _ 48 rfl w.heap.size 3 Try.underlying48 (.int .i64 0) 8 info_intI rfl (by omega) _ R.length _ rfl ho (.int .i64 k) rfl _ _ rfl (by omega) hsz ?_)
            intro v4 w4 o4 hg4 hl4
            have e4 : enc1 (castL R) ++ [Value.int .i64 (k : Int)] = enc1 (castL (R ++ [k])) := by simp [castL, enc1]
            rw [e4, show R.length + 1 = (R ++ [k]).length by simp, ← HF.out] at o4
            have HI4 := Lib.hid (show (∀ j, v4.ownBlock = some j → j = w.heap.size ∨ w3.heap.size ≤ j) ∧ _ ∧ _ ∧ _ from ⟨fun j hj => by
              rcases hl4 with h | h
              · rw [h] at hj; exact HI.out.1 j hj
              · rw [h] at hj; injection hj with hj; have := HI.out.2.2.1; omega, HI.out.2.1.grown hg4 hsz (fun j hj => (own_block ho j hj).1), Nat.le_trans HI.out.2.2.1 hg4.size, HI.out.2.2.2.chg (Chg.of_grown hg4) (fun j hj e => by
                rcases HI.out.1 j e with h | h
                · have := hj.1; omega
                · have := hj.2; omega)⟩)
            clear hg4 hl4 ho HI e4
            go_wp2
            go_roundw
            case rel => exact ⟨k + 1, by omega, by go_num, o4, HI4⟩
            case measure => simp [intOf]; omega
        · obtain rfl : k = G.length := by omega
          have hrs : (List.range G.length).filter (ps G t) = srv G t := rfl
          rw [hrs] at ho
          have HO := Lib.hid ho
          clear ho hrs
          go_wp2
          go_ret
          exact HP.out _ _ _ (srv G t) rfl HO.out (fun _ => rfl) (fun hh => absurd HY.out hh) HI.out.2.1
    · have NO := Lib.hid (show ¬ OkS G t from fun h => ht h.2)
      go_wp2_with fail
      refine (l6In_c t 0 999 _).mono ?_
      rintro e w' ⟨rfl, rfl⟩
      rw [inB_f ht]
      clear ht
      go_wp2
      go_ret
      exact HP.out _ _ _ [] rfl OE.out (fun h => absurd h NO.out) (fun _ => rfl) B1.out
  · have NO := Lib.hid (show ¬ OkS G t from fun h => hG h.1)
    rw [okB_f hG] at GVc
    clear hG
    go_enter Try.func26, Try.ntmps26
    go_wp2_with fail
    refine (GVc.out _ B1.out).mono ?_
    rintro e w' ⟨rfl, rfl⟩
    go_wp2
    go_ret
    exact HP.out _ _ _ [] rfl OE.out (fun h => absurd h NO.out) (fun _ => rfl) B1.out
end Go.Proofs.Ytbjndbaljenlgaa
