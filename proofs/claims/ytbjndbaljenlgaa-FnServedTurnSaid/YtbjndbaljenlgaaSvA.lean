/- Walks: the program's serving: ranked, ChokeTurn, ChokeServed. -/
import Derived.Test.YtbjndbaljenlgaaSoB
import Derived.Deep.RegionHeld3
import Derived.Deep.DeepCutAuto
namespace Go.Proofs.Ytbjndbaljenlgaa
open Go.RowKit
set_option linter.unusedSimpArgs false
def castL (N : List Nat) : List Int := N.map fun k : Nat => (k : Int)
theorem castL_len (N : List Nat) : (castL N).length = N.length := by simp [castL]
theorem castL_at (N : List Nat) (k : Nat) (h : k < N.length) : (castL N).getD k 0 = (N.getD k 0 : Nat) := by simp [castL, List.getD_eq_getElem?_getD, h]
/-- what peers gave is valid -/
def OkV (G : List Int) : Prop := G.length ≤ 6 ∧ ∀ i, i < G.length → 0 ≤ G.getD i 0 ∧ G.getD i 0 ≤ 99
open Classical in
noncomputable def okB (G : List Int) : Bool := decide (OkV G)
theorem okB_t {G : List Int} (h : OkV G) : okB G = true := by simp [okB, h]
theorem okB_f {G : List Int} (h : ¬ OkV G) : okB G = false := by simp [okB, h]
theorem okB_iff {G : List Int} : okB G = true ↔ OkV G := by simp [okB]
theorem OkV.all {G : List Int} (h : OkV G) : ∀ x ∈ G, 0 ≤ x ∧ x ≤ 99 := fun x hx => by
  obtain ⟨i, hi, rfl⟩ := List.mem_iff_getElem.1 hx
  have := h.2 i hi
  rwa [List.getD_eq_getElem?_getD, List.getElem?_eq_getElem hi] at this
theorem RdS.takeI {S : Nat → Prop} {w : World} {a : Option Addr} {n cap m : Nat} {L : List Int} (h : RdS S 1 w (.slice a n cap) L.length (enc1 L)) (hl0 : L.length = n) (hm : m ≤ n) : RdS S 1 w (.slice a m cap) (L.take m).length (enc1 (L.take m)) := by
  obtain ⟨h0, hs, a', cap', e, h1, h2, h3⟩ := h
  simp only [Value.slice.injEq] at e
  obtain ⟨rfl, -, rfl⟩ := e
  have hl : (L.take m).length = m := by rw [List.length_take]; omega
  refine ⟨by simp [enc1], ?_, a, cap, by rw [hl], by rw [hl]; omega, h2, fun hn => ?_⟩
  · rcases hs with e | ⟨ad, n', c', e⟩
    · simp only [Value.slice.injEq] at e
      obtain ⟨rfl, e2, rfl⟩ := e
      obtain rfl : m = 0 := by omega
      exact .inl rfl
    · simp only [Value.slice.injEq] at e
      obtain ⟨rfl, -, -⟩ := e
      exact .inr ⟨_, _, _, rfl⟩
  · rw [hl] at hn
    obtain ⟨b, off, e, hc⟩ := h3 (by omega)
    refine ⟨b, off, e, fun j u hj => hc j u ?_⟩
    have : enc1 (L.take m) = (enc1 L).take m := by simp [enc1, List.map_take]
    rw [this, List.getElem?_take] at hj
    split at hj
    · exact hj
    · cases hj
theorem RdS.dropI {S : Nat → Prop} {w : World} {g n cap m : Nat} {L : List Int} (h : RdS S 1 w (.slice (some ⟨g, 0, none⟩) n cap) L.length (enc1 L)) (hl0 : L.length = n) (hm : m ≤ n) : RdS S 1 w (.slice (some ⟨g, m, none⟩) (n - m) (cap - m)) (L.drop m).length (enc1 (L.drop m)) := by
  obtain ⟨h0, hs, a', cap', e, h1, h2, h3⟩ := h
  simp only [Value.slice.injEq] at e
  obtain ⟨rfl, -, rfl⟩ := e
  have hl : (L.drop m).length = n - m := by rw [List.length_drop]; omega
  refine ⟨by simp [enc1], .inr ⟨_, _, _, rfl⟩, _, cap - m, by rw [hl], by rw [hl]; omega, by omega, fun hn => ?_⟩
  rw [hl] at hn
  obtain ⟨b, off, e, hc⟩ := h3 (by omega)
  simp only [Option.some.injEq, Addr.mk.injEq, and_true] at e
  obtain ⟨rfl, rfl⟩ := e
  refine ⟨g, m, rfl, fun j u hj => ?_⟩
  have : enc1 (L.drop m) = (enc1 L).drop m := by simp [enc1, List.map_drop]
  rw [this, List.getElem?_drop] at hj
  have := hc (m + j) u hj
  rwa [Nat.zero_add] at this
theorem RdS.dropI2 {S : Nat → Prop} {w : World} {g n cap m : Nat} {L : List Int} {ad : Option Addr} (h : RdS S 1 w (.slice (some ⟨g, 0, none⟩) n cap) L.length (enc1 L)) (hl0 : L.length = n) (hm : m ≤ n) (had : (if cap = m then some (⟨g, 0, none⟩ : Addr) else some ⟨g, m, none⟩) = ad) : RdS S 1 w (.slice ad (n - m) (cap - m)) (L.drop m).length (enc1 (L.drop m)) := by
  have h' := h.dropI hl0 hm
  by_cases e : cap = m
  · rw [if_pos e] at had
    subst had
    obtain ⟨-, a', c', e1, h1, -⟩ := h.rd
    simp only [Value.slice.injEq] at e1
    obtain ⟨-, -, rfl⟩ := e1
    have hl : (L.drop m).length = n - m := by rw [List.length_drop]; omega
    have hz : n - m = 0 := by omega
    refine ⟨by simp [enc1], .inr ⟨_, _, _, rfl⟩, _, _, by rw [hl], by rw [hl]; omega, by unfold maxLen; omega, fun hn => absurd (by rw [hl]; exact hz) hn⟩
  · rw [if_neg e] at had
    subst had
    exact h'
set_option maxHeartbeats 800000 in
theorem givenValid_c (v : Value) (G : List Int) (w : World) (h : Rd 1 w v G.length (enc1 G)) (hn : G.length ≤ 1000) : Calls Try.prog 63 #[v] w fun e w' => e = .returned (.bool (okB G)) ∧ w = w' := by
  have H := Lib.hid h
  obtain ⟨-, a, c, rfl, h1, h2, -⟩ := h
  unfold maxLen at h2
  obtain ⟨r, hr⟩ : ∃ r, okB G = r := ⟨_, rfl⟩
  rw [hr]
  have HE := Lib.hid hr
  clear hr
  by_cases h6 : 6 < G.length
  · have : r = false := by rw [← HE.out]; exact okB_f fun h => by have := h.1; omega
    subst this
    go_enter Try.func63, Try.ntmps63
    go_wp2
    go_ret
    exact ⟨rfl, rfl⟩
  · go_enter Try.func63, Try.ntmps63
    go_wp2
    go_loopw [10, 4] (fun i _ wr => ∃ k : Nat, k ≤ G.length ∧ i = .int .i64 k ∧ w = wr ∧ Hid (∀ j, j < k → 0 ≤ G.getD j 0 ∧ G.getD j 0 ≤ 99)) (fun i _ _ => G.length - (intOf i).toNat)
    case atStart => exact ⟨0, Nat.zero_le _, rfl, rfl, fun j hj => absurd hj (Nat.not_lt_zero _)⟩
    case round =>
      obtain ⟨k, hk, rfl, rfl, HK⟩ := hrel
      by_cases hlt : k < G.length
      · obtain ⟨-, a', c', e, -, -, hc⟩ := H.out
        obtain ⟨b, off, rfl, hcb⟩ := hc (by omega)
        injection e with e _ e2
        subst e e2
        have q := hcb k _ (enc1_at G k 0 hlt)
        obtain ⟨x, hx⟩ : ∃ x, G.getD k 0 = x := ⟨_, rfl⟩
        rw [hx] at q
        have HX := Lib.hid hx
        clear hc hcb hx H
        go_wp2_with fail
        refine (within_c x 0 99 _).mono ?_
        rintro e w' ⟨rfl, rfl⟩
        by_cases hin : 0 ≤ x ∧ x ≤ 99
        · rw [inB_t hin.1 hin.2]
          have HK2 : Hid (∀ j, j < k + 1 → 0 ≤ G.getD j 0 ∧ G.getD j 0 ≤ 99) := Lib.hid fun j hj => by
            by_cases e : j = k
            · subst e; rw [HX.out]; exact hin
            · exact HK.out j (by omega)
          clear hin
          go_wp2
          go_roundw
          case rel => exact ⟨k + 1, by omega, by go_num, by trivial, HK2⟩
          case measure => simp [intOf]; omega
        · rw [inB_f hin]
          have : r = false := by rw [← HE.out]; exact okB_f fun h => by have := h.2 k hlt; rw [HX.out] at this; exact hin this
          subst this
          clear hin
          go_wp2
          go_ret
          exact ⟨rfl, rfl⟩
      · have : r = true := by rw [← HE.out]; exact okB_t ⟨by omega, fun i hi => HK.out i (by omega)⟩
        subst this
        go_wp2
        go_ret
        exact ⟨rfl, rfl⟩
theorem nats_part {N : List Nat} {m : Nat} {L : List Int} (hp : L.Perm ((castL N).take m)) (hs : L.Pairwise (· ≤ ·)) (hnd : N.Nodup) : ∃ A : List Nat, L = castL A ∧ A.Perm (N.take m) ∧ A.Pairwise (· < ·) := by
  have e : (castL N).take m = castL (N.take m) := by simp [castL, List.map_take]
  rw [e] at hp
  obtain ⟨A, rfl⟩ := nats_of (L := L) (fun x hx => by
    obtain ⟨k, -, rfl⟩ := List.mem_map.1 (hp.mem_iff.1 hx)
    omega)
  have hp' : A.Perm (N.take m) := perm_cast hp
  refine ⟨A, rfl, hp', ?_⟩
  have hna : A.Nodup := hp'.nodup_iff.2 (hnd.sublist (List.take_sublist _ _))
  have hs' := pw_cast hs
  rw [List.pairwise_iff_getElem] at hs' ⊢
  intro i j hi hj hij
  have h1 := hs' i j hi hj hij
  have h2 : A[i] ≠ A[j] := (List.pairwise_iff_getElem.1 hna) i j hi hj hij
  omega
theorem nats_rest {N : List Nat} {m : Nat} {L : List Int} (hp : L.Perm ((castL N).drop m)) (hs : L.Pairwise (· ≤ ·)) (hnd : N.Nodup) : ∃ A : List Nat, L = castL A ∧ A.Perm (N.drop m) ∧ A.Pairwise (· < ·) := by
  have e : (castL N).drop m = castL (N.drop m) := by simp [castL, List.map_drop]
  rw [e] at hp
  obtain ⟨A, rfl⟩ := nats_of (L := L) (fun x hx => by
    obtain ⟨k, -, rfl⟩ := List.mem_map.1 (hp.mem_iff.1 hx)
    omega)
  have hp' : A.Perm (N.drop m) := perm_cast hp
  refine ⟨A, rfl, hp', ?_⟩
  have hna : A.Nodup := hp'.nodup_iff.2 (hnd.sublist (List.drop_sublist _ _))
  have hs' := pw_cast hs
  rw [List.pairwise_iff_getElem] at hs' ⊢
  intro i j hi hj hij
  have h1 := hs' i j hi hj hij
  have h2 : A[i] ≠ A[j] := (List.pairwise_iff_getElem.1 hna) i j hi hj hij
  omega
/-- the plain law of ranked -/
theorem ranked_plain {G L La Lb : List Int} (hp : L.Perm (upto G.length)) (hs : L.Pairwise (AH G)) (pa : La.Perm (L.take (min 3 G.length))) (sa : La.Pairwise (· ≤ ·)) (pb : Lb.Perm (L.drop (min 3 G.length))) (sb : Lb.Pairwise (· ≤ ·)) : La = castL (bst G) ∧ Lb = castL (rst G) := by
  obtain ⟨N, rfl⟩ := nats_of (L := L) (fun x hx => by obtain ⟨k, rfl, -⟩ := mem_upto (hp.mem_iff.1 hx); omega)
  have hpN : N.Perm (List.range G.length) := perm_cast hp
  have hsN : N.Pairwise (ahd G) := (pw_cast hs).imp fun h => by have := h.2.2; simpa using this
  have hnd : N.Nodup := hpN.nodup_iff.2 List.nodup_range
  obtain ⟨A, rfl, hA1, hA2⟩ := nats_part (N := N) pa sa hnd
  obtain ⟨B, rfl, hB1, hB2⟩ := nats_rest (N := N) pb sb hnd
  obtain ⟨rfl, rfl⟩ := best_sorted hpN hsN hA2 hB2 hA1 hB1
  exact ⟨rfl, rfl⟩
theorem upto_snoc (k : Nat) : upto (k + 1) = upto k ++ [(k : Int)] := by simp [upto, List.range_succ]
def RankP (G : List Int) (w : World) (e : Ending) (w' : World) : Prop :=
  ∃ u v, e = .returned (.tuple #[u, v]) ∧ w'.ownsRow w.heap.size 3 1 u (bst G).length (enc1 (castL (bst G))) ∧ w'.ownsRow w.heap.size 3 1 v (rst G).length (enc1 (castL (rst G))) ∧ Below w.heap.size w w'
set_option maxHeartbeats 1600000 in
theorem ranked_c {S : Nat → Prop} (v : Value) (G : List Int) (w : World) (h : RdS S 1 w v G.length (enc1 G)) (hG : OkV G) : Calls Try.prog 65 #[v] w (RankP G w) := by
  have h6 := hG.1
  have HG := Lib.hid hG
  have H := Lib.hid (h.sub (S' := fun k => k < w.heap.size) (fun k hk _ => hk))
  obtain ⟨a, c, rfl, h1, h2⟩ := h.shape
  unfold maxLen at h2
  obtain ⟨n, hnn⟩ : ∃ n, G.length = n := ⟨_, rfl⟩
  have HN := Lib.hid hnn
  rw [hnn] at h6 h1 H
  obtain ⟨W0, hW0⟩ : ∃ W0, W0 = w.alloc (.cells #[.slice a n c] 48) := ⟨_, rfl⟩
  have hB0 : Below w.heap.size w W0 := by rw [hW0]; (repeat' (first | exact Below.refl _ _ | assumption | refine Below.drew ?_ | refine below_drewN ?_ _ | refine Below.alloc ?_ (by omega) _ | refine Below.alloc ?_ (by simp; omega) _ | refine Below.alloc ?_ (by simp) _ | refine Below.setCell ?_ (by omega) _ | refine Below.setCell ?_ (by simp; omega) _ | refine Below.setCell ?_ (by simp) _))
  have hS0 : W0.heap.size = w.heap.size + 1 := by rw [hW0]; simp
  have hc0 : W0.cell? ⟨w.heap.size, 0, none⟩ = some (.slice a n c) := by rw [hW0]; simp
  have HB0 := Lib.hid hB0
  have HS0 := Lib.hid hS0
  clear hG h hB0 hS0
  rw [hnn]
  clear hnn
  go_enter Try.func65, Try.ntmps65
  go_upto_region 1 with (fail)
  rw [← hW0]
  clear hW0
  have hc1 : (W0.alloc (.cells #[] 3)).cell? ⟨w.heap.size, 0, none⟩ = some (.slice a n c) := cell_keep ((Below.refl _ _).alloc (Nat.le_refl _) _) hc0
  go_wp2
  clear hc1
  go_loopw [4, 12, 5] (fun o i _ wr => ∃ (k g cap : Nat), k ≤ n ∧ i = .int .i64 k ∧ o = .slice (some ⟨g, 0, none⟩) k cap ∧ wr.ownsRow W0.heap.size 3 1 o k (enc1 (upto k)) ∧ Hid (Below W0.heap.size W0 wr)) (fun _ i _ _ => n - (intOf i).toNat)
  case atStart => exact ⟨0, W0.heap.size, 0, Nat.zero_le _, rfl, rfl, own_empty _ _ _ 1 (Nat.le_refl _), by show Below _ _ _; (repeat' (first | exact Below.refl _ _ | assumption | refine Below.drew ?_ | refine below_drewN ?_ _ | refine Below.alloc ?_ (by omega) _ | refine Below.alloc ?_ (by simp; omega) _ | refine Below.alloc ?_ (by simp) _ | refine Below.setCell ?_ (by omega) _ | refine Below.setCell ?_ (by simp; omega) _ | refine Below.setCell ?_ (by simp) _))⟩
  case round =>
    obtain ⟨k, g, cap, hk, rfl, rfl, ho, HB⟩ := hrel
    by_cases hlt : k < n
    · have hsz := HB.out.size
      clear hc0
      go_wp2_with (at_builtin; refine wpList_app1 _ rfl _ _ 48 rfl W0.heap.size 3 Try.underlying48 info_intI _ (upto k) rfl (by rw [upto_len]; exact ho) _ _ _ rfl (by rw [upto_len]; omega) hsz ?_)
      intro v' w4 qs hqs hql ho4 hg4
      have e : qs = upto (k + 1) := by rw [hqs.out, upto_snoc]
      subst e
      rw [upto_len] at ho4
      obtain ⟨g', cap', rfl, -, -, -⟩ : ∃ g' cap', v' = .slice (some ⟨g', 0, none⟩) (k + 1) cap' ∧ W0.heap.size ≤ g' ∧ k + 1 ≤ cap' ∧ cap' ≤ maxLen := by
        rcases own_cases ho4 with ⟨-, h0, -⟩ | ⟨g, cap, h1, h2, h3, h4, h5⟩
        · omega
        · exact ⟨g, cap, h1, h2, h4, h5⟩
      have HB4 := Lib.hid (HB.out.grown hg4 HB.out.size (fun j hj => (ho.lt j hj).1))
      clear ho HB hqs hg4
      go_wp2
      go_roundw
      case rel => first | exact ⟨k + 1, g', cap', by omega, by go_num, rfl, ho4, HB4⟩ | ((repeat apply Exists.intro); exact ⟨⟨k + 1, g', cap', by omega, by go_num, rfl, ho4, HB4⟩, rfl⟩)
      case measure => simp [intOf]; omega
    · obtain rfl : k = n := by omega
      have hcs : k ≤ cap ∧ cap ≤ maxLen := by
        rcases own_cases ho with ⟨h0, -, -⟩ | ⟨g, cap, h1, h2, h3, h4, h5⟩
        · cases h0
        · injection h1 with _ _ h1
          subst h1
          exact ⟨h4, h5⟩
      unfold maxLen at hcs
      obtain ⟨hcs1, hcs2⟩ := hcs
      have SC := Lib.hid (sortStable_c W0.heap.size w.heap.size (.slice (some ⟨g, 0, none⟩) k cap) (.slice a k c) G _ (by rw [HN.out]; omega) (by rw [upto_len, HN.out]; exact ho) HG.out.all (by rw [HS0.out]; omega) (cell_keep HB.out hc0) (by rw [HN.out]; exact (H.out.below (HB0.out.trans (HB.out.mono HB0.out.size))).sub (fun j _ hj => by have h1 := HS0.out; have : j < w.heap.size := hj; show j < W0.heap.size; omega)))
      have HB1 := Lib.hid (HB0.out.trans (HB.out.mono HB0.out.size))
      have HBs := Lib.hid HB.out.size
      clear ho HB hc0
      go_wp2_with fail
      refine (SC.out).mono ?_
      rintro e w5 ⟨L, rfl, ho5, hp5, hs5, hg5⟩
      have hLl : L.length = k := by rw [hp5.length_eq, upto_len, HN.out]
      rw [upto_len, HN.out] at ho5
      have HB5 := Lib.hid (HB1.out.grown hg5 HB1.out.size (fun j hj => by have := (own_block ho5 j hj).1; have := HS0.out; omega))
      have HPS := Lib.hid (And.intro hp5 hs5)
      obtain ⟨m, hm⟩ : ∃ m : Nat, min 3 k = m := ⟨_, rfl⟩
      have hmI : min (3 : Int) (k : Int) = (m : Int) := by omega
      have hmk : m ≤ k := by omega
      have hmc : m ≤ cap := by omega
      have HM := Lib.hid hm
      have K1 := Lib.hid (fun W (hW : Below w5.heap.size w5 W) => cloneI_c (.slice (some ⟨g, 0, none⟩) m cap) (L.take m) W (((RdS.of_own ho5).below hW |> fun h => (by rw [hLl]; exact h : RdS _ 1 W (.slice (some ⟨g, 0, none⟩) k cap) L.length (enc1 L))).takeI hLl hmk) (by rw [List.length_take]; omega))
      obtain ⟨ad, had⟩ : ∃ ad, (if cap = m then some (⟨g, 0, none⟩ : Addr) else some ⟨g, m, none⟩) = ad := ⟨_, rfl⟩
      have K2 := Lib.hid (fun W (hW : Below w5.heap.size w5 W) => cloneI_c (.slice ad (k - m) (cap - m)) (L.drop m) W (((RdS.of_own ho5).below hW |> fun h => (by rw [hLl]; exact h : RdS _ 1 W (.slice (some ⟨g, 0, none⟩) k cap) L.length (enc1 L)))|> fun h => h.dropI2 hLl hmk had) (by rw [List.length_drop]; omega))
      have HL12 := Lib.hid (And.intro (show (L.take m).length ≤ 7 by rw [List.length_take]; omega) (show (L.drop m).length ≤ 7 by rw [List.length_drop]; omega))
      obtain ⟨LA, hLA⟩ : ∃ LA, L.take m = LA := ⟨_, rfl⟩
      obtain ⟨LB, hLB⟩ : ∃ LB, L.drop m = LB := ⟨_, rfl⟩
      have HAB := Lib.hid (And.intro hLA hLB)
      rw [hLA] at K1 HL12
      rw [hLB] at K2 HL12
      have B5d := Lib.hid ((Below.refl w5.heap.size w5).drew)
      clear ho5 hp5 hs5 hg5 hm hLA hLB SC hLl
      have hcases : (3 ≤ k ∧ m = 3) ∨ (k < 3 ∧ m = k) := by have := HM.out; omega
      clear hmI
      have hmkI : (m : Int) ≤ (k : Int) := by omega
      have hmcI : (m : Int) ≤ (cap : Int) := by omega
      have hkcI : (k : Int) ≤ (cap : Int) := by omega
      rcases hcases with ⟨h3, hme⟩ | ⟨h3, hme⟩
      · subst hme
        have i0 : (3 : Int) ≤ (k : Int) := by omega
        have i1 : (3 : Int) ≤ (cap : Int) := by omega
        have i2 : (0 : Int) ≤ (k : Int) := by omega
        have i3 : (0 : Int) ≤ (3 : Int) := by omega
        go_wp2
        all_goals (try (exfalso; omega))
        go_region_held3 (fun w' => Below w5.heap.size w5 w') (first | exact B7.out | exact B6.out | exact B5d.out | exact Below.refl _ _) ((first
          | ((with_reducible refine (K1.out _ B5d.out).mono ?_); rintro e w6 ⟨u1, rfl, oa, hb6⟩; have OA := Lib.hid oa; have B6 := Lib.hid (B5d.out.trans (hb6.mono B5d.out.size)); clear oa hb6)
          | ((with_reducible refine (K2.out _ B6.out).mono ?_); rintro e w7 ⟨u2, rfl, ob, hb7⟩; have OA7 := Lib.hid (own_below OA.out hb7); have OB := Lib.hid ob; have B7 := Lib.hid (B6.out.trans (hb7.mono B6.out.size)); have HAP := Lib.hid (fun j hj => (own_block OA.out j hj).2); clear ob hb7)))
        obtain ⟨p1, q1, rfl⟩ := own_slice OA.out
        obtain ⟨p2, q2, rfl⟩ := own_slice OB.out
        have C1 := Lib.hid (sort_c _ _ LA _ OA7.out HL12.out.1)
        go_wp2_with fail
        refine (C1.out).mono ?_
        rintro e w8 ⟨L1, rfl, oa8, pa, sa, hg8⟩
        have OB8 := Lib.hid (OB.out.kept hg8 (by
          rcases hv : (Value.slice p2 LB.length q2).ownBlock with _ | j
          · exact .inl rfl
          · refine .inr fun e => ?_
            have h1 := HAP.out j e.symm
            have h2 := (own_block OB.out j hv).1
            omega))
        have B8 := Lib.hid (show Below w5.heap.size w5 w8 from B7.out.grown hg8 B7.out.size (fun j hj => by have := (own_block OA7.out j hj).1; exact this))
        have C2 := Lib.hid (sort_c _ _ LB _ OB8.out HL12.out.2)
        have OA8 := Lib.hid oa8
        have PSA := Lib.hid (And.intro pa sa)
        clear oa8 pa sa hg8 C1
        go_wp2_with fail
        refine (C2.out).mono ?_
        rintro e w9 ⟨L2, rfl, ob9, pb, sb, hg9⟩
        have OA9 := Lib.hid (OA8.out.kept hg9 (by
          rcases hv : (Value.slice p1 LA.length q1).ownBlock with _ | j
          · exact .inl rfl
          · refine .inr fun e => ?_
            have h1 := HAP.out j hv
            have h2 := (own_block OB.out j e.symm).1
            omega))
        have B9 := Lib.hid (show Below w5.heap.size w5 w9 from B8.out.grown hg9 B8.out.size (fun j hj => by have := (own_block OB8.out j hj).1; have := B6.out.size; omega))
        have HPL := ranked_plain (G := G) HPS.out.1 HPS.out.2 (by rw [HN.out, HM.out, HAB.out.1]; exact PSA.out.1) PSA.out.2 (by rw [HN.out, HM.out, HAB.out.2]; exact pb) sb
        obtain ⟨e1, e2⟩ := HPL
        subst e1 e2
        have HE1 := Lib.hid (show LA.length = (bst G).length by have := PSA.out.1.length_eq; rw [castL_len] at this; exact this.symm)
        have HE2 := Lib.hid (show LB.length = (rst G).length by have := pb.length_eq; rw [castL_len] at this; exact this.symm)
        have OB9 := Lib.hid ob9
        clear ob9 pb sb hg9 C2
        go_wp2
        go_ret2
        refine ⟨_, _, rfl, ?_, ?_, HB5.out.trans (B9.out.mono HB5.out.size)⟩
        · have := own_base (base' := w.heap.size) OA9.out (by have h : w.heap.size ≤ w5.heap.size := HB5.out.size; exact h)
          rw [HE1.out] at this ⊢
          exact this
        · have := own_base (base' := w.heap.size) OB9.out (by have := HB5.out.size; have := B6.out.size; omega)
          rw [HE2.out] at this ⊢
          exact this
      · subst hme
        rw [Nat.sub_self] at K2
        have i0 : (m : Int) ≤ (m : Int) := by omega
        have i2 : (0 : Int) ≤ (m : Int) := by omega
        go_wp2
        all_goals (try (exfalso; omega))
        go_region_held3 (fun w' => Below w5.heap.size w5 w') (first | exact B7.out | exact B6.out | exact B5d.out | exact Below.refl _ _) ((first
          | ((with_reducible refine (K1.out _ B5d.out).mono ?_); rintro e w6 ⟨u1, rfl, oa, hb6⟩; have OA := Lib.hid oa; have B6 := Lib.hid (B5d.out.trans (hb6.mono B5d.out.size)); clear oa hb6)
          | ((with_reducible refine (K2.out _ B6.out).mono ?_); rintro e w7 ⟨u2, rfl, ob, hb7⟩; have OA7 := Lib.hid (own_below OA.out hb7); have OB := Lib.hid ob; have B7 := Lib.hid (B6.out.trans (hb7.mono B6.out.size)); have HAP := Lib.hid (fun j hj => (own_block OA.out j hj).2); clear ob hb7)))
        obtain ⟨p1, q1, rfl⟩ := own_slice OA.out
        obtain ⟨p2, q2, rfl⟩ := own_slice OB.out
        have C1 := Lib.hid (sort_c _ _ LA _ OA7.out HL12.out.1)
        go_wp2_with fail
        refine (C1.out).mono ?_
        rintro e w8 ⟨L1, rfl, oa8, pa, sa, hg8⟩
        have OB8 := Lib.hid (OB.out.kept hg8 (by
          rcases hv : (Value.slice p2 LB.length q2).ownBlock with _ | j
          · exact .inl rfl
          · refine .inr fun e => ?_
            have h1 := HAP.out j e.symm
            have h2 := (own_block OB.out j hv).1
            omega))
        have B8 := Lib.hid (show Below w5.heap.size w5 w8 from B7.out.grown hg8 B7.out.size (fun j hj => by have := (own_block OA7.out j hj).1; exact this))
        have C2 := Lib.hid (sort_c _ _ LB _ OB8.out HL12.out.2)
        have OA8 := Lib.hid oa8
        have PSA := Lib.hid (And.intro pa sa)
        clear oa8 pa sa hg8 C1
        go_wp2_with fail
        refine (C2.out).mono ?_
        rintro e w9 ⟨L2, rfl, ob9, pb, sb, hg9⟩
        have OA9 := Lib.hid (OA8.out.kept hg9 (by
          rcases hv : (Value.slice p1 LA.length q1).ownBlock with _ | j
          · exact .inl rfl
          · refine .inr fun e => ?_
            have h1 := HAP.out j hv
            have h2 := (own_block OB.out j e.symm).1
            omega))
        have B9 := Lib.hid (show Below w5.heap.size w5 w9 from B8.out.grown hg9 B8.out.size (fun j hj => by have := (own_block OB8.out j hj).1; have := B6.out.size; omega))
        have HPL := ranked_plain (G := G) HPS.out.1 HPS.out.2 (by rw [HN.out, HM.out, HAB.out.1]; exact PSA.out.1) PSA.out.2 (by rw [HN.out, HM.out, HAB.out.2]; exact pb) sb
        obtain ⟨e1, e2⟩ := HPL
        subst e1 e2
        have HE1 := Lib.hid (show LA.length = (bst G).length by have := PSA.out.1.length_eq; rw [castL_len] at this; exact this.symm)
        have HE2 := Lib.hid (show LB.length = (rst G).length by have := pb.length_eq; rw [castL_len] at this; exact this.symm)
        have OB9 := Lib.hid ob9
        clear ob9 pb sb hg9 C2
        go_wp2
        go_ret2
        refine ⟨_, _, rfl, ?_, ?_, HB5.out.trans (B9.out.mono HB5.out.size)⟩
        · have := own_base (base' := w.heap.size) OA9.out (by have h : w.heap.size ≤ w5.heap.size := HB5.out.size; exact h)
          rw [HE1.out] at this ⊢
          exact this
        · have := own_base (base' := w.heap.size) OB9.out (by have := HB5.out.size; have := B6.out.size; omega)
          rw [HE2.out] at this ⊢
          exact this
end Go.Proofs.Ytbjndbaljenlgaa
