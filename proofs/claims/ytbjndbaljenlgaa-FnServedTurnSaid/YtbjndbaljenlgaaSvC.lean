/- Walks: the reference's serving: l23Best, l23Turn, ChokeServed. -/
import Derived.Test.YtbjndbaljenlgaaSvB
namespace Go.Proofs.Ytbjndbaljenlgaa
open Go.RowKit
set_option linter.unusedSimpArgs false
def inL (L : List Int) (x : Int) : Bool := decide (x ∈ L)
theorem inL_at {L : List Int} {k : Nat} (h : k < L.length) : inL L (L.getD k 0) = true := by
  unfold inL
  rw [decide_eq_true_eq, List.getD_eq_getElem?_getD, List.getElem?_eq_getElem h]
  exact List.getElem_mem h
theorem inL_no {L : List Int} {x : Int} (h : ∀ j, j < L.length → L.getD j 0 ≠ x) : inL L x = false := by
  unfold inL
  rw [decide_eq_false_iff_not]
  intro hm
  obtain ⟨i, hi, rfl⟩ := List.mem_iff_getElem.1 hm
  have := h i hi
  rw [List.getD_eq_getElem?_getD, List.getElem?_eq_getElem hi] at this
  exact this rfl
theorem inL_cast {N : List Nat} {k : Nat} : inL (castL N) (k : Int) = decide (k ∈ N) := by
  unfold inL castL
  congr 1
  simp only [List.mem_map, eq_iff_iff]
  exact ⟨fun ⟨a, h1, h2⟩ => by obtain rfl : a = k := by omega
                               exact h1, fun h => ⟨k, h, rfl⟩⟩
theorem l1Has_c (v : Value) (L : List Int) (x : Int) (w : World) (h : Rd 1 w v L.length (enc1 L)) : Calls Try.prog 70 #[v, .int .i64 x] w fun e w' => e = .returned (.bool (inL L x)) ∧ w = w' := by
  obtain ⟨-, a, c, rfl, h1, h2, h3⟩ := h
  unfold maxLen at h2
  have HC := Lib.hid h3
  obtain ⟨r, hr⟩ : ∃ r, inL L x = r := ⟨_, rfl⟩
  rw [hr]
  have HE := Lib.hid hr
  clear hr h3
  go_enter Try.func70, Try.ntmps70
  go_wp2
  go_loopw [5] (fun i wr => ∃ k : Nat, k ≤ L.length ∧ i = .int .i64 k ∧ w = wr ∧ Hid (∀ j, j < k → L.getD j 0 ≠ x)) (fun i _ => L.length - (intOf i).toNat)
  case atStart => exact ⟨0, Nat.zero_le _, rfl, rfl, fun j hj => absurd hj (Nat.not_lt_zero _)⟩
  case round =>
    obtain ⟨k, hk, rfl, rfl, HK⟩ := hrel
    by_cases hlt : k < L.length
    · obtain ⟨b, off, rfl, hc⟩ := HC.out (by omega)
      have q := hc k _ (enc1_at L k 0 hlt)
      obtain ⟨y, hy⟩ : ∃ y, L.getD k 0 = y := ⟨_, rfl⟩
      rw [hy] at q
      have HY := Lib.hid hy
      clear hc HC hy
      by_cases hxy : y = x
      · subst hxy
        have : r = true := by rw [← HE.out, ← HY.out]; exact inL_at hlt
        subst this
        go_wp2
        go_ret
        exact ⟨rfl, rfl⟩
      · have hxb : (y == x) = false := by rw [beq_eq_false_iff_ne]; exact hxy
        have HK2 : Hid (∀ j, j < k + 1 → L.getD j 0 ≠ x) := Lib.hid fun j hj => by
          by_cases e : j = k
          · subst e; rw [HY.out]; exact hxy
          · exact HK.out j (by omega)
        go_wp2
        go_roundw
        case rel => exact ⟨k + 1, by omega, by go_num, by trivial, HK2⟩
        case measure => simp [intOf]; omega
    · have : r = false := by rw [← HE.out]; exact inL_no fun j hj => HK.out j (by omega)
      subst this
      clear HC
      go_wp2
      go_ret
      exact ⟨rfl, rfl⟩
set_option maxHeartbeats 800000 in
theorem l23Given_c (v : Value) (G : List Int) (w : World) (h : Rd 1 w v G.length (enc1 G)) (hn : G.length ≤ 1000) : Calls Try.prog 67 #[v] w fun e w' => e = .returned (.bool (okB G)) ∧ w = w' := by
  have H := Lib.hid h
  obtain ⟨-, a, c, rfl, h1, h2, -⟩ := h
  unfold maxLen at h2
  obtain ⟨r, hr⟩ : ∃ r, okB G = r := ⟨_, rfl⟩
  rw [hr]
  have HE := Lib.hid hr
  clear hr
  go_enter Try.func67, Try.ntmps67
  go_wp2
  go_loopw [3] (fun i wr => ∃ k : Nat, k ≤ G.length ∧ i = .int .i64 k ∧ w = wr ∧ Hid (∀ j, j < k → 0 ≤ G.getD j 0 ∧ G.getD j 0 ≤ 99)) (fun i _ => G.length - (intOf i).toNat)
  case atStart => exact ⟨0, Nat.zero_le _, rfl, rfl, fun j hj => absurd hj (Nat.not_lt_zero _)⟩
  case round =>
    obtain ⟨k, hk, rfl, rfl, HK⟩ := hrel
    by_cases hlt : k < G.length
    · obtain ⟨-, a', c', e, -, -, hc⟩ := H.out
      obtain ⟨b, off, rfl, hcb⟩ := hc (by omega)
      injection e with e _ e2
      subst e e2
      have q := hcb k _ (enc1_at G k 0 hlt)
      obtain ⟨x, hx⟩ : ∃ x, G.getD k 0 = x := ⟨_, rfl⟩
      rw [hx] at q
      have HX := Lib.hid hx
      clear hc hcb hx H
      go_wp2_with fail
      refine (l6In_c x 0 99 _).mono ?_
      rintro e w' ⟨rfl, rfl⟩
      by_cases hin : 0 ≤ x ∧ x ≤ 99
      · rw [inB_t hin.1 hin.2]
        have HK2 : Hid (∀ j, j < k + 1 → 0 ≤ G.getD j 0 ∧ G.getD j 0 ≤ 99) := Lib.hid fun j hj => by
          by_cases e : j = k
          · subst e; rw [HX.out]; exact hin
          · exact HK.out j (by omega)
        clear hin
        go_wp2
        go_roundw
        case rel => exact ⟨k + 1, by omega, by go_num, by trivial, HK2⟩
        case measure => simp [intOf]; omega
      · rw [inB_f hin]
        have : r = false := by rw [← HE.out]; exact okB_f fun h => by have := h.2 k hlt; rw [HX.out] at this; exact hin this
        subst this
        clear hin
        go_wp2
        go_ret
        exact ⟨rfl, rfl⟩
    · obtain rfl : k = G.length := by omega
      by_cases h6 : G.length ≤ 6
      · have : r = true := by rw [← HE.out]; exact okB_t ⟨h6, HK.out⟩
        subst this
        go_wp2
        go_ret
        exact ⟨by first | rfl | (simp [h6]; done) | (simp; omega), rfl⟩
      · have : r = false := by rw [← HE.out]; exact okB_f fun h => h6 h.1
        subst this
        have h6i : ¬ (G.length : Int) ≤ 6 := by omega
        go_wp2
        go_ret
        exact ⟨by first | rfl | (simp [h6i]; done) | (simp; omega), rfl⟩
/-- some of the best, in their order -/
structure BestP (G : List Int) (N : List Nat) : Prop where
  sub : ∀ x ∈ N, x < G.length
  pw : N.Pairwise (ahd G)
  out : ∀ i, i < G.length → i ∉ N → ∀ x ∈ N, ahd G x i
theorem BestP.nil (G : List Int) : BestP G [] := ⟨fun x hx => (by cases hx), List.Pairwise.nil, fun i _ _ x hx => (by cases hx)⟩
theorem BestP.nodup {G : List Int} {N : List Nat} (h : BestP G N) : N.Nodup := h.pw.imp fun {a b} h e => by subst e; exact ahd_irr G a h
theorem BestP.more {G : List Int} {N : List Nat} (h : BestP G N) (hl : N.length < G.length) : ∃ i, i < G.length ∧ i ∉ N := by
  refine Classical.byContradiction fun hc => ?_
  have hall : ∀ i, i < G.length → i ∈ N := fun i hi => Classical.byContradiction fun hn => hc ⟨i, hi, hn⟩
  have : N.Perm (List.range G.length) := (List.perm_ext_iff_of_nodup h.nodup List.nodup_range).2 fun a => ⟨fun ha => List.mem_range.2 (h.sub a ha), fun ha => hall a (List.mem_range.1 ha)⟩
  have := this.length_eq
  rw [List.length_range] at this
  omega
theorem BestP.snoc {G : List Int} {N : List Nat} {k : Nat} (h : BestP G N) (hk : k < G.length) (hn : k ∉ N) (hb : ∀ i, i < G.length → i ∉ N → i = k ∨ ahd G k i) : BestP G (N ++ [k]) := by
  refine ⟨fun x hx => ?_, ?_, fun i hi hni x hx => ?_⟩
  · rcases List.mem_append.1 hx with h' | h'
    · exact h.sub x h'
    · rw [List.mem_singleton.1 h']; exact hk
  · rw [List.pairwise_append]
    exact ⟨h.pw, by simp, fun a ha b hb' => by rw [List.mem_singleton.1 hb']; exact h.out k hk hn a ha⟩
  · have hni2 : i ∉ N ∧ i ≠ k := ⟨fun h' => hni (List.mem_append.2 (.inl h')), fun h' => hni (List.mem_append.2 (.inr (by simp [h'])))⟩
    rcases List.mem_append.1 hx with h' | h'
    · exact h.out i hi hni2.1 x h'
    · rw [List.mem_singleton.1 h']
      exact (hb i hi hni2.1).resolve_left hni2.2
theorem BestP.mem {G : List Int} {N : List Nat} (h : BestP G N) (hl : N.length = min 3 G.length) (i : Nat) : i ∈ N ↔ i ∈ bst G := best_eq h.sub h.pw h.out hl i
/-- the best so far of the first c that are not in N; -1 if there is none -/
def Scan (G : List Int) (N : List Nat) (c : Nat) (z : Int) : Prop :=
  (z = -1 ∧ ∀ i, i < c → i ∈ N) ∨ ∃ k : Nat, z = (k : Int) ∧ k < c ∧ k ∉ N ∧ ∀ i, i < c → i ∉ N → i = k ∨ ahd G k i
theorem Scan.skip {G : List Int} {N : List Nat} {c : Nat} {z : Int} (h : Scan G N c z) (hc : c ∈ N) : Scan G N (c + 1) z := by
  rcases h with ⟨h1, h2⟩ | ⟨k, h1, h2, h3, h4⟩
  · exact .inl ⟨h1, fun i hi => by by_cases e : i = c; · rw [e]; exact hc
                                   · exact h2 i (by omega)⟩
  · exact .inr ⟨k, h1, by omega, h3, fun i hi hn => by by_cases e : i = c; · rw [e] at hn; exact absurd hc hn
                                                       · exact h4 i (by omega) hn⟩
theorem Scan.first {G : List Int} {N : List Nat} {c : Nat} (h : Scan G N c (-1)) (hc : c ∉ N) : Scan G N (c + 1) c := by
  rcases h with ⟨h1, h2⟩ | ⟨k, h1, h2, h3, h4⟩
  · exact .inr ⟨c, rfl, by omega, hc, fun i hi hn => by by_cases e : i = c; · exact .inl e
                                                        · exact absurd (h2 i (by omega)) hn⟩
  · omega
theorem Scan.better {G : List Int} {N : List Nat} {c k : Nat} (h : Scan G N c k) (hc : c ∉ N) (hg : G.getD k 0 < G.getD c 0) : Scan G N (c + 1) c := by
  rcases h with ⟨h1, h2⟩ | ⟨k', h1, h2, h3, h4⟩
  · omega
  · obtain rfl : k' = k := by omega
    have ha : ahd G c k' := .inl hg
    exact .inr ⟨c, rfl, by omega, hc, fun i hi hn => by
      by_cases e : i = c
      · exact .inl e
      · rcases h4 i (by omega) hn with h | h
        · subst h; exact .inr ha
        · exact .inr (ahd_trans ha h)⟩
theorem Scan.stay {G : List Int} {N : List Nat} {c k : Nat} (h : Scan G N c k) (hg : ¬ G.getD k 0 < G.getD c 0) : Scan G N (c + 1) k := by
  rcases h with ⟨h1, h2⟩ | ⟨k', h1, h2, h3, h4⟩
  · omega
  · obtain rfl : k' = k := by omega
    exact .inr ⟨k', rfl, by omega, h3, fun i hi hn => by
      by_cases e : i = c
      · subst e; exact .inr (by unfold ahd; omega)
      · exact h4 i (by omega) hn⟩
theorem Scan.lt {G : List Int} {N : List Nat} {c : Nat} {z : Int} (h : Scan G N c z) : z = -1 ∨ ∃ k : Nat, z = (k : Int) ∧ k < c := by
  rcases h with ⟨h1, -⟩ | ⟨k, h1, h2, -⟩
  · exact .inl h1
  · exact .inr ⟨k, h1, h2⟩
def lenOf : Value → Nat
  | .slice _ m _ => m
  | _ => 0
def BstP (G : List Int) (w : World) (e : Ending) (w' : World) : Prop := ∃ u N, e = .returned u ∧ w'.ownsRow w.heap.size 3 1 u N.length (enc1 (castL N)) ∧ N.length ≤ 3 ∧ (∀ i, i ∈ N ↔ i ∈ bst G) ∧ Below w.heap.size w w'
set_option maxHeartbeats 1600000 in
theorem l23Best_c {S : Nat → Prop} (v : Value) (G : List Int) (w : World) (h : RdS S 1 w v G.length (enc1 G)) (hn : G.length ≤ 1000) : Calls Try.prog 68 #[v] w (BstP G w) := by
  have H := Lib.hid h
  obtain ⟨a, c, rfl, h1, h2⟩ := h.shape
  unfold maxLen at h2
  obtain ⟨n, hnn⟩ : ∃ n, G.length = n := ⟨_, rfl⟩
  have HN := Lib.hid hnn
  rw [hnn] at hn h1 H ⊢
  clear h hnn
  go_enter Try.func68, Try.ntmps68
  go_wp2
  go_loopw [3, 4, 5] (fun o _ _ wr => ∃ (N : List Nat), N.length ≤ 3 ∧ N.length ≤ n ∧ wr.ownsRow w.heap.size 3 1 o N.length (enc1 (castL N)) ∧ Hid (BestP G N ∧ Below w.heap.size w wr)) (fun o _ _ _ => 3 - lenOf o)
  case atStart => exact ⟨[], by simp, by simp, own_empty _ _ _ 1 (Nat.le_refl _), Lib.hid ⟨BestP.nil G, by (repeat' (first | exact Below.refl _ _ | assumption | refine Below.drew ?_ | refine below_drewN ?_ _ | refine Below.alloc ?_ (by omega) _ | refine Below.alloc ?_ (by simp; omega) _ | refine Below.alloc ?_ (by simp) _ | refine Below.setCell ?_ (by omega) _ | refine Below.setCell ?_ (by simp; omega) _ | refine Below.setCell ?_ (by simp) _))⟩⟩
  case round =>
    obtain ⟨N, hN3, hNn, ho, HI⟩ := hrel
    obtain ⟨ao, co, rfl⟩ := own_slice ho
    have hso := (Rd.of_own ho)
    obtain ⟨-, ao', co', eo, ho1, ho2, -⟩ := hso
    simp only [Value.slice.injEq, true_and] at eo
    obtain ⟨rfl, rfl⟩ := eo
    unfold maxLen at ho2
    have HO := Lib.hid ho
    clear ho
    by_cases h3 : N.length < 3 ∧ N.length < n
    · obtain ⟨h3a, h3b⟩ := h3
      go_wp2
      go_loopw [4, 5] (fun k i wr => ∃ (cc : Nat) (z : Int), cc ≤ n ∧ i = .int .i64 cc ∧ k = .int .i64 z ∧ Hid (wr.ownsRow w.heap.size 3 1 (.slice ao N.length co) N.length (enc1 (castL N)) ∧ Scan G N cc z ∧ Below w.heap.size w wr)) (fun _ i _ => n - (intOf i).toNat)
      case atStart => exact ⟨0, -1, Nat.zero_le _, rfl, rfl, Lib.hid ⟨HO.out, .inl ⟨rfl, fun i hi => absurd hi (Nat.not_lt_zero _)⟩, HI.out.2⟩⟩
      case round =>
        obtain ⟨cc, z, hcc, rfl, rfl, HJ⟩ := hrel
        by_cases hlt : cc < n
        · obtain ⟨-, a', c', e, -, -, hc⟩ := (H.out.below HJ.out.2.2).rd
          obtain ⟨b, off, rfl, hcb⟩ := hc (by omega)
          injection e with e _ e2
          subst e e2
          have q1 := hcb cc _ (enc1_at G cc 0 (by rw [HN.out]; exact hlt))
          obtain ⟨x, hx⟩ : ∃ x, G.getD cc 0 = x := ⟨_, rfl⟩
          rw [hx] at q1
          have HX := Lib.hid hx
          have hlti : (cc : Int) < (n : Int) := by omega
          have LC := Lib.hid (fun (W : World) (hW : Below wr.heap.size wr W) => (show Calls Try.prog 70 #[.slice ao N.length co, .int .i64 cc] W (fun e w' => e = .returned (.bool (decide (cc ∈ N))) ∧ W = w') from by
            have := l1Has_c (.slice ao N.length co) (castL N) cc W (by rw [castL_len]; exact Rd.of_own (own_below HJ.out.1 hW))
            rw [inL_cast] at this
            exact this))
          by_cases hin : cc ∈ N
          · have HJ2 := Lib.hid (HJ.out.2.1.skip hin)
            rw [decide_eq_true hin] at LC
            clear hcb hc hx hin
            have z1 := fun (xx : Sub wr) => xx.cell q1
            go_wp2
            refine wp_region_sub (by kernel_rfl) (by kernel_rfl) ?_
            repeat (go_big_quiet_step (with_reducible (exact Calls.sub_same (v := .bool true) LC.out)))
            refine wpQuiet_nil ?_
            rintro _ ⟨xs, rfl⟩
            have HJ3 := Lib.hid (And.intro (own_below HJ.out.1 xs.b) (And.intro HJ2.out (HJ.out.2.2.trans (xs.b.mono HJ.out.2.2.size))))
            clear z1 HJ HJ2 LC
            go_wp2
            go_roundw
            case rel => exact ⟨cc + 1, z, by omega, by go_num, rfl, HJ3⟩
            case measure => simp [intOf]; omega
          · rw [decide_eq_false hin] at LC
            rcases HJ.out.2.1.lt with rfl | ⟨k, rfl, hkc⟩
            · have HJ2 := Lib.hid (HJ.out.2.1.first hin)
              clear hcb hc hx hin
              have z1 := fun (xx : Sub wr) => xx.cell q1
              go_wp2
              refine wp_region_sub (by kernel_rfl) (by kernel_rfl) ?_
              repeat (go_big_quiet_step (with_reducible (exact Calls.sub_same (v := .bool false) LC.out)))
              refine wpQuiet_nil ?_
              rintro _ ⟨xs, rfl⟩
              have HJ3 := Lib.hid (And.intro (own_below HJ.out.1 xs.b) (And.intro HJ2.out (HJ.out.2.2.trans (xs.b.mono HJ.out.2.2.size))))
              clear z1 HJ HJ2 LC
              go_wp2
              go_roundw
              case rel => exact ⟨cc + 1, cc, by omega, by go_num, rfl, HJ3⟩
              case measure => simp [intOf]; omega
            · have q2 := hcb k _ (enc1_at G k 0 (by rw [HN.out]; omega))
              obtain ⟨y, hy⟩ : ∃ y, G.getD k 0 = y := ⟨_, rfl⟩
              rw [hy] at q2
              have HY := Lib.hid hy
              have hkn : k < n := by omega
              have hkn0 : decide ((k : Int) < 0) = false := by simp
              by_cases hyx : y < x
              · have HJ2 := Lib.hid (HJ.out.2.1.better hin (by rw [HX.out, HY.out]; exact hyx))
                clear hcb hc hx hy hin
                have z1 := fun (xx : Sub wr) => xx.cell q1
                have z2 := fun (xx : Sub wr) => xx.cell q2
                go_wp2
                refine wp_region_sub (by kernel_rfl) (by kernel_rfl) ?_
                repeat (go_big_quiet_step (with_reducible (exact Calls.sub_same (v := .bool false) LC.out)))
                refine wpQuiet_nil ?_
                rintro _ ⟨xs, rfl⟩
                have HJ3 := Lib.hid (And.intro (own_below HJ.out.1 xs.b) (And.intro HJ2.out (HJ.out.2.2.trans (xs.b.mono HJ.out.2.2.size))))
                clear z1 z2 HJ HJ2 LC
                go_wp2
                go_roundw
                case rel => exact ⟨cc + 1, cc, by omega, by go_num, rfl, HJ3⟩
                case measure => simp [intOf]; omega
              · have HJ2 := Lib.hid (HJ.out.2.1.stay (by rw [HX.out, HY.out]; exact hyx))
                clear hcb hc hx hy hin
                have z1 := fun (xx : Sub wr) => xx.cell q1
                have z2 := fun (xx : Sub wr) => xx.cell q2
                go_wp2
                refine wp_region_sub (by kernel_rfl) (by kernel_rfl) ?_
                repeat (go_big_quiet_step (with_reducible (exact Calls.sub_same (v := .bool false) LC.out)))
                refine wpQuiet_nil ?_
                rintro _ ⟨xs, rfl⟩
                have HJ3 := Lib.hid (And.intro (own_below HJ.out.1 xs.b) (And.intro HJ2.out (HJ.out.2.2.trans (xs.b.mono HJ.out.2.2.size))))
                clear z1 z2 HJ HJ2 LC
                go_wp2
                go_roundw
                case rel => exact ⟨cc + 1, k, by omega, by go_num, rfl, HJ3⟩
                case measure => simp [intOf]; omega
        · obtain rfl : cc = n := by omega
          obtain ⟨i, hi1, hi2⟩ := HI.out.1.more (by rw [HN.out]; exact h3b)
          rcases HJ.out.2.1 with ⟨-, h⟩ | ⟨k, rfl, hk1, hk2, hk3⟩
          · exact absurd (h i (by rw [HN.out] at hi1; exact hi1)) hi2
          · have HB2 := Lib.hid (HI.out.1.snoc (k := k) (by rw [HN.out]; exact hk1) hk2 (fun i hi hn => hk3 i (by rw [HN.out] at hi; exact hi) hn))
            have hsz := HJ.out.2.2.size
            clear hi1 hi2 hk2 hk3
            go_wp2_with (at_builtin; refine wpList_app1 _ rfl _ _ 48 rfl w.heap.size 3 Try.underlying48 info_intI _ (castL N) rfl (by rw [castL_len]; exact HJ.out.1) _ _ _ rfl (by rw [castL_len]; omega) hsz ?_)
            intro v4 w4 qs hqs hql o4 hg4
            have e4 : qs = castL (N ++ [k]) := by rw [hqs.out]; simp [castL]
            subst e4
            rw [castL_len] at o4
            have HI4 := Lib.hid (And.intro HB2.out (HJ.out.2.2.grown hg4 hsz (fun j hj => (own_block HJ.out.1 j hj).1)))
            obtain ⟨a4, c4, e4⟩ := own_slice o4
            have HE4 := Lib.hid e4
            clear hqs hql hg4 HJ HI HO HB2 e4
            go_wp2
            go_roundw
            case rel => exact ⟨N ++ [k], by simp; omega, by simp; omega, o4, HI4⟩
            case measure => rw [HE4.out]; simp [lenOf]; omega
    · have hl3 : N.length = min 3 n := by omega
      have HM := Lib.hid (fun i => HI.out.1.mem (by rw [HN.out]; exact hl3) i)
      have HB := Lib.hid HI.out.2
      by_cases h3a : N.length < 3
      · have h3b : ¬ N.length < n := fun h => h3 ⟨h3a, h⟩
        clear hl3 h3 HI
        go_wp2
        go_ret
        exact ⟨_, N, rfl, HO.out, hN3, HM.out, HB.out⟩
      · clear hl3 h3 HI
        go_wp2
        go_ret
        exact ⟨_, N, rfl, HO.out, hN3, HM.out, HB.out⟩
end Go.Proofs.Ytbjndbaljenlgaa
