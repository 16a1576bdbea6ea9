/- Walks: the library's sorts of few numbers; a copy of numbers. -/
import Derived.Test.YtbjndbaljenlgaaSoP
import Derived.Test.YtbjndbaljenlgaaHd
import Derived.Test.YtbjndbaljenlgaaSub
import Derived.Laws.AppendOwnNone
import Derived.StillTailTactics
namespace Go.Proofs.Ytbjndbaljenlgaa
open Go.RowKit
set_option linter.unusedSimpArgs false
theorem info_intI : (Try.prog.info? 3).map (fun i => (i.zero, i.size, i.bytes)) = some (some (.int .i64 0), 1, 8) := by kernel_rfl
theorem enc1_set (L : List Int) (k : Nat) (x : Int) : (enc1 L).set k (.int .i64 x) = enc1 (L.set k x) := by simp [enc1, List.map_set]
theorem enc1_one (L : List Int) : ∀ u ∈ enc1 L, u.oneCell' = true := by intro u hu; simp [enc1] at hu; obtain ⟨x, -, rfl⟩ := hu; rfl
theorem grown_drewI {a b : World} {row : Option Nat} (h : a.drew.grownBy b row) : a.grownBy b row := ⟨h.os, h.tape, h.output, h.size, h.block⟩
/-- append of a row that can be read to a slice of the call's own -/
theorem wpList_appRowI {P : Program} {S : Nat → Prop} (w : World) {ops : Array Oper} {rest : List Oper} {o : Oper} {a : Act} {Q : Exit → Act → World → Prop} (hgd : o.guard = none) (s x : Operand) (t : TypeId)
    (ho : o.op = .call { callee := .builtin .append, args := #[s, x], argTypes := #[t, t] }) (base : Nat) (e : TypeId) (hu : P.underlying t = some (.slice e)) (z : Value) (by_ : Nat)
    (hinfo : (P.info? e).map (fun i => (i.zero, i.size, i.bytes)) = some (some z, 1, by_)) (hz : z.cells.size = 1) (hby : by_ ≤ 16) (v : Value) (n : Nat) (flat : List Value) (hs : a.eval s = v) (hown : w.ownsRow base e 1 v n flat)
    (xv : Value) (m : Nat) (news : List Value) (hx : a.eval x = xv) (hr : RdS S 1 w xv m news) (h1 : ∀ u ∈ news, u.oneCell' = true) (hn : n ≤ 1048576) (hm : m ≤ 1048576) (hb : base ≤ w.heap.size)
    (h : ∀ v' w', w'.ownsRow base e 1 v' (n + m) (flat ++ news) → w.grownBy w' v.ownBlock → wpList P ops Q rest (a.put o.dst v') w') :
    wpList P ops Q (o :: rest) a w := by
  obtain ⟨i0, hi, hz0, hz1, hz2⟩ := info_parts hinfo
  rcases hr.2.1 with rfl | ⟨ad, m', cap, rfl⟩
  · obtain ⟨hl, -, a', cap', e', -⟩ := hr
    injection e' with _ e2 _
    subst e2
    have : news = [] := List.eq_nil_of_length_eq_zero (by simpa using hl)
    subst this
    refine wpList_append_own_none hgd s x t ho base e i0 1 hu hi v n flat hs hown hx (h v w (by simpa using hown) (World.grownBy.refl _ _))
  · obtain ⟨hl, -, a', cap', e', -, -, hc⟩ := hr
    injection e' with e1 e2 e3
    subst e2
    subst e1
    refine wpList_append_own _ hgd s x t ho base e i0 z 1 by_ hu hi hz0 hz1 hz2 hz (by decide) v n flat hs hown ad m' cap news hx hl ?_ h1 ?_ ?_ hb ?_
    · intro j u hj
      have hj1 := (List.getElem?_eq_some_iff.1 hj).1
      obtain ⟨b, off, e5, hcc⟩ := hc (by omega)
      injection e5 with e5
      subst e5
      have hadd : (⟨b, off, none⟩ : Addr).add j = ⟨b, off + j, none⟩ := by unfold Addr.add; split <;> simp_all
      rw [hadd]
      exact (hcc j u hj).2
    · unfold maxLen; omega
    · have : (n + m') * by_ ≤ (n + m') * 16 := Nat.mul_le_mul_left _ hby
      omega
    · intro v' w' g1 g2 _
      exact h v' w' g1 g2
theorem isNaN_c (x : Int) (w : World) : Calls Try.prog 151 #[.int .i64 x] w fun e w' => e = .returned (.bool false) ∧ w = w' := by
  go_enter Try.func151, Try.ntmps151
  go_wp2
  go_ret
  exact ⟨by simp, rfl⟩
theorem less_c (x y : Int) (w : World) : Calls Try.prog 136 #[.int .i64 x, .int .i64 y] w fun e w' => e = .returned (.bool (decide (x < y))) ∧ w = w' := by
  go_enter Try.func136, Try.ntmps136
  go_wp2_with fail
  refine (isNaN_c x _).mono ?_
  rintro e w' ⟨rfl, rfl⟩
  go_wp2
  go_ret
  exact ⟨rfl, rfl⟩
set_option maxRecDepth 100000 in
theorem lenB_c (n : Nat) (hn : n ≤ 7) (w : World) : Calls Try.prog 140 #[.int .u64 n] w fun e w' => ∃ m : Int, e = .returned (.int .i64 m) ∧ w = w' := by
  have h8 : n = 0 ∨ n = 1 ∨ n = 2 ∨ n = 3 ∨ n = 4 ∨ n = 5 ∨ n = 6 ∨ n = 7 := by omega
  rcases h8 with rfl | rfl | rfl | rfl | rfl | rfl | rfl | rfl
  all_goals
    go_enter Try.func140, Try.ntmps140
    go_wp2
    go_ret
    exact ⟨_, rfl, rfl⟩
theorem len_c (n : Nat) (hn : n ≤ 7) (w : World) : Calls Try.prog 109 #[.int .u64 n] w fun e w' => ∃ m : Int, e = .returned (.int .i64 m) ∧ w = w' := by
  go_enter Try.func109, Try.ntmps109
  go_wp2_with fail
  refine (lenB_c n hn _).mono ?_
  rintro e w' ⟨m, rfl, rfl⟩
  go_wp2
  go_ret
  exact ⟨_, rfl, rfl⟩
/-- cloned numbers, in memory of the call's own -/
theorem cloneI_c {S : Nat → Prop} (v : Value) (L : List Int) (w : World) (h : RdS S 1 w v L.length (enc1 L)) (hn : L.length ≤ 1000) :
    Calls Try.prog 107 #[v] w fun e w' => ∃ u, e = .returned u ∧ w'.ownsRow w.heap.size 3 1 u L.length (enc1 L) ∧ Below w.heap.size w w' := by
  have HR := h
  obtain ⟨a1, c1, rfl, h1, m1⟩ := h.shape
  unfold maxLen at m1
  obtain ⟨i0, hi, hz0, hz1, hz2⟩ := info_parts info_intI
  obtain ⟨n, hnn⟩ : ∃ n, L.length = n := ⟨_, rfl⟩
  rw [hnn] at HR hn h1 ⊢
  have EB := Lib.hid (enc1_one L)
  generalize enc1 L = xs at *
  clear hnn L h
  go_enter Try.func107, Try.ntmps107
  go_wp2_with (at_make; refine wpList_make_own _ rfl _ _ 48 rfl w.heap.size 3 i0 (.int .i64 0) 1 Try.underlying48 hi hz0 hz1 .i64 .i64 _ n rfl rfl rfl ?c1 ?c2 ?c3 ?_)
  case c1 => rw [hz2]; omega
  case c2 => unfold maxLen; omega
  case c3 => simp
  intro w1 hown hgrow
  have hb1 := grown_below hgrow (Nat.le_refl _) (fun k hk => by cases hk)
  have hsz := hb1.size
  have HR1 := HR.below hb1
  clear hz0 hz1 hz2 hi HR
  go_wp2_with (at_builtin; refine wpList_appRowI _ rfl _ _ 48 rfl w.heap.size 3 Try.underlying48 (.int .i64 0) 8 info_intI rfl (by omega) _ 0 [] rfl hown _ n xs rfl HR1 EB.out (by omega) (by omega) hsz ?_)
  intro v' w4 hown4 hg4
  have hb4 := hb1.grown hg4 hsz (fun k hk => (hown.lt k hk).1)
  have hown4 : w4.ownsRow w.heap.size 3 1 v' n xs := by simpa using hown4
  clear hown hb1 hg4
  go_wp2
  go_ret
  exact ⟨_, rfl, hown4, hb4⟩
theorem grown_todrew {a b : World} {row : Option Nat} (h : a.grownBy b row) : a.grownBy b.drew row := ⟨h.os, h.tape, h.output, h.size, h.block⟩
theorem swap_own {W : World} {base g n cap m m' : Nat} {L : List Int} {x y : Int} (h : W.ownsRow base 3 1 (.slice (some ⟨g, 0, none⟩) n cap) n (enc1 L)) :
    ((W.setCell ⟨g, m, none⟩ (.int .i64 y)).setCell ⟨g, m', none⟩ (.int .i64 x)).ownsRow base 3 1 (.slice (some ⟨g, 0, none⟩) n cap) n (enc1 ((L.set m y).set m' x)) ∧ W.grownBy ((W.setCell ⟨g, m, none⟩ (.int .i64 y)).setCell ⟨g, m', none⟩ (.int .i64 x)) (some g) := by
  have a := h.stored m (.int .i64 y)
  have b := a.1.stored m' (.int .i64 x)
  rw [← enc1_set, ← enc1_set]
  exact ⟨b.1, grown_trans a.2 b.2⟩
def SortP (R : Int → Int → Prop) (base : Nat) (v : Value) (L0 : List Int) (w : World) (e : Ending) (w' : World) : Prop :=
  ∃ L', e = .returned (.tuple #[]) ∧ w'.ownsRow base 3 1 v L0.length (enc1 L') ∧ L'.Perm L0 ∧ L'.Pairwise R ∧ w.grownBy w' v.ownBlock
set_option maxHeartbeats 1600000 in
theorem insOrd_c (base : Nat) (v : Value) (L0 : List Int) (w : World) (h : w.ownsRow base 3 1 v L0.length (enc1 L0)) (hn : L0.length ≤ 7) :
    Calls Try.prog 130 #[v, .int .i64 0, .int .i64 L0.length] w (SortP (· ≤ ·) base v L0 w) := by
  obtain ⟨n, hnn⟩ : ∃ n, L0.length = n := ⟨_, rfl⟩
  have HNN := Lib.hid hnn
  rw [hnn] at h hn ⊢
  by_cases h0 : n = 0
  · subst h0
    obtain ⟨a, c, rfl⟩ := own_slice h
    have HE : Hid (SortP (· ≤ ·) base (.slice a 0 c) L0 w (.returned (.tuple #[])) w) := Lib.hid ⟨L0, rfl, by rw [HNN.out]; exact h, List.Perm.refl _, by rw [List.eq_nil_of_length_eq_zero HNN.out]; exact List.Pairwise.nil, World.grownBy.refl _ _⟩
    clear h HNN hnn
    go_enter Try.func130, Try.ntmps130
    go_wp2
    go_loopw [6, 7] (fun i _ wr => i = .int .i64 1 ∧ w = wr) (fun _ _ _ => 0)
    case atStart => exact ⟨rfl, rfl⟩
    case round =>
      obtain ⟨rfl, rfl⟩ := hrel
      go_wp2
      go_end0
      exact HE.out
  · have hnn' : 1 ≤ n := by omega
    obtain ⟨g, cap, rfl, hb, hgl, hc1, hc2⟩ : ∃ g cap, v = .slice (some ⟨g, 0, none⟩) n cap ∧ base ≤ g ∧ g < w.heap.size ∧ n ≤ cap ∧ cap ≤ maxLen := by
      rcases own_cases h with ⟨-, h0', -⟩ | h'
      · omega
      · exact h'
    unfold maxLen at hc2
    have H := Lib.hid h
    clear h hnn h0
    go_enter Try.func130, Try.ntmps130
    go_wp2
    go_loopw [6, 7] (fun i _ wr => ∃ (k : Nat) (L : List Int), 1 ≤ k ∧ k ≤ n ∧ i = .int .i64 k ∧ Hid (wr.ownsRow base 3 1 (.slice (some ⟨g, 0, none⟩) n cap) n (enc1 L) ∧ Sorted (· ≤ ·) L0 L k ∧ w.grownBy wr (some g))) (fun i _ _ => n - (intOf i).toNat)
    case atStart => exact ⟨1, L0, Nat.le_refl _, hnn', rfl, Lib.hid ⟨H.out, (by have := Sorted.start (· ≤ ·) L0; rw [HNN.out, Nat.min_eq_left hnn'] at this; exact this), World.grownBy.refl _ _⟩⟩
    case round =>
      obtain ⟨k, L, hk1, hk, rfl, HI⟩ := hrel
      by_cases hlt : k < n
      · have HW := Lib.hid (And.intro HI.out.1 (And.intro (HI.out.2.1.way (by rw [HNN.out]; exact hlt)) HI.out.2.2))
        clear HI
        go_wp2
        go_loopw [7] (fun j wr' => ∃ (m : Nat) (L : List Int), m ≤ k ∧ j = .int .i64 m ∧ Hid (wr'.ownsRow base 3 1 (.slice (some ⟨g, 0, none⟩) n cap) n (enc1 L) ∧ Way (· ≤ ·) L0 L k m ∧ w.grownBy wr' (some g))) (fun j _ => (intOf j).toNat)
        case atStart => exact ⟨k, L, Nat.le_refl _, rfl, HW⟩
        case round =>
          obtain ⟨m, L, hm, rfl, HI⟩ := hrel
          by_cases hm0 : m = 0
          · subst hm0
            have hs := Lib.hid (And.intro HI.out.1 (And.intro (HI.out.2.1.stop (cmp_le L0) (by rw [HNN.out]; exact hlt) (.inl rfl)) HI.out.2.2))
            clear HI
            go_wp2
            refine wp_region_sub (by kernel_rfl) (by kernel_rfl) ?_
            repeat (go_big_quiet_step (fail))
            refine wpQuiet_nil ?_
            rintro _ ⟨xs, rfl⟩
            have HI2 := Lib.hid (And.intro (own_below hs.out.1 xs.b) (And.intro hs.out.2.1 (grown_trans hs.out.2.2 (below_grown xs.b _))))
            clear hs
            go_wp2
            go_roundw
            case rel => exact ⟨k + 1, L, by omega, by omega, by go_num, HI2⟩
            case measure => simp [intOf]; omega
          · obtain ⟨m', hmm⟩ : ∃ m', m = m' + 1 := ⟨m - 1, by omega⟩
            have HM := Lib.hid hmm
            have hme : (m : Int) - 1 = (m' : Int) := by omega
            have hm0' : 0 < m := by omega
            have hmn : m < n := by omega
            have hm'n : m' < n := by omega
            have hmc : m < cap := by omega
            have hm'c : m' < cap := by omega
            have hLl : Hid (L.length = n) := Lib.hid (by rw [(HI.out.2.1.len (by rw [HNN.out]; exact hlt)).1, HNN.out])
            have s1 := HI.out.1.cellAt m (by omega)
            have s2 := HI.out.1.cellAt m' (by omega)
            rw [enc1_at L m 0 (by rw [hLl.out]; exact hmn)] at s1
            rw [enc1_at L m' 0 (by rw [hLl.out]; exact hm'n)] at s2
            obtain ⟨x, hx⟩ : ∃ x, L.getD m 0 = x := ⟨_, rfl⟩
            obtain ⟨y, hy⟩ : ∃ y, L.getD m' 0 = y := ⟨_, rfl⟩
            rw [hx] at s1
            rw [hy] at s2
            have HX := Lib.hid (And.intro hx hy)
            clear hx hy hmm hm0
            by_cases hxy : x < y
            · have LC := Lib.hid (fun (W : World) => (show Calls Try.prog 136 #[.int .i64 x, .int .i64 y] W (fun e w' => e = .returned (.bool true) ∧ W = w') from by have := less_c x y W; rw [decide_eq_true hxy] at this; exact this))
              have HW2 := Lib.hid (HI.out.2.1)
              have z1 := fun (xx : Sub wr) => xx.cell s1
              have z2 := fun (xx : Sub wr) => xx.cell s2
              go_wp2
              refine wp_region_sub (by kernel_rfl) (by kernel_rfl) ?_
              repeat (go_big_quiet_step (with_reducible (exact Calls.sub_same (v := .bool true) (fun W _ => LC.out W))))
              refine wpQuiet_nil ?_
              rintro _ ⟨xs, rfl⟩
              have HO := Lib.hid (own_below HI.out.1 xs.b)
              have HG := Lib.hid (grown_trans HI.out.2.2 (below_grown xs.b _))
              have s1 := z1 xs
              have s2 := z2 xs
              have f1 := HO.out.frozenAt m
              have f2 := HO.out.frozenAt m'
              clear z1 z2 HI LC
              go_wp2
              go_region
              go_wp2
              go_roundw
              case rel =>
                refine ⟨m', _, by have := HM.out; omega, by go_num, Lib.hid ⟨(swap_own HO.out).1, ?_, grown_todrew (grown_trans HG.out (swap_own (m := m) (m' := m') (x := x) (y := y) HO.out).2)⟩⟩
                have hsw := Way.swap (cmp_le L0) (HM.out ▸ HW2.out) (by rw [HNN.out]; exact hlt) (by rw [← HM.out, HX.out.1, HX.out.2]; exact hxy)
                rw [← HM.out, HX.out.1, HX.out.2] at hsw
                exact hsw
              case measure => have := HM.out; simp [intOf]; omega
            · have LC := Lib.hid (fun (W : World) => (show Calls Try.prog 136 #[.int .i64 x, .int .i64 y] W (fun e w' => e = .returned (.bool false) ∧ W = w') from by have := less_c x y W; rw [decide_eq_false hxy] at this; exact this))
              have HS := Lib.hid (HI.out.2.1.stop (cmp_le L0) (by rw [HNN.out]; exact hlt) (.inr (by have e : m - 1 = m' := (by have := HM.out; omega); rw [e, HX.out.1, HX.out.2]; exact hxy)))
              have z1 := fun (xx : Sub wr) => xx.cell s1
              have z2 := fun (xx : Sub wr) => xx.cell s2
              go_wp2
              refine wp_region_sub (by kernel_rfl) (by kernel_rfl) ?_
              repeat (go_big_quiet_step (with_reducible (exact Calls.sub_same (v := .bool false) (fun W _ => LC.out W))))
              refine wpQuiet_nil ?_
              rintro _ ⟨xs, rfl⟩
              have HI2 := Lib.hid (And.intro (own_below HI.out.1 xs.b) (And.intro HS.out (grown_trans HI.out.2.2 (below_grown xs.b _))))
              clear z1 z2 HI LC HS
              go_wp2
              go_roundw
              case rel => exact ⟨k + 1, L, by omega, by omega, by go_num, HI2⟩
              case measure => simp [intOf]; omega
      · obtain rfl : k = n := by omega
        go_wp2
        go_end0
        have hd := HI.out.2.1.done (by rw [HNN.out]; exact Nat.le_refl _)
        exact ⟨L, rfl, by rw [HNN.out]; exact HI.out.1, hd.1, hd.2, HI.out.2.2⟩
theorem pdq_c (base : Nat) (v : Value) (L0 : List Int) (lim : Int) (w : World) (h : w.ownsRow base 3 1 v L0.length (enc1 L0)) (hn : L0.length ≤ 7) :
    Calls Try.prog 108 #[v, .int .i64 0, .int .i64 L0.length, .int .i64 lim] w (SortP (· ≤ ·) base v L0 w) := by
  have IC := Lib.hid (insOrd_c base v L0 w h hn)
  obtain ⟨a, c, rfl⟩ := own_slice h
  generalize hp : SortP (· ≤ ·) base (.slice a L0.length c) L0 w = post at *
  have HP : Hid (∀ e w', post e w' → e = .returned (.tuple #[])) := Lib.hid (by subst hp; rintro e w' ⟨L', he, -⟩; exact he)
  generalize L0.length = n at *
  clear h hp
  go_enter Try.func108, Try.ntmps108
  go_wp2
  go_loopw [1, 2, 3, 8, 9, 10, 11, 12, 13, 14, 15, 16, 17, 18] (fun a b l c d _ _ _ _ _ _ _ _ _ wr => a = .int .i64 0 ∧ b = .int .i64 n ∧ l = .int .i64 lim ∧ c = .bool true ∧ d = .bool true ∧ w = wr) (fun _ _ _ _ _ _ _ _ _ _ _ _ _ _ _ => 0)
  case atStart => exact ⟨rfl, rfl, rfl, rfl, rfl, rfl⟩
  case round =>
    obtain ⟨rfl, rfl, rfl, rfl, rfl, rfl⟩ := hrel
    go_wp2_with fail
    refine (IC.out).mono ?_
    intro e w' hpost
    obtain rfl := HP.out _ _ hpost
    go_wp2
    go_end0
    exact hpost
theorem sort_c (base : Nat) (v : Value) (L0 : List Int) (w : World) (h : w.ownsRow base 3 1 v L0.length (enc1 L0)) (hn : L0.length ≤ 7) :
    Calls Try.prog 66 #[v] w (SortP (· ≤ ·) base v L0 w) := by
  have PC := Lib.hid (fun lim => pdq_c base v L0 lim w h hn)
  obtain ⟨a, c, rfl⟩ := own_slice h
  generalize hp : SortP (· ≤ ·) base (.slice a L0.length c) L0 w = post at *
  have HP : Hid (∀ e w', post e w' → e = .returned (.tuple #[])) := Lib.hid (by subst hp; rintro e w' ⟨L', he, -⟩; exact he)
  generalize L0.length = n at *
  clear h hp
  go_enter Try.func66, Try.ntmps66
  go_wp2_with fail
  refine (len_c n hn _).mono ?_
  rintro e w' ⟨m, rfl, rfl⟩
  go_wp2_with fail
  refine (PC.out m).mono ?_
  intro e w' hpost
  obtain rfl := HP.out _ _ hpost
  go_wp2
  go_end0
  exact hpost
end Go.Proofs.Ytbjndbaljenlgaa
