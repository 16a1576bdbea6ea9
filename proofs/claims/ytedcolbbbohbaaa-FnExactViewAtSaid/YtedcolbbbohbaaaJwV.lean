/- Walks: ViewGrows of the program. -/
import Derived.Test.YtedcolbbbohbaaaJwL
import Derived.Test.YtedcolbbbohbaaaJwJ
import Derived.Test.YtedcolbbbohbaaaShF
namespace Go.Proofs.Ytedcolbbbohbaaa
open Go.RowKit
/-- one entry of a row -/
theorem RdR.entry {S : Nat → Prop} {w : World} {a : Option Addr} {n cap : Nat} {es : List Ent} (h : RdR S w (.slice a n cap) es) {i : Nat} (hi : i < n) :
    ∃ b off e a3 cap3, a = some ⟨b, off, none⟩ ∧ e = es.getD i e0 ∧ w.cell? ⟨b, off + i * 3, none⟩ = some (.slice a3 e.1.length cap3) ∧ w.cell? ⟨b, off + i * 3 + 1, none⟩ = some (.int .i64 e.2.1) ∧ w.cell? ⟨b, off + i * 3 + 2, none⟩ = some (.int .i64 e.2.2) ∧
      RdS S 1 w (.slice a3 e.1.length cap3) e.1.length (enc1 e.1) := by
  obtain ⟨-, a', cap', e, -, -, h3⟩ := h
  simp only [Value.slice.injEq] at e
  obtain ⟨rfl, rfl, rfl⟩ := e
  obtain ⟨b, off, rfl, hc⟩ := h3 (by omega)
  obtain ⟨cv, ⟨-, c1⟩, hr, ⟨-, c2⟩, -, c3⟩ := hc i hi
  have hr' := hr
  obtain ⟨-, -, a3, cap3, rfl, -⟩ := hr
  exact ⟨b, off, _, a3, cap3, rfl, rfl, c1, c2, c3, hr'⟩
theorem getD_ext {α : Type} (d : α) : ∀ {xs ys : List α}, xs.length = ys.length → (∀ j, j < xs.length → xs.getD j d = ys.getD j d) → xs = ys := by
  intro xs ys hl h
  refine List.ext_getElem hl fun j h1 h2 => ?_
  have := h j h1
  simpa [List.getD, h1, h2] using this
def RetB2 (b : Bool) (W : World) (e : Ending) (W' : World) : Prop := e = .returned (.bool b) ∧ Below W.heap.size W W'
theorem RetB2.of {b c : Bool} {W W' : World} (h : c = b) (hb : Below W.heap.size W W') : RetB2 b W (.returned (.bool c)) W' := by subst h; exact ⟨rfl, hb⟩
open Classical in
noncomputable def eqB {α : Type} (x y : α) : Bool := decide (x = y)
theorem eqB_t {α : Type} {x y : α} (h : x = y) : eqB x y = true := by unfold eqB; simp [h]
theorem eqB_f {α : Type} {x y : α} (h : x ≠ y) : eqB x y = false := by unfold eqB; simp [h]
set_option maxHeartbeats 1600000 in
theorem equalInts_c {S S' : Nat → Prop} (va vb : Value) (xs ys : List Int) (n m : Nat) (w : World) (ha : RdS S 1 w va n (enc1 xs)) (hn : xs.length = n) (hb : RdS S' 1 w vb m (enc1 ys)) (hm : ys.length = m) :
    Calls Try.prog 65 #[va, vb] w (RetB2 (eqB xs ys) w) := by
  obtain ⟨a1, c1, rfl, h1, h2⟩ := ha.shape
  obtain ⟨a2, c2, rfl, h3, h4⟩ := hb.shape
  unfold maxLen at h2 h4
  have HA := Lib.hid ha
  have HB := Lib.hid hb
  have HN := Lib.hid hn
  have HM := Lib.hid hm
  obtain ⟨b, hbe⟩ : ∃ b, eqB xs ys = b := ⟨_, rfl⟩
  rw [hbe]
  have NO : Hid (xs ≠ ys → false = b) := fun h => by rw [← hbe, eqB_f h]
  have YES : Hid (xs = ys → true = b) := fun h => by rw [← hbe, eqB_t h]
  clear ha hb hn hm hbe
  by_cases hnm : n = m
  · subst hnm
    go_enter Try.func65, Try.ntmps65
    go_wp2
    go_loopw [13] (fun k' wr => ∃ k : Nat, k ≤ n ∧ k' = .int .i64 k ∧ Hid (Below w.heap.size w wr) ∧ Hid (∀ j, j < k → xs.getD j 0 = ys.getD j 0)) (fun k' _ => n - (intOf k').toNat)
    case atStart => exact ⟨0, Nat.zero_le _, rfl, Below.refl _ _, fun j hj => absurd hj (Nat.not_lt_zero _)⟩
    case round =>
      obtain ⟨k, hk, rfl, HBr, HE⟩ := hrel
      by_cases hlt : k < n
      · have hlt' : (k : Int) < (n : Int) := by omega
        obtain ⟨b1, o1, cc1, x, ev, -, -, u1, HX⟩ := (HA.out.below HBr.out).num2 HN.out hlt
        simp only [Value.slice.injEq] at ev
        obtain ⟨rfl, -, rfl⟩ := ev
        obtain ⟨b2, o2, cc2, y, ev, -, -, u2, HY⟩ := (HB.out.below HBr.out).num2 HM.out hlt
        simp only [Value.slice.injEq] at ev
        obtain ⟨rfl, -, rfl⟩ := ev
        have HD : Hid (∀ n, Below w.heap.size w (wr.drewN n)) := fun n => by have := HBr.out; (repeat' (first | exact Below.refl _ _ | assumption | refine Below.drew ?_ | refine below_drewN ?_ _ | refine Below.alloc ?_ (by omega) _ | refine Below.alloc ?_ (by simp; omega) _ | refine Below.alloc ?_ (by simp) _ | refine Below.setCell ?_ (by omega) _ | refine Below.setCell ?_ (by simp; omega) _ | refine Below.setCell ?_ (by simp) _))
        by_cases hxy : x = y
        · subst hxy
          have HE' : Hid (∀ j, j < k + 1 → xs.getD j 0 = ys.getD j 0) := fun j hj => by
            by_cases e : j = k
            · subst e; rw [HX.out, HY.out]
            · exact HE.out j (by omega)
          go_wp2
          go_quiet (fail)
          go_wp2
          go_roundw
          case rel => exact ⟨k + 1, by omega, by go_num, HD.out _, HE'⟩
          case measure => simp [intOf]; omega
        · have hne : (x != y) = true := by rw [bne_iff_ne]; exact hxy
          have NO' := Lib.hid (NO.out (fun e => hxy (by rw [← HX.out, ← HY.out, e])))
          clear hxy
          go_wp2
          go_quiet (fail)
          go_wp2
          go_ret
          exact RetB2.of NO'.out (HD.out _)
      · obtain rfl : k = n := by omega
        have Y' := Lib.hid (YES.out (getD_ext 0 (HN.out.trans HM.out.symm) (fun j hj => HE.out j (by rw [HN.out] at hj; exact hj))))
        go_wp2
        go_ret
        exact RetB2.of Y'.out HBr.out
  · have hne : ((n : Int) != (m : Int)) = true := by rw [bne_iff_ne]; omega
    have NO' := Lib.hid (NO.out (fun e => hnm (by rw [← HN.out, ← HM.out, e])))
    clear hnm
    go_enter Try.func65, Try.ntmps65
    go_wp2
    go_ret
    exact RetB2.of NO'.out (Below.refl _ _)
set_option maxHeartbeats 1600000 in
theorem sameEntry_c {S S' : Nat → Prop} (va vb : Value) (c d : List Int) (x1 y1 x2 y2 : Int) (w : World) (ha : RdS S 1 w va c.length (enc1 c)) (hb : RdS S' 1 w vb d.length (enc1 d)) :
    Calls Try.prog 42 #[.agg #[va, .int .i64 x1, .int .i64 y1], .agg #[vb, .int .i64 x2, .int .i64 y2]] w (RetB2 (eqB ((c, x1, y1) : Ent) (d, x2, y2)) w) := by
  obtain ⟨a1, c1, rfl, h1, h2⟩ := ha.shape
  obtain ⟨a2, c2, rfl, h3, h4⟩ := hb.shape
  have HA := Lib.hid ha
  have HB := Lib.hid hb
  obtain ⟨b, hbe⟩ : ∃ b, eqB ((c, x1, y1) : Ent) (d, x2, y2) = b := ⟨_, rfl⟩
  rw [hbe]
  have NO : Hid (((c, x1, y1) : Ent) ≠ (d, x2, y2) → false = b) := fun h => by rw [← hbe, eqB_f h]
  have EQ : Hid (x1 = x2 → y1 = y2 → eqB c d = b) := fun h1 h2 => by
    rw [← hbe, h1, h2]
    by_cases h : c = d
    · rw [eqB_t h, h, eqB_t rfl]
    · rw [eqB_f h, eqB_f (fun e => h (by simpa using e))]
  clear ha hb hbe
  have hbb : Below w.heap.size w ((w.alloc (.cells #[.slice a1 c.length c1, .int .i64 x1, .int .i64 y1] 46)).alloc (.cells #[.slice a2 d.length c2, .int .i64 x2, .int .i64 y2] 46)) := by (repeat' (first | exact Below.refl _ _ | assumption | refine Below.drew ?_ | refine below_drewN ?_ _ | refine Below.alloc ?_ (by omega) _ | refine Below.alloc ?_ (by simp; omega) _ | refine Below.alloc ?_ (by simp) _ | refine Below.setCell ?_ (by omega) _ | refine Below.setCell ?_ (by simp; omega) _ | refine Below.setCell ?_ (by simp) _))
  have HBB := Lib.hid hbb
  clear hbb
  by_cases hx : x1 = x2
  · by_cases hy : y1 = y2
    · have E' := Lib.hid (EQ.out hx hy)
      subst hx
      subst hy
      go_enter Try.func42, Try.ntmps42
      go_wp2_with fail
      refine (equalInts_c _ _ c d _ _ _ (HA.out.below HBB.out) rfl (HB.out.below HBB.out) rfl).mono ?_
      rintro e w1 ⟨rfl, hb1⟩
      have HB1 := Lib.hid (HBB.out.trans (hb1.mono HBB.out.size))
      rw [E'.out]
      clear hb1
      cases b
      all_goals
        go_wp2
        go_ret
        exact RetB2.of rfl HB1.out
    · have hy' : (y1 == y2) = false := by rw [beq_eq_false_iff_ne]; exact hy
      have NO' := Lib.hid (NO.out (fun e => hy (by simp at e; exact e.2.2)))
      clear hy
      subst hx
      go_enter Try.func42, Try.ntmps42
      go_wp2
      go_ret
      exact RetB2.of NO'.out HBB.out
  · have hx' : (x1 == x2) = false := by rw [beq_eq_false_iff_ne]; exact hx
    have NO' := Lib.hid (NO.out (fun e => hx (by simp at e; exact e.2.1)))
    clear hx
    go_enter Try.func42, Try.ntmps42
    go_wp2
    go_ret
    exact RetB2.of NO'.out HBB.out
set_option maxHeartbeats 1600000 in
theorem equalFunc_c {S S' : Nat → Prop} (va vb : Value) (es fs : List Ent) (n m : Nat) (w : World) (ha : RdR S w va es) (hn : es.length = n) (hb : RdR S' w vb fs) (hm : fs.length = m) :
    Calls Try.prog 41 #[va, vb, .func (.func 42) #[] #[]] w (RetB2 (eqB es fs) w) := by
  obtain ⟨a1, n1, c1, rfl, hn1, h1, h2⟩ : ∃ a n cap, va = .slice a n cap ∧ n = es.length ∧ n ≤ cap ∧ cap ≤ maxLen := by
    obtain ⟨-, a, cap, rfl, h1, h2, -⟩ := ha; exact ⟨a, _, cap, rfl, rfl, h1, h2⟩
  obtain ⟨a2, m1, c2, rfl, hm1, h3, h4⟩ : ∃ a n cap, vb = .slice a n cap ∧ n = fs.length ∧ n ≤ cap ∧ cap ≤ maxLen := by
    obtain ⟨-, a, cap, rfl, h1, h2, -⟩ := hb; exact ⟨a, _, cap, rfl, rfl, h1, h2⟩
  obtain rfl : n1 = n := hn1.trans hn
  obtain rfl : m1 = m := hm1.trans hm
  unfold maxLen at h2 h4
  have HA := Lib.hid ha
  have HB := Lib.hid hb
  have HN := Lib.hid hn
  have HM := Lib.hid hm
  obtain ⟨b, hbe⟩ : ∃ b, eqB es fs = b := ⟨_, rfl⟩
  rw [hbe]
  have NO : Hid (es ≠ fs → false = b) := fun h => by rw [← hbe, eqB_f h]
  have YES : Hid (es = fs → true = b) := fun h => by rw [← hbe, eqB_t h]
  clear ha hb hn hm hbe hn1 hm1
  by_cases hnm : n1 = m1
  · subst hnm
    go_enter Try.func41, Try.ntmps41
    go_wp2
    go_loopw [17] (fun k' wr => ∃ k : Nat, k ≤ n1 ∧ k' = .int .i64 k ∧ Hid (Below w.heap.size w wr) ∧ Hid (∀ j, j < k → es.getD j e0 = fs.getD j e0)) (fun k' _ => n1 - (intOf k').toNat)
    case atStart => exact ⟨0, Nat.zero_le _, rfl, Below.refl _ _, fun j hj => absurd hj (Nat.not_lt_zero _)⟩
    case round =>
      obtain ⟨k, hk, rfl, HBr, HE⟩ := hrel
      by_cases hlt : k < n1
      · have hlt' : (k : Int) < (n1 : Int) := by omega
        obtain ⟨b8, o8, e, aB, cB, rfl, he, d2, d3, d4, hrr⟩ := (HA.out.below HBr.out).entry hlt
        obtain ⟨b9, o9, f, aC, cC, rfl, hf, f2, f3, f4, hss⟩ := (HB.out.below HBr.out).entry hlt
        obtain ⟨c, x1, y1⟩ := e
        obtain ⟨d, x2, y2⟩ := f
        simp only [] at d2 d3 d4 hrr f2 f3 f4 hss
        have HE1 := Lib.hid he
        have HE2 := Lib.hid hf
        have HRR := Lib.hid hrr
        have HSS := Lib.hid hss
        obtain ⟨cl, hcl⟩ : ∃ cl, c.length = cl := ⟨_, rfl⟩
        obtain ⟨dl, hdl⟩ : ∃ dl, d.length = dl := ⟨_, rfl⟩
        have z8 := World.block_lt_of_cell? wr _ d2
        have z9 := World.block_lt_of_cell? wr _ f2
        have hbb : Below wr.heap.size wr ((wr.alloc (.cells #[.slice aB c.length cB, .int .i64 x1, .int .i64 y1] 46)).alloc (.cells #[.slice aC d.length cC, .int .i64 x2, .int .i64 y2] 46)) := by (repeat' (first | exact Below.refl _ _ | assumption | refine Below.drew ?_ | refine below_drewN ?_ _ | refine Below.alloc ?_ (by omega) _ | refine Below.alloc ?_ (by simp; omega) _ | refine Below.alloc ?_ (by simp) _ | refine Below.setCell ?_ (by omega) _ | refine Below.setCell ?_ (by simp; omega) _ | refine Below.setCell ?_ (by simp) _))
        have HBB := Lib.hid hbb
        clear hrr hss he hf hbb hcl hdl
        go_wp2_with fail
        refine (sameEntry_c _ _ c d x1 y1 x2 y2 _ (HRR.out.below HBB.out) (HSS.out.below HBB.out)).mono ?_
        rintro e w1 ⟨rfl, hb1⟩
        have HB1 := Lib.hid (HBr.out.trans ((HBB.out.trans (hb1.mono HBB.out.size)).mono HBr.out.size))
        clear hb1 d2 d3 d4 f2 f3 f4
        by_cases hxy : ((c, x1, y1) : Ent) = (d, x2, y2)
        · rw [eqB_t hxy]
          have HE' : Hid (∀ j, j < k + 1 → es.getD j e0 = fs.getD j e0) := fun j hj => by
            by_cases e : j = k
            · subst e; rw [← HE1.out, ← HE2.out]; exact hxy
            · exact HE.out j (by omega)
          clear hxy
          go_wp2
          go_roundw
          case rel => exact ⟨k + 1, by omega, by go_num, HB1, HE'⟩
          case measure => simp [intOf]; omega
        · rw [eqB_f hxy]
          have NO' := Lib.hid (NO.out (fun e => hxy (by rw [HE1.out, HE2.out, e])))
          clear hxy
          go_wp2
          go_ret
          exact RetB2.of NO'.out HB1.out
      · obtain rfl : k = n1 := by omega
        have Y' := Lib.hid (YES.out (getD_ext e0 (HN.out.trans HM.out.symm) (fun j hj => HE.out j (by rw [HN.out] at hj; exact hj))))
        go_wp2
        go_ret
        exact RetB2.of Y'.out HBr.out
  · have hne : ((n1 : Int) != (m1 : Int)) = true := by rw [bne_iff_ne]; omega
    have NO' := Lib.hid (NO.out (fun e => hnm (by rw [← HN.out, ← HM.out, e])))
    clear hnm
    go_enter Try.func41, Try.ntmps41
    go_wp2
    go_ret
    exact RetB2.of NO'.out (Below.refl _ _)
/-- G begins with F -/
def GrwR (F G : Fd) : Prop := JV F ∧ JV G ∧ ∀ w, w < 3 → ln F w ≤ ln G w ∧ (G.getD w []).take (ln F w) = F.getD w []
open Classical in
noncomputable def vgrB (F G : Fd) : Bool := decide (GrwR F G)
theorem vgrB_t {F G : Fd} (h : GrwR F G) : vgrB F G = true := by unfold vgrB; simp [h]
theorem vgrB_f {F G : Fd} (h : ¬ GrwR F G) : vgrB F G = false := by unfold vgrB; simp [h]
theorem take_ent {F G : Fd} {w : Nat} (hl : ln F w ≤ ln G w) : (G.getD w []).take (ln F w) = F.getD w [] ↔ ∀ i, i < ln F w → ent G w i = ent F w i := by
  constructor
  · intro h i hi
    unfold ent
    rw [← h]
    simp [List.getD, List.getElem?_take, hi]
  · intro h
    have hlen : ((G.getD w []).take (ln F w)).length = (F.getD w []).length := by rw [List.length_take]; unfold ln at hl ⊢; omega
    refine getD_ext e0 hlen fun i hi => ?_
    rw [hlen] at hi
    have := h i hi
    unfold ent at this
    rw [← this]
    simp [List.getD, List.getElem?_take, show i < ln F w from hi]
theorem grwR_iff {F G : Fd} : GrwR F G ↔ Grw F G := by
  constructor
  · rintro ⟨h1, h2, h3⟩
    exact ⟨h1, h2, fun w hw => ⟨(h3 w hw).1, (take_ent (h3 w hw).1).1 (h3 w hw).2⟩⟩
  · rintro ⟨h1, h2, h3⟩
    exact ⟨h1, h2, fun w hw => ⟨(h3 w hw).1, (take_ent (h3 w hw).1).2 (h3 w hw).2⟩⟩
set_option maxHeartbeats 1600000 in
theorem viewGrows_c {S S' : Nat → Prop} (F G : Fd) (fv gv : Value) (W : World) (hf : RdF S W fv F) (hg : RdF S' W gv G) :
    Calls Try.prog 17 #[fv, gv] W (RetB2 (vgrB F G) W) := by
  have HF := Lib.hid hf
  have HG := Lib.hid hg
  obtain ⟨a0, m0, c0, rfl, hm0, q1, q2⟩ : ∃ a m cap, fv = .slice a m cap ∧ m = F.length ∧ m ≤ cap ∧ cap ≤ maxLen := by
    obtain ⟨a, cap, rfl, h1, h2⟩ := hf.shape; exact ⟨a, _, cap, rfl, rfl, h1, h2⟩
  obtain ⟨a1, m1, c1, rfl, hm1, p1, p2⟩ : ∃ a m cap, gv = .slice a m cap ∧ m = G.length ∧ m ≤ cap ∧ cap ≤ maxLen := by
    obtain ⟨a, cap, rfl, h1, h2⟩ := hg.shape; exact ⟨a, _, cap, rfl, rfl, h1, h2⟩
  unfold maxLen at q2 p2
  have HM0 := Lib.hid hm0
  have HM1 := Lib.hid hm1
  obtain ⟨b, hbe⟩ : ∃ b, vgrB F G = b := ⟨_, rfl⟩
  rw [hbe]
  have NO : Hid (¬ GrwR F G → false = b) := fun h => by rw [← hbe, vgrB_f h]
  have YES : Hid (GrwR F G → true = b) := fun h => by rw [← hbe, vgrB_t h]
  clear hf hg hm0 hm1 hbe
  go_enter Try.func17, Try.ntmps17
  go_wp2_with fail
  refine (joinValid_c F _ _ HF.out).mono ?_
  rintro e w1 ⟨rfl, hb1⟩
  have HB1 := Lib.hid hb1
  clear hb1
  by_cases hj : JV F
  · rw [jvB_t hj]
    have HJ := Lib.hid hj
    clear hj
    go_wp2_with fail
    refine (joinValid_c G _ _ (HG.out.below HB1.out)).mono ?_
    rintro e w2 ⟨rfl, hb2⟩
    have HB2 := Lib.hid (HB1.out.trans (hb2.mono HB1.out.size))
    clear hb2
    by_cases hk : JV G
    · rw [jvB_t hk]
      have HK := Lib.hid hk
      clear hk
      have hm3 : m0 = 3 := HM0.out.trans HJ.out.1
      have hn3 : m1 = 3 := HM1.out.trans HK.out.1
      subst hm3
      subst hn3
      go_wp2
      go_loopw [17] (fun v' wr => ∃ v : Nat, v ≤ 3 ∧ v' = .int .i64 v ∧ Hid (Below w2.heap.size w2 wr) ∧ Hid (∀ u, u < v → ln F u ≤ ln G u ∧ (G.getD u []).take (ln F u) = F.getD u [])) (fun v' _ => 3 - (intOf v').toNat)
      case atStart => exact ⟨0, Nat.zero_le _, rfl, Below.refl _ _, fun u hu => absurd hu (Nat.not_lt_zero _)⟩
      case round =>
        obtain ⟨v, hv, rfl, HBr, HE⟩ := hrel
        have HBW := Lib.hid (HB2.out.trans (HBr.out.mono HB2.out.size))
        by_cases hlt : v < 3
        · have hlt' : (v : Int) < 3 := by omega
          obtain ⟨b5, o5, c5, a6, c6, ev, -, -, q5, q6, q7, qa⟩ := (HF.out.below HBW.out).feed (j := v) (by rw [HJ.out.1]; exact hlt)
          rw [HJ.out.1] at ev
          simp only [Value.slice.injEq] at ev
          obtain ⟨rfl, -, rfl⟩ := ev
          obtain ⟨b7, o7, c7, a8, c8, ev, -, -, r5, r6, r7, ra⟩ := (HG.out.below HBW.out).feed (j := v) (by rw [HK.out.1]; exact hlt)
          rw [HK.out.1] at ev
          simp only [Value.slice.injEq] at ev
          obtain ⟨rfl, -, rfl⟩ := ev
          unfold maxLen at q7 r7
          obtain ⟨p, hp⟩ : ∃ p, ln F v = p := ⟨_, rfl⟩
          obtain ⟨q, hq⟩ : ∃ q, ln G v = q := ⟨_, rfl⟩
          rw [hp] at q5 q6 qa
          rw [hq] at r5 r6 ra
          have HP := Lib.hid (And.intro hp hq)
          have QA := Lib.hid qa
          have RA := Lib.hid ra
          clear hp hq qa ra
          by_cases hpq : p ≤ q
          · have hpq' : ¬ ((q : Int) < (p : Int)) := by omega
            have hpq2 : ¬ (q < p) := by omega
            have hpc : p ≤ c8 := by omega
            go_wp2_with fail
            refine (equalFunc_c _ _ (F.getD v []) ((G.getD v []).take p) p p _ QA.out HP.out.1 (RA.out.take hpq) (by have := HP.out.2; unfold ln at this; rw [List.length_take]; omega)).mono ?_
            rintro e w3 ⟨rfl, hb3⟩
            have HB3 := Lib.hid (HBr.out.trans (hb3.mono HBr.out.size))
            clear hb3 q5 r5
            by_cases he : F.getD v [] = (G.getD v []).take p
            · rw [eqB_t he]
              have HE' : Hid (∀ u, u < v + 1 → ln F u ≤ ln G u ∧ (G.getD u []).take (ln F u) = F.getD u []) := fun u hu => by
                by_cases e : u = v
                · subst e; rw [HP.out.1, HP.out.2]; exact ⟨hpq, he.symm⟩
                · exact HE.out u (by omega)
              clear he
              go_wp2
              go_roundw
              case rel => exact ⟨v + 1, by omega, by go_num, HB3, HE'⟩
              case measure => simp [intOf]; omega
            · rw [eqB_f he]
              have NO' := Lib.hid (NO.out (fun hh => he (by have := (hh.2.2 v hlt).2; rw [HP.out.1] at this; exact this.symm)))
              clear he
              go_wp2
              go_ret
              exact RetB2.of NO'.out (HB2.out.trans (HB3.out.mono HB2.out.size))
          · have hpq' : ((q : Int) < (p : Int)) := by omega
            have NO' := Lib.hid (NO.out (fun hh => by have := (hh.2.2 v hlt).1; rw [HP.out.1, HP.out.2] at this; exact hpq this))
            go_wp2
            go_ret
            exact RetB2.of NO'.out HBW.out
        · obtain rfl : v = 3 := by omega
          have Y' := Lib.hid (YES.out ⟨HJ.out, HK.out, HE.out⟩)
          go_wp2
          go_ret
          exact RetB2.of Y'.out HBW.out
    · rw [jvB_f hk]
      have NO' := Lib.hid (NO.out (fun hh => hk hh.2.1))
      clear hk
      go_wp2
      go_ret
      exact RetB2.of NO'.out HB2.out
  · rw [jvB_f hj]
    have NO' := Lib.hid (NO.out (fun hh => hj hh.1))
    clear hj
    go_wp2
    go_ret
    exact RetB2.of NO'.out HB1.out
end Go.Proofs.Ytedcolbbbohbaaa
