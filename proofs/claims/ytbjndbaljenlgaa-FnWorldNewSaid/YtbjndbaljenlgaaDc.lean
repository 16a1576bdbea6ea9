/- Contracts of l11Copy, and of the reference's HeadPublic, HeadMake. -/
import Derived.Test.YtbjndbaljenlgaaDt
import Derived.Laws.AppendOwnNone
import Derived.Deep.DeepCutAuto
namespace Go.Proofs.Ytbjndbaljenlgaa
open Go.RowKit
set_option linter.unusedSimpArgs false
/-- append of a row that can be read to a slice of the call's own -/
theorem wpList_appRow {P : Program} {S : Nat → Prop} (w : World) {ops : Array Oper} {rest : List Oper} {o : Oper} {a : Act} {Q : Exit → Act → World → Prop} (hgd : o.guard = none) (s x : Operand) (t : TypeId)
    (ho : o.op = .call { callee := .builtin .append, args := #[s, x], argTypes := #[t, t] }) (base : Nat) (e : TypeId) (hu : P.underlying t = some (.slice e)) (z : Value) (by_ : Nat)
    (hinfo : (P.info? e).map (fun i => (i.zero, i.size, i.bytes)) = some (some z, 1, by_)) (hz : z.cells.size = 1) (hby : by_ ≤ 16) (v : Value) (n : Nat) (flat : List Value) (hs : a.eval s = v) (hown : w.ownsRow base e 1 v n flat)
    (xv : Value) (m : Nat) (news : List Value) (hx : a.eval x = xv) (hr : RdS S 1 w xv m news) (h1 : ∀ u ∈ news, u.oneCell' = true) (hn : n ≤ 1048576) (hm : m ≤ 1048576) (hb : base ≤ w.heap.size)
    (h : ∀ v' w', w'.ownsRow base e 1 v' (n + m) (flat ++ news) → w.grownBy w' v.ownBlock → wpList P ops Q rest (a.put o.dst v') w') :
    wpList P ops Q (o :: rest) a w := by
  obtain ⟨i0, hi, hz0, hz1, hz2⟩ := info_parts hinfo
  rcases hr.2.1 with rfl | ⟨ad, m', cap, rfl⟩
  · obtain ⟨hl, -, a', cap', e', -⟩ := hr
    injection e' with _ e2 _
    subst e2
    have : news = [] := List.eq_nil_of_length_eq_zero (by simpa using hl)
    subst this
    refine wpList_append_own_none hgd s x t ho base e i0 1 hu hi v n flat hs hown hx (h v w (by simpa using hown) (World.grownBy.refl _ _))
  · obtain ⟨hl, -, a', cap', e', -, -, hc⟩ := hr
    injection e' with e1 e2 e3
    subst e2
    subst e1
    refine wpList_append_own _ hgd s x t ho base e i0 z 1 by_ hu hi hz0 hz1 hz2 hz (by decide) v n flat hs hown ad m' cap news hx hl ?_ h1 ?_ ?_ hb ?_
    · intro j u hj
      have hj1 := (List.getElem?_eq_some_iff.1 hj).1
      obtain ⟨b, off, e5, hcc⟩ := hc (by omega)
      injection e5 with e5
      subst e5
      have hadd : (⟨b, off, none⟩ : Addr).add j = ⟨b, off + j, none⟩ := by unfold Addr.add; split <;> simp_all
      rw [hadd]
      exact (hcc j u hj).2
    · unfold maxLen; omega
    · have : (n + m') * by_ ≤ (n + m') * 16 := Nat.mul_le_mul_left _ hby
      omega
    · intro v' w' g1 g2 _
      exact h v' w' g1 g2
theorem encS_one (l : List ByteArray) : ∀ u ∈ encS l, u.oneCell' = true := by intro u hu; simp [encS] at hu; obtain ⟨x, -, rfl⟩ := hu; rfl
theorem encB_one (l : List Bool) : ∀ u ∈ encB l, u.oneCell' = true := by intro u hu; simp [encB] at hu; rcases hu with ⟨-, rfl⟩ | ⟨-, rfl⟩ <;> rfl
theorem own_set {w : World} {B g j : Nat} {u : Value} {e : TypeId} {sz : Nat} {v : Value} {n : Nat} {xs : List Value} (h : w.ownsRow B e sz v n xs) (hg : g < B) : (w.setCell ⟨g, j, none⟩ u).ownsRow B e sz v n xs := own_kept_r h (grown_set (World.grownBy.refl _ _)) hg
/-- the same feed in memory of the call's own, its two slices apart -/
def CopyP (f : FeedV) (w : World) (e : Ending) (w' : World) : Prop :=
  ∃ ub uh, e = .returned (.agg #[.int .i64 f.pub, .int .i64 f.len, .int .i64 f.dig, .int .i64 f.sign, ub, uh]) ∧ w'.ownsRow w.heap.size 9 1 ub f.bs.length (encS f.bs) ∧ w'.ownsRow w.heap.size 4 1 uh f.hv.length (encB f.hv) ∧
    (ub.ownBlock = none ∨ ub.ownBlock ≠ uh.ownBlock) ∧ Below w.heap.size w w'
set_option maxHeartbeats 1000000 in
theorem copy_d {S : Nat → Prop} (f : FeedV) (vb vh : Value) (w : World) (hb : RdS S 1 w vb f.bs.length (encS f.bs)) (hh : RdS S 1 w vh f.hv.length (encB f.hv)) (hn : f.bs.length ≤ 1048576 ∧ f.hv.length ≤ 1048576) :
    Calls Try.prog 118 #[.agg #[.int .i64 f.pub, .int .i64 f.len, .int .i64 f.dig, .int .i64 f.sign, vb, vh]] w (CopyP f w) := by
  have HB0 := Lib.hid (fun W (hW : Below w.heap.size w W) => hb.below hW)
  have HH0 := Lib.hid (fun W (hW : Below w.heap.size w W) => hh.below hW)
  have HP := Lib.hid (show ∀ e w' ub uh, e = .returned (.agg #[.int .i64 f.pub, .int .i64 f.len, .int .i64 f.dig, .int .i64 f.sign, ub, uh]) → w'.ownsRow w.heap.size 9 1 ub f.bs.length (encS f.bs) → w'.ownsRow w.heap.size 4 1 uh f.hv.length (encB f.hv) → (ub.ownBlock = none ∨ ub.ownBlock ≠ uh.ownBlock) → Below w.heap.size w w' → CopyP f w e w' from fun _ _ ub uh h1 h2 h3 h4 h5 => ⟨ub, uh, h1, h2, h3, h4, h5⟩)
  obtain ⟨-, -, a1, k1, rfl, hb1, hb2, -⟩ := hb
  obtain ⟨-, -, a2, k2, rfl, hh1, hh2, -⟩ := hh
  obtain ⟨hn1, hn2⟩ := hn
  obtain ⟨p, len, dig, sign, bs, hv⟩ := f
  dsimp only at *
  generalize CopyP ⟨p, len, dig, sign, bs, hv⟩ w = post at *
  unfold maxLen at hb2 hh2
  have EB := Lib.hid (encS_one bs)
  have EH := Lib.hid (encB_one hv)
  generalize bs.length = n1 at *
  generalize hv.length = n2 at *
  generalize encS bs = xb at *
  generalize encB hv = xh at *
  clear bs hv
  obtain ⟨W0, hW0⟩ : ∃ W0, W0 = (w.alloc (.cells #[.int .i64 p, .int .i64 len, .int .i64 dig, .int .i64 sign, .slice a1 n1 k1, .slice a2 n2 k2] 39)).alloc (.cells #[.int .i64 0, .int .i64 0, .int .i64 0, .int .i64 0, .slice none 0 0, .slice none 0 0] 39) := ⟨_, rfl⟩
  have hB0 : Below w.heap.size w W0 := by rw [hW0]; (repeat' (first | exact Below.refl _ _ | assumption | refine Below.drew ?_ | refine below_drewN ?_ _ | refine Below.alloc ?_ (by omega) _ | refine Below.alloc ?_ (by simp; omega) _ | refine Below.alloc ?_ (by simp) _ | refine Below.setCell ?_ (by omega) _ | refine Below.setCell ?_ (by simp; omega) _ | refine Below.setCell ?_ (by simp) _))
  have hS0 : W0.heap.size = w.heap.size + 2 := by rw [hW0]; simp
  have x0 : W0.cell? ⟨w.heap.size, 0, none⟩ = some (.int .i64 p) := by rw [hW0]; (repeat rw [World.cell?_alloc_lt _ _ _ (by first | (simp; done) | (simp; omega))]); exact cell_new (by simp) rfl
  have x1 : W0.cell? ⟨w.heap.size, 1, none⟩ = some (.int .i64 len) := by rw [hW0]; (repeat rw [World.cell?_alloc_lt _ _ _ (by first | (simp; done) | (simp; omega))]); exact cell_new (by simp) rfl
  have x2 : W0.cell? ⟨w.heap.size, 2, none⟩ = some (.int .i64 dig) := by rw [hW0]; (repeat rw [World.cell?_alloc_lt _ _ _ (by first | (simp; done) | (simp; omega))]); exact cell_new (by simp) rfl
  have x3 : W0.cell? ⟨w.heap.size, 3, none⟩ = some (.int .i64 sign) := by rw [hW0]; (repeat rw [World.cell?_alloc_lt _ _ _ (by first | (simp; done) | (simp; omega))]); exact cell_new (by simp) rfl
  have x4 : W0.cell? ⟨w.heap.size, 4, none⟩ = some (.slice a1 n1 k1) := by rw [hW0]; (repeat rw [World.cell?_alloc_lt _ _ _ (by first | (simp; done) | (simp; omega))]); exact cell_new (by simp) rfl
  have x5 : W0.cell? ⟨w.heap.size, 5, none⟩ = some (.slice a2 n2 k2) := by rw [hW0]; (repeat rw [World.cell?_alloc_lt _ _ _ (by first | (simp; done) | (simp; omega))]); exact cell_new (by simp) rfl
  have r0 : W0.cell? ⟨w.heap.size + 1, 0, none⟩ = some (.int .i64 0) := by rw [hW0]; (repeat rw [World.cell?_alloc_lt _ _ _ (by first | (simp; done) | (simp; omega))]); exact cell_new (by simp) rfl
  have r1 : W0.cell? ⟨w.heap.size + 1, 1, none⟩ = some (.int .i64 0) := by rw [hW0]; (repeat rw [World.cell?_alloc_lt _ _ _ (by first | (simp; done) | (simp; omega))]); exact cell_new (by simp) rfl
  have r2 : W0.cell? ⟨w.heap.size + 1, 2, none⟩ = some (.int .i64 0) := by rw [hW0]; (repeat rw [World.cell?_alloc_lt _ _ _ (by first | (simp; done) | (simp; omega))]); exact cell_new (by simp) rfl
  have r3 : W0.cell? ⟨w.heap.size + 1, 3, none⟩ = some (.int .i64 0) := by rw [hW0]; (repeat rw [World.cell?_alloc_lt _ _ _ (by first | (simp; done) | (simp; omega))]); exact cell_new (by simp) rfl
  have r4 : W0.cell? ⟨w.heap.size + 1, 4, none⟩ = some (.slice none 0 0) := by rw [hW0]; (repeat rw [World.cell?_alloc_lt _ _ _ (by first | (simp; done) | (simp; omega))]); exact cell_new (by simp) rfl
  have r5 : W0.cell? ⟨w.heap.size + 1, 5, none⟩ = some (.slice none 0 0) := by rw [hW0]; (repeat rw [World.cell?_alloc_lt _ _ _ (by first | (simp; done) | (simp; omega))]); exact cell_new (by simp) rfl
  have fx : ∀ o, W0.frozen? ⟨w.heap.size, o, none⟩ = false := by intro o; rw [hW0]; exact (((Below.refl _ _).alloc (Nat.le_refl _) _).frozen (by first | (simp; done) | (simp; omega))).trans (frozen_new rfl)
  have fr : ∀ o, W0.frozen? ⟨w.heap.size + 1, o, none⟩ = false := by intro o; rw [hW0]; exact frozen_new (by simp)
  obtain ⟨W1, hW1⟩ : ∃ W1, W1 = W0.alloc (.cells #[] 9) := ⟨_, rfl⟩
  have hb01 : Below W0.heap.size W0 W1 := by rw [hW1]; (repeat' (first | exact Below.refl _ _ | assumption | refine Below.drew ?_ | refine below_drewN ?_ _ | refine Below.alloc ?_ (by omega) _ | refine Below.alloc ?_ (by simp; omega) _ | refine Below.alloc ?_ (by simp) _ | refine Below.setCell ?_ (by omega) _ | refine Below.setCell ?_ (by simp; omega) _ | refine Below.setCell ?_ (by simp) _))
  have hS1 : W1.heap.size = w.heap.size + 3 := by rw [hW1]; simp [hS0]
  have hown0 : W1.ownsRow W0.heap.size 9 1 (.slice (some ⟨W0.heap.size, 0, none⟩) 0 0) 0 [] := by rw [hW1]; exact own_empty W0 W0.heap.size 9 1 (Nat.le_refl _)
  have hBW1 := hB0.trans (hb01.mono hB0.size)
  have X4 : (W0.alloc (.cells #[] 9)).cell? ⟨w.heap.size, 4, none⟩ = some (.slice a1 n1 k1) := cell_keep ((Below.refl _ _).alloc (Nat.le_refl _) _) x4
  have HS0 := Lib.hid hS0
  have HS1 := Lib.hid hS1
  have hne0 : ¬ w.heap.size = W0.heap.size := by omega
  have hne1 : ¬ w.heap.size + 1 = W0.heap.size := by omega
  have HZ1 := Lib.hid (show W0.heap.size ≤ W1.heap.size by omega)
  clear hS0 hS1
  go_enter Try.func118, Try.ntmps118
  go_upto_region 1 with (fail)
  rw [← hW0]
  clear hW0
  go_wp2_with (at_builtin; rw [← hW1]; refine wpList_appRow _ rfl _ _ 36 rfl W0.heap.size 9 Try.underlying36 (.string ByteArray.empty) 16 info_string rfl (by omega) _ 0 [] rfl hown0 _ n1 xb rfl (HB0.out _ hBW1) EB.out (by omega) hn1 HZ1.out ?_)
  intro v3 w1 hown1 hg1
  have hg1' : W1.grownBy w1 (some W0.heap.size) := by rw [hW1]; exact hg1
  have hne : ∀ k, k < W0.heap.size → some k ≠ some W0.heap.size := fun k hk => by simp; omega
  have x0 : w1.cell? ⟨w.heap.size, 0, none⟩ = some (.int .i64 p) := grown_cell hg1' (cell_keep hb01 x0) (hne _ (by have := HS0.out; show w.heap.size < _; omega))
  have x1 : w1.cell? ⟨w.heap.size, 1, none⟩ = some (.int .i64 len) := grown_cell hg1' (cell_keep hb01 x1) (hne _ (by have := HS0.out; show w.heap.size < _; omega))
  have x2 : w1.cell? ⟨w.heap.size, 2, none⟩ = some (.int .i64 dig) := grown_cell hg1' (cell_keep hb01 x2) (hne _ (by have := HS0.out; show w.heap.size < _; omega))
  have x3 : w1.cell? ⟨w.heap.size, 3, none⟩ = some (.int .i64 sign) := grown_cell hg1' (cell_keep hb01 x3) (hne _ (by have := HS0.out; show w.heap.size < _; omega))
  have x4 : w1.cell? ⟨w.heap.size, 4, none⟩ = some (.slice a1 n1 k1) := grown_cell hg1' (cell_keep hb01 x4) (hne _ (by have := HS0.out; show w.heap.size < _; omega))
  have x5 : w1.cell? ⟨w.heap.size, 5, none⟩ = some (.slice a2 n2 k2) := grown_cell hg1' (cell_keep hb01 x5) (hne _ (by have := HS0.out; show w.heap.size < _; omega))
  have r0 : w1.cell? ⟨w.heap.size + 1, 0, none⟩ = some (.int .i64 0) := grown_cell hg1' (cell_keep hb01 r0) (hne _ (by have := HS0.out; show w.heap.size + 1 < _; omega))
  have r1 : w1.cell? ⟨w.heap.size + 1, 1, none⟩ = some (.int .i64 0) := grown_cell hg1' (cell_keep hb01 r1) (hne _ (by have := HS0.out; show w.heap.size + 1 < _; omega))
  have r2 : w1.cell? ⟨w.heap.size + 1, 2, none⟩ = some (.int .i64 0) := grown_cell hg1' (cell_keep hb01 r2) (hne _ (by have := HS0.out; show w.heap.size + 1 < _; omega))
  have r3 : w1.cell? ⟨w.heap.size + 1, 3, none⟩ = some (.int .i64 0) := grown_cell hg1' (cell_keep hb01 r3) (hne _ (by have := HS0.out; show w.heap.size + 1 < _; omega))
  have r4 : w1.cell? ⟨w.heap.size + 1, 4, none⟩ = some (.slice none 0 0) := grown_cell hg1' (cell_keep hb01 r4) (hne _ (by have := HS0.out; show w.heap.size + 1 < _; omega))
  have r5 : w1.cell? ⟨w.heap.size + 1, 5, none⟩ = some (.slice none 0 0) := grown_cell hg1' (cell_keep hb01 r5) (hne _ (by have := HS0.out; show w.heap.size + 1 < _; omega))
  have fx : ∀ o, w1.frozen? ⟨w.heap.size, o, none⟩ = false := fun o => (grown_frozen hg1' (by have := HS0.out; have := HS1.out; show w.heap.size < _; omega) (hne _ (by have := HS0.out; show w.heap.size < _; omega))).trans ((below_frozen hb01 (by have := HS0.out; show w.heap.size < _; omega)).trans (fx o))
  have fr : ∀ o, w1.frozen? ⟨w.heap.size + 1, o, none⟩ = false := fun o => (grown_frozen hg1' (by have := HS0.out; have := HS1.out; show w.heap.size + 1 < _; omega) (hne _ (by have := HS0.out; show w.heap.size + 1 < _; omega))).trans ((below_frozen hb01 (by have := HS0.out; show w.heap.size + 1 < _; omega)).trans (fr o))
  have hBw1 : Below w.heap.size w w1 := hBW1.grown hg1' (by have := HS1.out; omega) (fun k hk => by have := HS0.out; cases hk; omega)
  have hsw1 : w.heap.size + 3 ≤ w1.heap.size := by have := hg1'.size; have := HS1.out; omega
  have hown1 : w1.ownsRow W0.heap.size 9 1 v3 n1 xb := by simpa using hown1
  obtain ⟨a3, k3', rfl⟩ := own_slice hown1
  obtain ⟨W2, hW2⟩ : ∃ W2, W2 = w1.setCell ⟨w.heap.size, 4, none⟩ (.slice a3 n1 k3') := ⟨_, rfl⟩
  have hB2 : Below w.heap.size w W2 := by rw [hW2]; exact hBw1.setCell (Nat.le_refl _) _
  have hS2 : w.heap.size + 3 ≤ W2.heap.size := by rw [hW2]; simpa using hsw1
  have hown2 : W2.ownsRow W0.heap.size 9 1 (.slice a3 n1 k3') n1 xb := by rw [hW2]; exact own_kept_r hown1 (grown_set (World.grownBy.refl _ _)) (by have := HS0.out; omega)
  have x0 : W2.cell? ⟨w.heap.size, 0, none⟩ = some (.int .i64 p) := by rw [hW2]; simp [go_sem, x0, x1, x2, x3, x4, x5]
  have x1 : W2.cell? ⟨w.heap.size, 1, none⟩ = some (.int .i64 len) := by rw [hW2]; simp [go_sem, x0, x1, x2, x3, x4, x5]
  have x2 : W2.cell? ⟨w.heap.size, 2, none⟩ = some (.int .i64 dig) := by rw [hW2]; simp [go_sem, x0, x1, x2, x3, x4, x5]
  have x3 : W2.cell? ⟨w.heap.size, 3, none⟩ = some (.int .i64 sign) := by rw [hW2]; simp [go_sem, x0, x1, x2, x3, x4, x5]
  have x4 : W2.cell? ⟨w.heap.size, 4, none⟩ = some (.slice a3 n1 k3') := by rw [hW2]; simp [go_sem, x0, x1, x2, x3, x4, x5]
  have x5 : W2.cell? ⟨w.heap.size, 5, none⟩ = some (.slice a2 n2 k2) := by rw [hW2]; simp [go_sem, x0, x1, x2, x3, x4, x5]
  have r0 : W2.cell? ⟨w.heap.size + 1, 0, none⟩ = some (.int .i64 0) := by rw [hW2]; simp [go_sem, r0, r1, r2, r3, r4, r5]
  have r1 : W2.cell? ⟨w.heap.size + 1, 1, none⟩ = some (.int .i64 0) := by rw [hW2]; simp [go_sem, r0, r1, r2, r3, r4, r5]
  have r2 : W2.cell? ⟨w.heap.size + 1, 2, none⟩ = some (.int .i64 0) := by rw [hW2]; simp [go_sem, r0, r1, r2, r3, r4, r5]
  have r3 : W2.cell? ⟨w.heap.size + 1, 3, none⟩ = some (.int .i64 0) := by rw [hW2]; simp [go_sem, r0, r1, r2, r3, r4, r5]
  have r4 : W2.cell? ⟨w.heap.size + 1, 4, none⟩ = some (.slice none 0 0) := by rw [hW2]; simp [go_sem, r0, r1, r2, r3, r4, r5]
  have r5 : W2.cell? ⟨w.heap.size + 1, 5, none⟩ = some (.slice none 0 0) := by rw [hW2]; simp [go_sem, r0, r1, r2, r3, r4, r5]
  have fx : ∀ o, W2.frozen? ⟨w.heap.size, o, none⟩ = false := by intro o; rw [hW2]; simp [fx o]
  have fr : ∀ o, W2.frozen? ⟨w.heap.size + 1, o, none⟩ = false := by intro o; rw [hW2]; simp [fr o]
  obtain ⟨W3, hW3⟩ : ∃ W3, W3 = W2.alloc (.cells #[] 4) := ⟨_, rfl⟩
  have hb23 : Below W2.heap.size W2 W3 := by rw [hW3]; (repeat' (first | exact Below.refl _ _ | assumption | refine Below.drew ?_ | refine below_drewN ?_ _ | refine Below.alloc ?_ (by omega) _ | refine Below.alloc ?_ (by simp; omega) _ | refine Below.alloc ?_ (by simp) _ | refine Below.setCell ?_ (by omega) _ | refine Below.setCell ?_ (by simp; omega) _ | refine Below.setCell ?_ (by simp) _))
  have hS3 : W3.heap.size = W2.heap.size + 1 := by rw [hW3]; simp
  have hown0 : W3.ownsRow W2.heap.size 4 1 (.slice (some ⟨W2.heap.size, 0, none⟩) 0 0) 0 [] := by rw [hW3]; exact own_empty W2 W2.heap.size 4 1 (Nat.le_refl _)
  have hB3 := hB2.trans (hb23.mono hB2.size)
  have X5 : (W2.alloc (.cells #[] 4)).cell? ⟨w.heap.size, 5, none⟩ = some (.slice a2 n2 k2) := cell_keep ((Below.refl _ _).alloc (Nat.le_refl _) _) x5
  have HS2 := Lib.hid hS2
  have HS3 := Lib.hid hS3
  have HZ3 := Lib.hid (show W2.heap.size ≤ W3.heap.size by omega)
  clear hS2 hS3 hsw1 hg1 hg1' hown1 X4
  go_upto_region 2 with (fail)
  rw [← hW2]
  clear hW2
  go_wp2_with (at_builtin; rw [← hW3]; refine wpList_appRow _ rfl _ _ 37 rfl W2.heap.size 4 Try.underlying37 (.bool false) 1 info_bool rfl (by omega) _ 0 [] rfl hown0 _ n2 xh rfl (HH0.out _ hB3) EH.out (by omega) hn2 HZ3.out ?_)
  intro v4 w4 hown4 hg4
  have hg4' : W3.grownBy w4 (some W2.heap.size) := by rw [hW3]; exact hg4
  have hne : ∀ k, k < W2.heap.size → some k ≠ some W2.heap.size := fun k hk => by simp; omega
  have x0 : w4.cell? ⟨w.heap.size, 0, none⟩ = some (.int .i64 p) := grown_cell hg4' (cell_keep hb23 x0) (hne _ (by have := HS2.out; show w.heap.size < _; omega))
  have x1 : w4.cell? ⟨w.heap.size, 1, none⟩ = some (.int .i64 len) := grown_cell hg4' (cell_keep hb23 x1) (hne _ (by have := HS2.out; show w.heap.size < _; omega))
  have x2 : w4.cell? ⟨w.heap.size, 2, none⟩ = some (.int .i64 dig) := grown_cell hg4' (cell_keep hb23 x2) (hne _ (by have := HS2.out; show w.heap.size < _; omega))
  have x3 : w4.cell? ⟨w.heap.size, 3, none⟩ = some (.int .i64 sign) := grown_cell hg4' (cell_keep hb23 x3) (hne _ (by have := HS2.out; show w.heap.size < _; omega))
  have x4 : w4.cell? ⟨w.heap.size, 4, none⟩ = some (.slice a3 n1 k3') := grown_cell hg4' (cell_keep hb23 x4) (hne _ (by have := HS2.out; show w.heap.size < _; omega))
  have x5 : w4.cell? ⟨w.heap.size, 5, none⟩ = some (.slice a2 n2 k2) := grown_cell hg4' (cell_keep hb23 x5) (hne _ (by have := HS2.out; show w.heap.size < _; omega))
  have r0 : w4.cell? ⟨w.heap.size + 1, 0, none⟩ = some (.int .i64 0) := grown_cell hg4' (cell_keep hb23 r0) (hne _ (by have := HS2.out; show w.heap.size + 1 < _; omega))
  have r1 : w4.cell? ⟨w.heap.size + 1, 1, none⟩ = some (.int .i64 0) := grown_cell hg4' (cell_keep hb23 r1) (hne _ (by have := HS2.out; show w.heap.size + 1 < _; omega))
  have r2 : w4.cell? ⟨w.heap.size + 1, 2, none⟩ = some (.int .i64 0) := grown_cell hg4' (cell_keep hb23 r2) (hne _ (by have := HS2.out; show w.heap.size + 1 < _; omega))
  have r3 : w4.cell? ⟨w.heap.size + 1, 3, none⟩ = some (.int .i64 0) := grown_cell hg4' (cell_keep hb23 r3) (hne _ (by have := HS2.out; show w.heap.size + 1 < _; omega))
  have r4 : w4.cell? ⟨w.heap.size + 1, 4, none⟩ = some (.slice none 0 0) := grown_cell hg4' (cell_keep hb23 r4) (hne _ (by have := HS2.out; show w.heap.size + 1 < _; omega))
  have r5 : w4.cell? ⟨w.heap.size + 1, 5, none⟩ = some (.slice none 0 0) := grown_cell hg4' (cell_keep hb23 r5) (hne _ (by have := HS2.out; show w.heap.size + 1 < _; omega))
  have fx : ∀ o, w4.frozen? ⟨w.heap.size, o, none⟩ = false := fun o => (grown_frozen hg4' (by have := HS2.out; have := HS3.out; show w.heap.size < _; omega) (hne _ (by have := HS2.out; show w.heap.size < _; omega))).trans ((below_frozen hb23 (by have := HS2.out; show w.heap.size < _; omega)).trans (fx o))
  have fr : ∀ o, w4.frozen? ⟨w.heap.size + 1, o, none⟩ = false := fun o => (grown_frozen hg4' (by have := HS2.out; have := HS3.out; show w.heap.size + 1 < _; omega) (hne _ (by have := HS2.out; show w.heap.size + 1 < _; omega))).trans ((below_frozen hb23 (by have := HS2.out; show w.heap.size + 1 < _; omega)).trans (fr o))
  have hBw4 : Below w.heap.size w w4 := hB3.grown hg4' (by have := HS2.out; have := HS3.out; omega) (fun k hk => by have := HS2.out; cases hk; omega)
  have hownA : w4.ownsRow W0.heap.size 9 1 (.slice a3 n1 k3') n1 xb := (own_below hown2 hb23).kept hg4' (by
    rcases hw : (Value.slice a3 n1 k3').ownBlock with _ | k
    · exact .inl rfl
    · have := (own_block hown2 k hw).2
      exact .inr (by simp; omega))
  have hap : (Value.slice a3 n1 k3').ownBlock = none ∨ (Value.slice a3 n1 k3').ownBlock ≠ v4.ownBlock := by
    rcases hw : (Value.slice a3 n1 k3').ownBlock with _ | k
    · exact .inl rfl
    · have h1 := (own_block hown2 k hw).2
      refine .inr (fun e => ?_)
      have h2 := (own_block hown4 k e.symm).1
      omega
  have hown4 : w4.ownsRow W2.heap.size 4 1 v4 n2 xh := by simpa using hown4
  obtain ⟨a4, k4', rfl⟩ := own_slice hown4
  have HA := Lib.hid (And.intro hownA (And.intro hown4 (And.intro hap hBw4)))
  clear hownA hown4 hap hBw4 hg4 hg4' X5
  go_wp2
  refine bodyPost_ret (v := .agg #[.int .i64 p, .int .i64 len, .int .i64 dig, .int .i64 sign, .slice a3 n1 k3', .slice a4 n2 k4']) (by simp [results, Try.results118, go_sem, r0, r1, r2, r3, r4, r5]) rfl ?_
  exact HP.out _ _ _ _ rfl (own_base (own_set (own_set (own_set (own_set (own_set (own_set (own_set HA.out.1 (by have := HS0.out; show w.heap.size < _; omega)) (by have := HS0.out; show w.heap.size + 1 < _; omega)) (by have := HS0.out; show w.heap.size + 1 < _; omega)) (by have := HS0.out; show w.heap.size + 1 < _; omega)) (by have := HS0.out; show w.heap.size + 1 < _; omega)) (by have := HS0.out; show w.heap.size + 1 < _; omega)) (by have := HS0.out; show w.heap.size + 1 < _; omega)) (by have := HS0.out; omega)) (own_base (own_set (own_set (own_set (own_set (own_set (own_set (own_set HA.out.2.1 (by have := HS2.out; show w.heap.size < _; omega)) (by have := HS2.out; show w.heap.size + 1 < _; omega)) (by have := HS2.out; show w.heap.size + 1 < _; omega)) (by have := HS2.out; show w.heap.size + 1 < _; omega)) (by have := HS2.out; show w.heap.size + 1 < _; omega)) (by have := HS2.out; show w.heap.size + 1 < _; omega)) (by have := HS2.out; show w.heap.size + 1 < _; omega)) (by have := HS2.out; omega)) HA.out.2.2.1 (Below.setCell (Below.setCell (Below.setCell (Below.setCell (Below.setCell (Below.setCell (Below.setCell HA.out.2.2.2 (by show w.heap.size ≤ w.heap.size; omega) _) (by show w.heap.size ≤ w.heap.size + 1; omega) _) (by show w.heap.size ≤ w.heap.size + 1; omega) _) (by show w.heap.size ≤ w.heap.size + 1; omega) _) (by show w.heap.size ≤ w.heap.size + 1; omega) _) (by show w.heap.size ≤ w.heap.size + 1; omega) _) (by show w.heap.size ≤ w.heap.size + 1; omega) _)
end Go.Proofs.Ytbjndbaljenlgaa
