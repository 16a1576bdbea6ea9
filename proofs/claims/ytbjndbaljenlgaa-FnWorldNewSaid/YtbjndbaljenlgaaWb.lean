/- The contracts of WorldNew of both sides. -/
import Derived.Test.YtbjndbaljenlgaaWa
import Derived.Test.YtbjndbaljenlgaaDs
import Derived.Deep.DeepCutAuto
namespace Go.Proofs.Ytbjndbaljenlgaa
open Go.RowKit
set_option linter.unusedSimpArgs false
/-- block fb holds a run, block h a zero run -/
structure WW (W : World) (h fb : Nat) (s b : Int) (vF vL vA vN : Value) : Prop where
  x0 : W.cell? ⟨fb, 0, none⟩ = some (.int .i64 s)
  x1 : W.cell? ⟨fb, 1, none⟩ = some (.int .i64 b)
  x2 : W.cell? ⟨fb, 2, none⟩ = some (vF)
  x3 : W.cell? ⟨fb, 3, none⟩ = some (vL)
  x4 : W.cell? ⟨fb, 4, none⟩ = some (vA)
  x5 : W.cell? ⟨fb, 5, none⟩ = some (vN)
  fx : ∀ o, W.frozen? ⟨fb, o, none⟩ = false
  r0 : W.cell? ⟨h, 0, none⟩ = some (.int .i64 0)
  r1 : W.cell? ⟨h, 1, none⟩ = some (.int .i64 0)
  r2 : W.cell? ⟨h, 2, none⟩ = some (.slice none 0 0)
  r3 : W.cell? ⟨h, 3, none⟩ = some (.slice none 0 0)
  r4 : W.cell? ⟨h, 4, none⟩ = some (.slice none 0 0)
  r5 : W.cell? ⟨h, 5, none⟩ = some (.slice none 0 0)
  fr : ∀ o, W.frozen? ⟨h, o, none⟩ = false
section
variable {W W' : World} {h fb : Nat} {s b : Int} {vF vL vA vN : Value} {row : Option Nat}
theorem WW.moved (f : WW W h fb s b vF vL vA vN) (hg : W.grownBy W' row) (h1 : some h ≠ row) (h2 : some fb ≠ row) : WW W' h fb s b vF vL vA vN :=
  ⟨grown_cell hg f.x0 h2, grown_cell hg f.x1 h2, grown_cell hg f.x2 h2, grown_cell hg f.x3 h2, grown_cell hg f.x4 h2, grown_cell hg f.x5 h2, fun o => (grown_frozen (a := ⟨fb, o, none⟩) hg (by have := World.block_lt_of_cell? _ _ f.x0; exact this) h2).trans (f.fx o), grown_cell hg f.r0 h1, grown_cell hg f.r1 h1, grown_cell hg f.r2 h1, grown_cell hg f.r3 h1, grown_cell hg f.r4 h1, grown_cell hg f.r5 h1, fun o => (grown_frozen (a := ⟨h, o, none⟩) hg (by have := World.block_lt_of_cell? _ _ f.r0; exact this) h1).trans (f.fr o)⟩
theorem WW.set2 (f : WW W h fb s b vF vL vA vN) (hn : h ≠ fb) (v : Value) : WW (W.setCell ⟨fb, 2, none⟩ v) h fb s b v vL vA vN :=
  ⟨setc f.x0 (.inr (by omega)), setc f.x1 (.inr (by omega)), seto f.x2, setc f.x3 (.inr (by omega)), setc f.x4 (.inr (by omega)), setc f.x5 (.inr (by omega)), fun o => by rw [World.frozen?_setCell]; exact f.fx o, setc f.r0 (.inl hn), setc f.r1 (.inl hn), setc f.r2 (.inl hn), setc f.r3 (.inl hn), setc f.r4 (.inl hn), setc f.r5 (.inl hn), fun o => by rw [World.frozen?_setCell]; exact f.fr o⟩
theorem WW.set4 (f : WW W h fb s b vF vL vA vN) (hn : h ≠ fb) (v : Value) : WW (W.setCell ⟨fb, 4, none⟩ v) h fb s b vF vL v vN :=
  ⟨setc f.x0 (.inr (by omega)), setc f.x1 (.inr (by omega)), setc f.x2 (.inr (by omega)), setc f.x3 (.inr (by omega)), seto f.x4, setc f.x5 (.inr (by omega)), fun o => by rw [World.frozen?_setCell]; exact f.fx o, setc f.r0 (.inl hn), setc f.r1 (.inl hn), setc f.r2 (.inl hn), setc f.r3 (.inl hn), setc f.r4 (.inl hn), setc f.r5 (.inl hn), fun o => by rw [World.frozen?_setCell]; exact f.fr o⟩
end
/-- all that stands while a run grows -/
structure Wt (w W : World) (h fb base : Nat) (s b p : Int) (vF vL vA vN : Value) (l : List (Value × Value)) (la : List Value) : Prop where
  ww : WW W h fb s b vF vL vA vN
  oF : W.ownsRow base 39 6 vF l.length (ffl p l)
  oA : W.ownsRow base 80 1 vA la.length la
  ap : vF.ownBlock = none ∨ vF.ownBlock ≠ vA.ownBlock
  nF : vF.ownBlock ≠ some fb
  nA : vA.ownBlock ≠ some fb
  eF : ∀ x ∈ l, Em x.1 ∧ Em x.2
  eA : ∀ x ∈ la, Em x
  eL : Em vL
  eN : Em vN
  be : Below w.heap.size w W
  hh : w.heap.size ≤ h
  hb : h < base
  hf : w.heap.size ≤ fb
  hn : h ≠ fb
  lt : fb < W.heap.size
  bl : base ≤ W.heap.size
section
variable {w W W' : World} {h fb base : Nat} {s b p : Int} {vF vL vA vN v' : Value} {l : List (Value × Value)} {la : List Value}
theorem Wt.below (d : Wt w W h fb base s b p vF vL vA vN l la) (hb : Below W.heap.size W W') : Wt w W' h fb base s b p vF vL vA vN l la :=
  ⟨d.ww.moved (below_grown hb none) (by simp) (by simp), own_below d.oF hb, own_below d.oA hb, d.ap, d.nF, d.nA, d.eF, d.eA, d.eL, d.eN, d.be.trans (hb.mono d.be.size), d.hh, d.hb, d.hf, d.hn, Nat.lt_of_lt_of_le d.lt hb.size, Nat.le_trans d.bl hb.size⟩
theorem Wt.addF {va vb : Value} (d : Wt w W h fb base s b p vF vL vA vN l la) (ho : W'.ownsRow base 39 6 v' (l.length + 1) (ffl p (l ++ [(va, vb)]))) (hg : W.grownBy W' vF.ownBlock) (hl : v'.ownBlock = vF.ownBlock ∨ v'.ownBlock = some (W.heap.size + 1)) (ea : Em va) (eb : Em vb) :
    Wt w (W'.setCell ⟨fb, 2, none⟩ v') h fb base s b p v' vL vA vN (l ++ [(va, vb)]) la := by
  have h1 := d.hb
  have h2 := d.hh
  have h3 := d.lt
  have hbl : ∀ k, vF.ownBlock = some k → base ≤ k := fun k hk => (own_block d.oF k hk).1
  have ap' : vA.ownBlock = none ∨ vA.ownBlock ≠ vF.ownBlock := by
    rcases d.ap with h | h
    · rcases hw : vA.ownBlock with _ | j
      · exact .inl rfl
      · exact .inr (by rw [h]; simp)
    · exact .inr (Ne.symm h)
  have nF' : v'.ownBlock ≠ some fb := by
    rcases hl with h | h
    · rw [h]; exact d.nF
    · rw [h]; simp; omega
  have hs : W'.grownBy (W'.setCell ⟨fb, 2, none⟩ v') (some fb) := grown_set (World.grownBy.refl _ _)
  refine ⟨(d.ww.moved hg (fun e => by have := hbl _ e.symm; omega) (fun e => d.nF e.symm)).set2 d.hn v', ?_, (d.oA.kept hg ap').kept hs (.inr d.nA), ?_, nF', d.nA, ?_, d.eA, d.eL, d.eN, ?_, h2, h1, d.hf, d.hn, by simpa using Nat.lt_of_lt_of_le d.lt hg.size, by simpa using Nat.le_trans d.bl hg.size⟩
  · rw [List.length_append]; exact ho.kept hs (.inr nF')
  · rcases hl with h | h
    · rw [h]; exact d.ap
    · rcases hw : vA.ownBlock with _ | j
      · exact .inr (by rw [h]; simp)
      · have := own_block d.oA j hw
        exact .inr (by rw [h]; simp; omega)
  · intro x hx
    rcases List.mem_append.1 hx with h | h
    · exact d.eF x h
    · rw [List.mem_singleton.1 h]; exact ⟨ea, eb⟩
  · exact (d.be.grown hg d.be.size (fun k hk => by have := hbl k hk; omega)).setCell d.hf _
theorem Wt.addA {u : Value} (d : Wt w W h fb base s b p vF vL vA vN l la) (ho : W'.ownsRow base 80 1 v' (la.length + 1) (la ++ [u])) (hg : W.grownBy W' vA.ownBlock) (hl : v'.ownBlock = vA.ownBlock ∨ v'.ownBlock = some (W.heap.size + 1)) (eu : Em u) :
    Wt w (W'.setCell ⟨fb, 4, none⟩ v') h fb base s b p vF vL v' vN l (la ++ [u]) := by
  have h1 := d.hb
  have h2 := d.hh
  have h3 := d.lt
  have hbl : ∀ k, vA.ownBlock = some k → base ≤ k := fun k hk => (own_block d.oA k hk).1
  have nA' : v'.ownBlock ≠ some fb := by
    rcases hl with h | h
    · rw [h]; exact d.nA
    · rw [h]; simp; omega
  have hs : W'.grownBy (W'.setCell ⟨fb, 4, none⟩ v') (some fb) := grown_set (World.grownBy.refl _ _)
  refine ⟨(d.ww.moved hg (fun e => by have := hbl _ e.symm; omega) (fun e => d.nA e.symm)).set4 d.hn v', (d.oF.kept hg d.ap).kept hs (.inr d.nF), ?_, ?_, d.nF, nA', d.eF, ?_, d.eL, d.eN, ?_, h2, h1, d.hf, d.hn, by simpa using Nat.lt_of_lt_of_le d.lt hg.size, by simpa using Nat.le_trans d.bl hg.size⟩
  · rw [List.length_append]; exact ho.kept hs (.inr nA')
  · rcases hl with h | h
    · rw [h]; exact d.ap
    · rcases hw : vF.ownBlock with _ | j
      · exact .inl rfl
      · have := own_block d.oF j hw
        exact .inr (by rw [h]; simp; omega)
  · intro x hx
    rcases List.mem_append.1 hx with h | h
    · exact d.eA x h
    · rw [List.mem_singleton.1 h]; exact eu
  · exact (d.be.grown hg d.be.size (fun k hk => by have := hbl k hk; omega)).setCell d.hf _
theorem made_em (n : Nat) : ∀ x ∈ (madeCells (Value.slice none 0 0).cells n).toList, Em x := by
  intro x hx
  simp only [madeCells, Array.toList_map, List.mem_map] at hx
  obtain ⟨i, -, rfl⟩ := hx
  rw [show (Value.slice none 0 0).cells = #[Value.slice none 0 0] from rfl]
  simp only [List.size_toArray, List.length_singleton, Nat.mod_one]
  exact Em.nil
/-- a new run; a zero run if the setting is invalid -/
def WnP (s p b : Int) (w : World) (e : Ending) (w' : World) : Prop :=
  ∃ (s' b' k : Int) (n : Nat) (vF vL vA vN : Value), e = .returned (.tuple #[.agg #[.int .i64 s', .int .i64 b', vF, vL, vA, vN], .bool (sv s p b)]) ∧ FsR w' vF n k ∧ AsR w' vA n ∧ Em vL ∧ Em vN ∧
    (sv s p b = true → s' = s ∧ b' = b ∧ k = hpub s ∧ (n : Int) = p) ∧ (sv s p b = false → s' = 0 ∧ b' = 0 ∧ k = 0 ∧ n = 0) ∧ Below w.heap.size w w'
theorem Wt.out {v0 v1 v2 v3 v4 v5 : Value} (d : Wt w W h fb base s b p vF vL vA vN l la) :
    FsR ((((((W.setCell ⟨h, 0, none⟩ v0).setCell ⟨h, 1, none⟩ v1).setCell ⟨h, 2, none⟩ v2).setCell ⟨h, 3, none⟩ v3).setCell ⟨h, 4, none⟩ v4).setCell ⟨h, 5, none⟩ v5) vF l.length p ∧
    AsR ((((((W.setCell ⟨h, 0, none⟩ v0).setCell ⟨h, 1, none⟩ v1).setCell ⟨h, 2, none⟩ v2).setCell ⟨h, 3, none⟩ v3).setCell ⟨h, 4, none⟩ v4).setCell ⟨h, 5, none⟩ v5) vA la.length ∧
    Below w.heap.size w ((((((W.setCell ⟨h, 0, none⟩ v0).setCell ⟨h, 1, none⟩ v1).setCell ⟨h, 2, none⟩ v2).setCell ⟨h, 3, none⟩ v3).setCell ⟨h, 4, none⟩ v4).setCell ⟨h, 5, none⟩ v5) := by
  have h1 := d.hb
  have o1 := own_set (own_set (own_set (own_set (own_set (own_set d.oF h1 (u := v0) (j := 0)) h1 (u := v1) (j := 1)) h1 (u := v2) (j := 2)) h1 (u := v3) (j := 3)) h1 (u := v4) (j := 4)) h1 (u := v5) (j := 5)
  have o2 := own_set (own_set (own_set (own_set (own_set (own_set d.oA h1 (u := v0) (j := 0)) h1 (u := v1) (j := 1)) h1 (u := v2) (j := 2)) h1 (u := v3) (j := 3)) h1 (u := v4) (j := 4)) h1 (u := v5) (j := 5)
  exact ⟨FsR.of_own o1 d.eF, AsR.of_own o2 d.eA, (((((d.be.setCell d.hh _).setCell d.hh _).setCell d.hh _).setCell d.hh _).setCell d.hh _).setCell d.hh _⟩
end
set_option maxHeartbeats 1600000 in
theorem impWorldNew_c (s p b : Int) (w : World) (hp0 : -1 ≤ p) (hp1 : p ≤ 100) : Calls Try.prog 14 #[.int .i64 s, .int .i64 p, .int .i64 b] w (WnP s p b w) := by
  have SC := Lib.hid (fun W => setting_c s p b W hp0 hp1)
  have HP := Lib.hid (show ∀ e w' (s' b' k : Int) (n : Nat) (vF vL vA vN : Value), e = .returned (.tuple #[.agg #[.int .i64 s', .int .i64 b', vF, vL, vA, vN], .bool (sv s p b)]) → FsR w' vF n k → AsR w' vA n → Em vL → Em vN → (sv s p b = true → s' = s ∧ b' = b ∧ k = hpub s ∧ (n : Int) = p) → (sv s p b = false → s' = 0 ∧ b' = 0 ∧ k = 0 ∧ n = 0) → Below w.heap.size w w' → WnP s p b w e w' from
    fun _ _ s' b' k n vF vL vA vN h1 h2 h3 h4 h5 h6 h7 h8 => ⟨s', b', k, n, vF, vL, vA, vN, h1, h2, h3, h4, h5, h6, h7, h8⟩)
  obtain ⟨W0, hW0⟩ : ∃ W0, W0 = w.alloc (.cells #[.int .i64 0, .int .i64 0, .slice none 0 0, .slice none 0 0, .slice none 0 0, .slice none 0 0] 30) := ⟨_, rfl⟩
  have hB0 : Below w.heap.size w W0 := by rw [hW0]; (repeat' (first | exact Below.refl _ _ | assumption | refine Below.drew ?_ | refine below_drewN ?_ _ | refine Below.alloc ?_ (by omega) _ | refine Below.alloc ?_ (by simp; omega) _ | refine Below.alloc ?_ (by simp) _ | refine Below.setCell ?_ (by omega) _ | refine Below.setCell ?_ (by simp; omega) _ | refine Below.setCell ?_ (by simp) _))
  have hS0 : W0.heap.size = w.heap.size + 1 := by rw [hW0]; simp
  have r0 : W0.cell? ⟨w.heap.size, 0, none⟩ = some (.int .i64 0) := by rw [hW0]; exact cell_new rfl rfl
  have r1 : W0.cell? ⟨w.heap.size, 1, none⟩ = some (.int .i64 0) := by rw [hW0]; exact cell_new rfl rfl
  have r2 : W0.cell? ⟨w.heap.size, 2, none⟩ = some (.slice none 0 0) := by rw [hW0]; exact cell_new rfl rfl
  have r3 : W0.cell? ⟨w.heap.size, 3, none⟩ = some (.slice none 0 0) := by rw [hW0]; exact cell_new rfl rfl
  have r4 : W0.cell? ⟨w.heap.size, 4, none⟩ = some (.slice none 0 0) := by rw [hW0]; exact cell_new rfl rfl
  have r5 : W0.cell? ⟨w.heap.size, 5, none⟩ = some (.slice none 0 0) := by rw [hW0]; exact cell_new rfl rfl
  have fr : ∀ o, W0.frozen? ⟨w.heap.size, o, none⟩ = false := by intro o; rw [hW0]; exact frozen_new rfl
  have HS0 := Lib.hid hS0
  have HB0 := Lib.hid hB0
  clear hB0 hS0
  obtain ⟨q, hq⟩ : ∃ q, sv s p b = q := ⟨_, rfl⟩
  have HV := Lib.hid hq
  have HIN := Lib.hid (show q = true → inB 1 996 s = true ∧ 1 ≤ p ∧ p ≤ 6 from fun h => by rw [h] at hq; unfold sv at hq; simp only [Bool.and_eq_true] at hq; exact ⟨hq.1, (inB_iff.1 hq.2.1).1, (inB_iff.1 hq.2.1).2⟩)
  rw [hq] at SC
  clear hq
  cases q
  · go_enter Try.func14, Try.ntmps14
    go_wp2_with fail
    rw [← hW0]
    clear hW0
    refine (SC.out _).mono ?_
    rintro e w' ⟨rfl, rfl⟩
    go_wp2
    refine bodyPost_ret (v := .tuple #[.agg #[.int .i64 0, .int .i64 0, .slice none 0 0, .slice none 0 0, .slice none 0 0, .slice none 0 0], .bool false]) (by simp [results, Try.results14, go_sem, r0, r1, r2, r3, r4, r5]) rfl ?_
    exact HP.out _ _ 0 0 0 0 _ _ _ _ (by rw [HV.out]) (FsR.nil _ _ Em.nil) (AsR.nil _ Em.nil) Em.nil Em.nil (fun h => absurd (h.symm.trans HV.out) (by simp)) (fun _ => ⟨rfl, rfl, rfl, rfl⟩) ((((((HB0.out.setCell (Nat.le_refl _) _).setCell (Nat.le_refl _) _).setCell (Nat.le_refl _) _).setCell (Nat.le_refl _) _).setCell (Nat.le_refl _) _).setCell (Nat.le_refl _) _)
  · obtain ⟨hk1, hk2, hk3⟩ := HIN.out rfl
    obtain ⟨n, hnp⟩ : ∃ n : Nat, (n : Int) = p := ⟨p.toNat, by omega⟩
    have hn6 : n ≤ 6 := by omega
    have HNP := Lib.hid hnp
    have HK := Lib.hid (hpub_in hk1)
    have HNPk := Lib.hid (show np (hpub s) = hpub s by unfold np; rw [if_pos (hpub_in hk1)])
    subst hnp
    clear hk1 hk2 hk3
    obtain ⟨i0, hi, hz0, hz1, hz2⟩ := info_parts info_asks
    have HI := Lib.hid (And.intro hi (And.intro hz0 (And.intro hz1 hz2)))
    clear hi hz0 hz1 hz2
    go_enter Try.func14, Try.ntmps14
    go_wp2_with fail
    rw [← hW0]
    clear hW0
    refine (SC.out _).mono ?_
    rintro e w' ⟨rfl, rfl⟩
    go_wp2_with (at_make; refine wpList_make_full _ rfl _ _ 27 rfl W0.heap.size 80 i0 (.slice none 0 0) 1 Try.underlying27 HI.out.1 HI.out.2.1 HI.out.2.2.1 .i64 .i64 _ _ n rfl rfl rfl rfl ?c1 ?c2 ?c3 ?_)
    case c1 => rw [HI.out.2.2.2]; omega
    case c2 => unfold maxLen; omega
    case c3 => exact Nat.le_refl _
    intro w1 hoA hgA
    have hb1 : Below W0.heap.size W0 w1 := grown_below hgA (Nat.le_refl _) (fun k hk => by cases hk)
    obtain ⟨LA, hLA⟩ : ∃ LA, (madeCells #[Value.slice none 0 0] n).toList = LA := ⟨_, rfl⟩
    have hLE : ∀ x ∈ LA, Em x := by rw [← hLA]; exact made_em n
    rw [hLA] at hoA
    have hLL : LA.length = n := by have := hoA.1; omega
    obtain ⟨W2, hW2⟩ : ∃ W2, W2 = w1.alloc (.cells #[.int .i64 s, .int .i64 b, .slice none 0 0, .slice none 0 0, .slice (some ⟨W0.heap.size, 0, none⟩) n n, .slice none 0 0] 30) := ⟨_, rfl⟩
    have hb2 : Below w1.heap.size w1 W2 := by rw [hW2]; (repeat' (first | exact Below.refl _ _ | assumption | refine Below.drew ?_ | refine below_drewN ?_ _ | refine Below.alloc ?_ (by omega) _ | refine Below.alloc ?_ (by simp; omega) _ | refine Below.alloc ?_ (by simp) _ | refine Below.setCell ?_ (by omega) _ | refine Below.setCell ?_ (by simp; omega) _ | refine Below.setCell ?_ (by simp) _))
    have hb02 := hb1.trans (hb2.mono hb1.size)
    obtain ⟨kk, hkk⟩ : ∃ kk, hpub s = kk := ⟨_, rfl⟩
    have HKK := Lib.hid hkk
    have hgs := (own_block hoA W0.heap.size rfl).2
    have D : Hid (Wt w W2 w.heap.size w1.heap.size W0.heap.size s b kk (.slice none 0 0) (.slice none 0 0) (.slice (some ⟨W0.heap.size, 0, none⟩) n n) (.slice none 0 0) [] LA) := Lib.hid
      ⟨⟨by rw [hW2]; exact cell_new rfl rfl, by rw [hW2]; exact cell_new rfl rfl, by rw [hW2]; exact cell_new rfl rfl, by rw [hW2]; exact cell_new rfl rfl, by rw [hW2]; exact cell_new rfl rfl, by rw [hW2]; exact cell_new rfl rfl, fun o => by rw [hW2]; exact frozen_new rfl,
        cell_keep hb02 r0, cell_keep hb02 r1, cell_keep hb02 r2, cell_keep hb02 r3, cell_keep hb02 r4, cell_keep hb02 r5, fun o => (below_frozen (a := ⟨w.heap.size, o, none⟩) hb02 (by have := HS0.out; show w.heap.size < _; omega)).trans (fr o)⟩,
        own_nil _ _ _ _, by rw [hLL]; exact own_below hoA hb2, .inl rfl, by simp [Value.ownBlock], by show some W0.heap.size ≠ some w1.heap.size; simp; omega, fun x hx => (by cases hx), hLE, Em.nil, Em.nil, HB0.out.trans (hb02.mono HB0.out.size), Nat.le_refl _, by rw [HS0.out]; omega, by have := HS0.out; omega, by have := HS0.out; omega, by rw [hW2]; simp, hb02.size⟩
    have HLL := Lib.hid hLL
    rw [hkk] at HK HNPk
    clear hoA hgA hb1 hb2 hb02 hLE hLA hLL hkk hgs fr r0 r1 r2 r3 r4 r5
    go_upto_region 4 with (fail)
    rw [← hW2]
    clear hW2
    go_wp2
    go_loopw [23, 9, 10] (fun i _ _ wr => ∃ (k : Nat) (l : List (Value × Value)) (vF : Value), k ≤ n ∧ i = .int .i64 k ∧ l.length = k ∧ Hid (Wt w wr w.heap.size w1.heap.size W0.heap.size s b kk vF (.slice none 0 0) (.slice (some ⟨W0.heap.size, 0, none⟩) n n) (.slice none 0 0) l LA)) (fun i _ _ _ => n - (intOf i).toNat)
    case atStart => exact ⟨0, [], _, Nat.zero_le _, rfl, rfl, D⟩
    case round =>
      obtain ⟨k, l, vF, hk, rfl, hl, D⟩ := hrel
      by_cases hlt : k < n
      · have hlti : (k : Int) < (n : Int) := by omega
        go_wp2_with fail
        refine (impPub_c s _).mono ?_
        rintro e w' ⟨rfl, rfl⟩
        rw [HKK.out]
        go_wp2_with fail
        refine (impNew_c kk _).mono ?_
        rintro e w3 ⟨vb, vh, rfl, o1, o2, -, hb3⟩
        rw [HNPk.out, HK.out]
        have E1 := Lib.hid (Em.own o1)
        have E2 := Lib.hid (Em.own o2)
        obtain ⟨ab, cb, rfl⟩ := own_slice o1
        obtain ⟨ah, ch, rfl⟩ := own_slice o2
        obtain ⟨W4, hW4⟩ : ∃ W4, W4 = w3.alloc (.cells #[.int .i64 kk, .int .i64 0, .int .i64 0, .int .i64 0, .slice ab 0 cb, .slice ah 0 ch] 39) := ⟨_, rfl⟩
        have hb4 : Below w3.heap.size w3 W4 := by rw [hW4]; (repeat' (first | exact Below.refl _ _ | assumption | refine Below.drew ?_ | refine below_drewN ?_ _ | refine Below.alloc ?_ (by omega) _ | refine Below.alloc ?_ (by simp; omega) _ | refine Below.alloc ?_ (by simp) _ | refine Below.setCell ?_ (by omega) _ | refine Below.setCell ?_ (by simp; omega) _ | refine Below.setCell ?_ (by simp) _))
        have D4 := Lib.hid ((D.out.below hb3).below hb4)
        have y0 : W4.cell? ⟨w3.heap.size, 0, none⟩ = some (.int .i64 kk) := by rw [hW4]; exact cell_new rfl rfl
        have y1 : W4.cell? ⟨w3.heap.size, 1, none⟩ = some (.int .i64 0) := by rw [hW4]; exact cell_new rfl rfl
        have y2 : W4.cell? ⟨w3.heap.size, 2, none⟩ = some (.int .i64 0) := by rw [hW4]; exact cell_new rfl rfl
        have y3 : W4.cell? ⟨w3.heap.size, 3, none⟩ = some (.int .i64 0) := by rw [hW4]; exact cell_new rfl rfl
        have y4 : W4.cell? ⟨w3.heap.size, 4, none⟩ = some (.slice ab 0 cb) := by rw [hW4]; exact cell_new rfl rfl
        have y5 : W4.cell? ⟨w3.heap.size, 5, none⟩ = some (.slice ah 0 ch) := by rw [hW4]; exact cell_new rfl rfl
        have x2 := D4.out.ww.x2
        have HL := Lib.hid hl
        clear o1 o2 hb3 hb4 D hl
        go_upto_region 7 with (fail)
        rw [← hW4]
        clear hW4
        go_wp2_with (at_builtin; refine wpList_appF _ rfl _ _ 25 rfl Try.underlying25 W0.heap.size _ kk l l.length rfl D4.out.oF _ _ E1.out E2.out _ _ rfl (by have := HL.out; omega) D4.out.bl ?_)
        intro v5 w5 ho5 hg5 hl5
        obtain ⟨p5, c5, rfl⟩ := own_slice ho5
        have D5 := Lib.hid (D4.out.addF ho5 hg5 hl5 E1.out E2.out)
        have fx : w5.frozen? ⟨w1.heap.size, 2, none⟩ = false := by have := D5.out.ww.fx 2; rwa [World.frozen?_setCell] at this
        have x2 : w5.cell? ⟨w1.heap.size, 2, none⟩ = some vF := grown_cell hg5 x2 (fun e => D4.out.nF e.symm)
        clear ho5 hg5 hl5 D4 y0 y1 y2 y3 y4 y5
        go_wp2
        go_roundw
        case rel => first | exact ⟨k + 1, l ++ [(.slice ab 0 cb, .slice ah 0 ch)], _, by omega, by go_num, by simp [HL.out], D5⟩ | exact ⟨_, k + 1, l ++ [(.slice ab 0 cb, .slice ah 0 ch)], _, by omega, by go_num, by simp [HL.out], D5⟩ | exact ⟨_, _, k + 1, l ++ [(.slice ab 0 cb, .slice ah 0 ch)], _, by omega, by go_num, by simp [HL.out], D5⟩ | ((repeat apply Exists.intro); exact ⟨⟨k + 1, l ++ [(.slice ab 0 cb, .slice ah 0 ch)], _, by omega, by go_num, by simp [HL.out], D5⟩, rfl⟩)
        case measure => simp [intOf]; omega
      · obtain rfl : k = n := by omega
        have HLA := Lib.hid (show LA.length = l.length by rw [HLL.out, hl])
        have HLP := Lib.hid (show (l.length : Int) = (k : Int) by rw [hl])
        clear hl
        obtain ⟨aF, cF, rfl⟩ := own_slice D.out.oF
        have x0 := D.out.ww.x0
        have x1 := D.out.ww.x1
        have x2 := D.out.ww.x2
        have x3 := D.out.ww.x3
        have x4 := D.out.ww.x4
        have x5 := D.out.ww.x5
        have r0 := D.out.ww.r0
        have r1 := D.out.ww.r1
        have r2 := D.out.ww.r2
        have r3 := D.out.ww.r3
        have r4 := D.out.ww.r4
        have r5 := D.out.ww.r5
        have fr := D.out.ww.fr
        go_wp2
        refine bodyPost_ret (v := .tuple #[.agg #[.int .i64 s, .int .i64 b, .slice aF l.length cF, .slice none 0 0, .slice (some ⟨W0.heap.size, 0, none⟩) k k, .slice none 0 0], .bool true]) (by simp [results, Try.results14, go_sem, r0, r1, r2, r3, r4, r5]) rfl ?_
        exact HP.out _ _ s b kk l.length _ _ (.slice (some ⟨W0.heap.size, 0, none⟩) k k) _ (by rw [HV.out]) D.out.out.1 (by rw [← HLA.out]; exact D.out.out.2.1) D.out.eL D.out.eN (fun _ => ⟨rfl, rfl, HKK.out.symm, HLP.out⟩) (fun h => absurd (h.symm.trans HV.out) (by simp)) D.out.out.2.2
end Go.Proofs.Ytbjndbaljenlgaa
