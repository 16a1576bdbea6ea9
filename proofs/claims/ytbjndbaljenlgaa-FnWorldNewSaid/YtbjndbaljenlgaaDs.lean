/- The contracts of l91Reader and l91Whole. -/
import Derived.Test.YtbjndbaljenlgaaDr
import Derived.Test.YtbjndbaljenlgaaEg
import Derived.Deep.RegionLaw
namespace Go.Proofs.Ytbjndbaljenlgaa
open Go.RowKit
set_option linter.unusedSimpArgs false
theorem Reader.setn {B : Nat} {w : World} {r P g j : Nat} {u : Value} (h : Reader B w r P) (hg : B ≤ g) : Reader B (w.setCell ⟨g, j, none⟩ u) r P := h.kept (grown_set (World.grownBy.refl _ _)) (fun k hk => by cases hk; exact hg)
/-- all that stands while the feed grows: h the block of the result, fb that of the feed -/
structure St (B r : Nat) (w W : World) (h fb base : Nat) (p len dig sign : Int) (vb vh : Value) (bs : List ByteArray) (hv : List Bool) (P : Nat) : Prop where
  fr : Fr W h fb p len dig sign vb vh
  ow : Ow W base fb vb vh bs hv
  rd : Reader B W r P
  gr : w.grownBy W (some r)
  hh : w.heap.size ≤ h
  hf : w.heap.size ≤ fb
  hn : h ≠ fb
  hb : h < base
  bl : base ≤ W.heap.size
  lt : fb < W.heap.size
  bw : B ≤ w.heap.size
section
variable {B r P P' h fb base : Nat} {w W W' : World} {p len dig sign : Int} {vb vh v' : Value} {bs : List ByteArray} {hv : List Bool}
theorem St.pick (s : St B r w W h fb base p len dig sign vb vh bs hv P) (hR : Reader B W' r P') (hg : W.grownBy W' (some r)) : St B r w W' h fb base p len dig sign vb vh bs hv P' := by
  have hrB := hR.1
  have h1 := s.hf
  have h2 := s.bw
  have h3 := s.hh
  have h4 := s.hb
  exact ⟨s.fr.moved hg (by simp; omega) (by simp; omega), s.ow.moved hg (.inl (by omega)), hR, grown_trans s.gr hg, h3, h1, s.hn, h4, Nat.le_trans s.bl hg.size, Nat.lt_of_lt_of_le s.lt hg.size, h2⟩
theorem St.below (s : St B r w W h fb base p len dig sign vb vh bs hv P) (hb : Below W.heap.size W W') : St B r w W' h fb base p len dig sign vb vh bs hv P :=
  ⟨s.fr.below hb, s.ow.below hb, s.rd.below hb, grown_trans s.gr (below_grown hb _), s.hh, s.hf, s.hn, s.hb, Nat.le_trans s.bl hb.size, Nat.lt_of_lt_of_le s.lt hb.size, s.bw⟩
theorem grown_row {w w1 w2 : World} {r : Nat} {row : Option Nat} (h : w.grownBy w1 (some r)) (hr : ∀ k, row = some k → w.heap.size ≤ k) (hg : w1.grownBy w2 row) : w.grownBy w2 (some r) :=
  ⟨hg.os.trans h.os, hg.tape.trans h.tape, hg.output.trans h.output, Nat.le_trans h.size hg.size, fun k hk hne => (hg.block k (Nat.lt_of_lt_of_le hk h.size) (fun e => by have := hr k e.symm; omega)).trans (h.block k hk hne)⟩
theorem St.appH {u : Bool} (s : St B r w W h fb base p len dig sign vb vh bs hv P)
    (ho : W'.ownsRow base 4 1 v' (hv.length + 1) (encB hv ++ [.bool u])) (hg : W.grownBy W' vh.ownBlock) (hl : v'.ownBlock = vh.ownBlock ∨ v'.ownBlock = some (W.heap.size + 1)) :
    St B r w (W'.setCell ⟨fb, 5, none⟩ v') h fb base p len dig sign vb v' bs (hv ++ [u]) P := by
  have h1 := s.hf
  have h2 := s.bw
  have h3 := s.hh
  have h4 := s.hb
  have hbl : ∀ k, vh.ownBlock = some k → base ≤ k := fun k hk => (own_block s.ow.h k hk).1
  refine ⟨(s.fr.moved hg (fun e => by have := hbl _ e.symm; omega) (fun e => s.ow.nh e.symm)).set5 s.hn v', (s.ow.addH s.lt ho hg hl).set (.inr rfl), ?_, ?_, h3, h1, s.hn, h4, by simpa using Nat.le_trans s.bl hg.size, by simpa using Nat.lt_of_lt_of_le s.lt hg.size, h2⟩
  · exact (s.rd.kept hg (fun k hk => by have := hbl k hk; omega)).setn (by omega)
  · exact grown_setn (grown_row s.gr (fun k hk => by have := hbl k hk; omega) hg) (by omega)
theorem St.appB {u : ByteArray} (s : St B r w W h fb base p len dig sign vb vh bs hv P)
    (ho : W'.ownsRow base 9 1 v' (bs.length + 1) (encS bs ++ [.string u])) (hg : W.grownBy W' vb.ownBlock) (hl : v'.ownBlock = vb.ownBlock ∨ v'.ownBlock = some (W.heap.size + 1)) :
    St B r w (W'.setCell ⟨fb, 4, none⟩ v') h fb base p len dig sign v' vh (bs ++ [u]) hv P := by
  have h1 := s.hf
  have h2 := s.bw
  have h3 := s.hh
  have h4 := s.hb
  have hbl : ∀ k, vb.ownBlock = some k → base ≤ k := fun k hk => (own_block s.ow.b k hk).1
  refine ⟨(s.fr.moved hg (fun e => by have := hbl _ e.symm; omega) (fun e => s.ow.nb e.symm)).set4 s.hn v', (s.ow.addB s.lt ho hg hl).set (.inr rfl), ?_, ?_, h3, h1, s.hn, h4, by simpa using Nat.le_trans s.bl hg.size, by simpa using Nat.lt_of_lt_of_le s.lt hg.size, h2⟩
  · exact (s.rd.kept hg (fun k hk => by have := hbl k hk; omega)).setn (by omega)
  · exact grown_setn (grown_row s.gr (fun k hk => by have := hbl k hk; omega) hg) (by omega)
theorem St.set0 (s : St B r w W h fb base p len dig sign vb vh bs hv P) (a : Int) : St B r w (W.setCell ⟨fb, 0, none⟩ (.int .i64 a)) h fb base a len dig sign vb vh bs hv P := by
  have h1 := s.hf
  have h2 := s.bw
  exact ⟨s.fr.set0 s.hn a, s.ow.set (.inr rfl), s.rd.setn (by omega), grown_setn s.gr (by omega), s.hh, h1, s.hn, s.hb, by simpa using s.bl, by simpa using s.lt, h2⟩
theorem St.set1 (s : St B r w W h fb base p len dig sign vb vh bs hv P) (a : Int) : St B r w (W.setCell ⟨fb, 1, none⟩ (.int .i64 a)) h fb base p a dig sign vb vh bs hv P := by
  have h1 := s.hf
  have h2 := s.bw
  exact ⟨s.fr.set1 s.hn a, s.ow.set (.inr rfl), s.rd.setn (by omega), grown_setn s.gr (by omega), s.hh, h1, s.hn, s.hb, by simpa using s.bl, by simpa using s.lt, h2⟩
theorem St.set2 (s : St B r w W h fb base p len dig sign vb vh bs hv P) (a : Int) : St B r w (W.setCell ⟨fb, 2, none⟩ (.int .i64 a)) h fb base p len a sign vb vh bs hv P := by
  have h1 := s.hf
  have h2 := s.bw
  exact ⟨s.fr.set2 s.hn a, s.ow.set (.inr rfl), s.rd.setn (by omega), grown_setn s.gr (by omega), s.hh, h1, s.hn, s.hb, by simpa using s.bl, by simpa using s.lt, h2⟩
theorem St.set3 (s : St B r w W h fb base p len dig sign vb vh bs hv P) (a : Int) : St B r w (W.setCell ⟨fb, 3, none⟩ (.int .i64 a)) h fb base p len dig a vb vh bs hv P := by
  have h1 := s.hf
  have h2 := s.bw
  exact ⟨s.fr.set3 s.hn a, s.ow.set (.inr rfl), s.rd.setn (by omega), grown_setn s.gr (by omega), s.hh, h1, s.hn, s.hb, by simpa using s.bl, by simpa using s.lt, h2⟩
theorem St.head (s : St B r w W h fb base p len dig sign vb vh bs hv P) (a b c : Int) :
    St B r w (((W.setCell ⟨fb, 1, none⟩ (.int .i64 a)).setCell ⟨fb, 2, none⟩ (.int .i64 b)).setCell ⟨fb, 3, none⟩ (.int .i64 c)) h fb base p a b c vb vh bs hv P := ((s.set1 a).set2 b).set3 c
/-- the result block is written -/
theorem St.out {v0 v1 v2 v3 v4 v5 : Value} (s : St B r w W h fb base p len dig sign vb vh bs hv P) (hP : P ≤ P') :
    RdS (fun k => w.heap.size ≤ k) 1 ((((((W.setCell ⟨h, 0, none⟩ v0).setCell ⟨h, 1, none⟩ v1).setCell ⟨h, 2, none⟩ v2).setCell ⟨h, 3, none⟩ v3).setCell ⟨h, 4, none⟩ v4).setCell ⟨h, 5, none⟩ v5) vb bs.length (encS bs) ∧
    RdS (fun k => w.heap.size ≤ k) 1 ((((((W.setCell ⟨h, 0, none⟩ v0).setCell ⟨h, 1, none⟩ v1).setCell ⟨h, 2, none⟩ v2).setCell ⟨h, 3, none⟩ v3).setCell ⟨h, 4, none⟩ v4).setCell ⟨h, 5, none⟩ v5) vh hv.length (encB hv) ∧
    Reader B ((((((W.setCell ⟨h, 0, none⟩ v0).setCell ⟨h, 1, none⟩ v1).setCell ⟨h, 2, none⟩ v2).setCell ⟨h, 3, none⟩ v3).setCell ⟨h, 4, none⟩ v4).setCell ⟨h, 5, none⟩ v5) r P' ∧
    w.grownBy ((((((W.setCell ⟨h, 0, none⟩ v0).setCell ⟨h, 1, none⟩ v1).setCell ⟨h, 2, none⟩ v2).setCell ⟨h, 3, none⟩ v3).setCell ⟨h, 4, none⟩ v4).setCell ⟨h, 5, none⟩ v5) (some r) := by
  have h1 := s.hh
  have h2 := s.bw
  have h3 := s.hb
  have hB : B ≤ h := by omega
  have o : Ow ((((((W.setCell ⟨h, 0, none⟩ v0).setCell ⟨h, 1, none⟩ v1).setCell ⟨h, 2, none⟩ v2).setCell ⟨h, 3, none⟩ v3).setCell ⟨h, 4, none⟩ v4).setCell ⟨h, 5, none⟩ v5) base fb vb vh bs hv :=
    (((((s.ow.set (.inl h3)).set (.inl h3)).set (.inl h3)).set (.inl h3)).set (.inl h3)).set (.inl h3)
  exact ⟨rds_own o.b (by omega), rds_own o.h (by omega), ((((((s.rd.le hP).setn hB).setn hB).setn hB).setn hB).setn hB).setn hB, grown_setn (grown_setn (grown_setn (grown_setn (grown_setn (grown_setn s.gr h1) h1) h1) h1) h1) h1⟩
end
theorem fdp_of {B r P : Nat} {w w' : World} (f : FeedV) {vb vh : Value} (h : RdS (fun k => w.heap.size ≤ k) 1 w' vb f.bs.length (encS f.bs) ∧ RdS (fun k => w.heap.size ≤ k) 1 w' vh f.hv.length (encB f.hv) ∧ Reader B w' r P ∧ w.grownBy w' (some r)) (h1 : f.bs.length ≤ 16) (h2 : f.hv.length ≤ 1000) (h3 : f.len = 0 → f.sign = 0) :
    FdP B r P w (.returned (.agg #[.int .i64 f.pub, .int .i64 f.len, .int .i64 f.dig, .int .i64 f.sign, vb, vh])) w' := ⟨f, vb, vh, rfl, h.1, h.2.1, h1, h2, h3, h.2.2.1, h.2.2.2⟩
theorem grown_drew {a b : World} {row : Option Nat} (h : a.drew.grownBy b row) : a.grownBy b row := ⟨h.os, h.tape, h.output, h.size, h.block⟩
/-- append of one cell to a slice of the call's own, as a step of a region that draws its order -/
theorem step_appL {P : Program} (w : World) {ops : Array Oper} {o : Oper} {a : Act} {K : Act → World → Prop} {Q : Exit → Act → World → Prop} {E : Prop} (hgd : o.guard = none) (s x : Operand) (t : TypeId)
    (ho : o.op = .call { callee := .builtin .append, args := #[s, x], argTypes := #[t, t] }) (base : Nat) (e : TypeId) (hu : P.underlying t = some (.slice e)) (z : Value) (by_ : Nat)
    (hinfo : (P.info? e).map (fun i => (i.zero, i.size, i.bytes)) = some (some z, 1, by_)) (hz : z.cells.size = 1) (hby : by_ ≤ 16) (v : Value) (n : Nat) (flat : List Value) (hs : a.eval s = v) (hown : w.ownsRow base e 1 v n flat)
    (u : Value) (hu1 : u.oneCell' = true) (m cc : Nat) (hx : a.eval x = .slice (some ⟨m, 0, none⟩) 1 cc) (l0 : w.cell? ⟨m, 0, none⟩ = some u) (hn : n ≤ 1048576) (hb : base ≤ w.heap.size)
    (h : ∀ v' w', w'.ownsRow base e 1 v' (n + 1) (flat ++ [u]) → w.grownBy w' v.ownBlock → (v'.ownBlock = v.ownBlock ∨ v'.ownBlock = some w.heap.size) → K (a.put o.dst v') w') :
    if Region.wanted o (yielded ops a.tmps) = true then Oper.wp P o a w K Q else E := by
  have hw : Region.wanted o (yielded ops a.tmps) = true := by simp [Region.wanted, hgd]
  rw [if_pos hw]
  obtain ⟨i0, hi, hz0, hz1, hz2⟩ := info_parts hinfo
  obtain ⟨v', w', hrun, g1, g2, -, g4⟩ := run_append_own_at (P := P) w base t o.type e i0 z 1 by_ hu hi hz0 hz1 hz2 hz (by decide) v n flat hown ⟨m, 0, none⟩ 1 cc [u] rfl
    (by
      intro j u' hj
      match j, hj with
      | 0, hj => simp at hj; subst hj; simpa [Addr.add] using l0)
    (by intro u' hu'; simp at hu'; subst hu'; exact hu1)
    (by unfold maxLen; omega) (by have : (n + 1) * by_ ≤ (n + 1) * 16 := Nat.mul_le_mul_left _ hby
                                  omega) hb
  unfold Oper.wp
  simp [execOp, ho, resolve, invoke, builtin, hs, hx, hrun, Result.andThen]
  exact h v' w' g1 g2 g4
set_option maxHeartbeats 2000000 in
theorem reader_d (B r P : Nat) (s : Int) (v : Value) (bs : List ByteArray) (w : World) (h : Reader B w r P) (hP : P ≤ 4294967000) (hv : RdS (fun k => k ≠ r) 1 w v bs.length (encS bs)) (hn : bs.length ≤ 16) (hs8 : ∀ x ∈ bs, x.size ≤ 8) :
    Calls Try.prog 87 #[.pointer (some ⟨r, 0, none⟩), .int .i64 s, v] w (FdP B r (P + 16) w) := by
  have hrB := h.1
  have hBw := h.2.1
  have hrw : r < w.heap.size := Nat.lt_of_lt_of_le hrB hBw
  have HV := Lib.hid (fun W' (hg : w.grownBy W' (some r)) => hv.chg (Chg.of_grown hg) (fun k hk e => hk (by cases e; rfl)))
  have HS8 := Lib.hid (show ∀ i, i < bs.length → (bs.getD i ByteArray.empty).size ≤ 8 from fun i hi => hs8 _ (by rw [List.getD_eq_getElem?_getD, List.getElem?_eq_getElem hi]; exact List.getElem_mem hi))
  obtain ⟨-, -, a1, k1, rfl, hb1, hb2, -⟩ := hv
  unfold maxLen at hb2
  obtain ⟨W0, hW0⟩ : ∃ W0, W0 = w.alloc (.cells #[.int .i64 0, .int .i64 0, .int .i64 0, .int .i64 0, .slice none 0 0, .slice none 0 0] 39) := ⟨_, rfl⟩
  have hB0 : Below w.heap.size w W0 := by rw [hW0]; (repeat' (first | exact Below.refl _ _ | assumption | refine Below.drew ?_ | refine below_drewN ?_ _ | refine Below.alloc ?_ (by omega) _ | refine Below.alloc ?_ (by simp; omega) _ | refine Below.alloc ?_ (by simp) _ | refine Below.setCell ?_ (by omega) _ | refine Below.setCell ?_ (by simp; omega) _ | refine Below.setCell ?_ (by simp) _))
  have hS0 : W0.heap.size = w.heap.size + 1 := by rw [hW0]; simp
  have r0 : W0.cell? ⟨w.heap.size, 0, none⟩ = some (.int .i64 0) := by rw [hW0]; exact cell_new rfl rfl
  have r1 : W0.cell? ⟨w.heap.size, 1, none⟩ = some (.int .i64 0) := by rw [hW0]; exact cell_new rfl rfl
  have r2 : W0.cell? ⟨w.heap.size, 2, none⟩ = some (.int .i64 0) := by rw [hW0]; exact cell_new rfl rfl
  have r3 : W0.cell? ⟨w.heap.size, 3, none⟩ = some (.int .i64 0) := by rw [hW0]; exact cell_new rfl rfl
  have r4 : W0.cell? ⟨w.heap.size, 4, none⟩ = some (.slice none 0 0) := by rw [hW0]; exact cell_new rfl rfl
  have r5 : W0.cell? ⟨w.heap.size, 5, none⟩ = some (.slice none 0 0) := by rw [hW0]; exact cell_new rfl rfl
  have fr : ∀ o, W0.frozen? ⟨w.heap.size, o, none⟩ = false := by intro o; rw [hW0]; exact frozen_new rfl
  have HS0 := Lib.hid hS0
  have HB := Lib.hid hB0
  clear hB0 hS0
  go_enter Try.func87, Try.ntmps87
  go_wp2_with fail
  rw [← hW0]
  clear hW0
  refine (headPub_d s _).mono ?_
  rintro e w' ⟨rfl, rfl⟩
  go_wp2_with fail
  refine (specNew_c (hpub s) _).mono ?_
  rintro e w1 ⟨vb, vh, rfl, o1, o2, hap, hb1'⟩
  obtain ⟨q, hq⟩ : ∃ q, np (hpub s) = q := ⟨_, rfl⟩
  rw [hq]
  clear hq
  obtain ⟨W1, hW1⟩ : ∃ W1, W1 = w1.alloc (.cells #[.int .i64 q, .int .i64 0, .int .i64 0, .int .i64 0, vb, vh] 39) := ⟨_, rfl⟩
  have hbW1 : Below w1.heap.size w1 W1 := by rw [hW1]; (repeat' (first | exact Below.refl _ _ | assumption | refine Below.drew ?_ | refine below_drewN ?_ _ | refine Below.alloc ?_ (by omega) _ | refine Below.alloc ?_ (by simp; omega) _ | refine Below.alloc ?_ (by simp) _ | refine Below.setCell ?_ (by omega) _ | refine Below.setCell ?_ (by simp; omega) _ | refine Below.setCell ?_ (by simp) _))
  have hfbl : w1.heap.size < W1.heap.size := by rw [hW1]; simp
  have hw1 := hb1'.size
  have F : Hid (Fr W1 w.heap.size w1.heap.size q 0 0 0 vb vh) := Lib.hid ⟨by rw [hW1]; exact cell_new rfl rfl, by rw [hW1]; exact cell_new rfl rfl, by rw [hW1]; exact cell_new rfl rfl, by rw [hW1]; exact cell_new rfl rfl, by rw [hW1]; exact cell_new rfl rfl, by rw [hW1]; exact cell_new rfl rfl, fun o => by rw [hW1]; exact frozen_new rfl, cell_keep hbW1 (cell_keep hb1' r0), cell_keep hbW1 (cell_keep hb1' r1), cell_keep hbW1 (cell_keep hb1' r2), cell_keep hbW1 (cell_keep hb1' r3), cell_keep hbW1 (cell_keep hb1' r4), cell_keep hbW1 (cell_keep hb1' r5), fun o => (below_frozen hbW1 (by have := HS0.out; show w.heap.size < _; omega)).trans ((below_frozen hb1' (by have := HS0.out; show w.heap.size < _; omega)).trans (fr o))⟩
  have O : Hid (Ow W1 (w.heap.size + 1) w1.heap.size vb vh [] []) := Lib.hid ⟨own_below (own_base o1 (by have := HS0.out; omega)) hbW1, own_below (own_base o2 (by have := HS0.out; omega)) hbW1, by
      rcases hw : vb.ownBlock with _ | j
      · exact .inl rfl
      · exact .inr (Ne.symm (hap j hw)), fun e => by have := (own_block o1 _ e).2; omega, fun e => by have := (own_block o2 _ e).2; omega⟩
  have HB := Lib.hid (HB.out.trans ((hb1'.trans (hbW1.mono hb1'.size)).mono HB.out.size))
  have HFB := Lib.hid hfbl
  have HRG := Lib.hid (And.intro (h.below HB.out) (below_grown HB.out (some r)))
  have HHF := Lib.hid (show w.heap.size < w1.heap.size by have := HS0.out; omega)
  clear o1 o2 hap hbW1 hfbl hw1 hb1' fr r0 r1 r2 r3 r4 r5
  by_cases hz : bs.length = 0
  · have hzb : ((bs.length : Int) == 0) = true := by simp [hz]
    obtain ⟨a5, k5, hvb⟩ : ∃ a c, vb = .slice a 0 c := own_slice O.out.b
    obtain ⟨a6, k6, hvh⟩ : ∃ a c, vh = .slice a 0 c := own_slice O.out.h
    subst hvb hvh
    go_upto_region 2 with (fail)
    rw [← hW1]
    clear hW1
    have S := Lib.hid (St.mk (P := P) F.out O.out HRG.out.1 HRG.out.2 (Nat.le_refl _) (Nat.le_of_lt HHF.out) (Nat.ne_of_lt HHF.out) (Nat.lt_succ_self _) (by have := HHF.out; have := HFB.out; omega) HFB.out hBw)
    have x0 := F.out.x0
    have x1 := F.out.x1
    have x2 := F.out.x2
    have x3 := F.out.x3
    have x4 := F.out.x4
    have x5 := F.out.x5
    have r0 := F.out.r0
    have r1 := F.out.r1
    have r2 := F.out.r2
    have r3 := F.out.r3
    have r4 := F.out.r4
    have r5 := F.out.r5
    have fr := F.out.fr
    go_wp2
    refine bodyPost_ret (v := .agg #[.int .i64 q, .int .i64 0, .int .i64 0, .int .i64 0, .slice a5 0 k5, .slice a6 0 k6]) (by simp [results, Try.results87, go_sem, r0, r1, r2, r3, r4, r5]) rfl ?_
    exact fdp_of ⟨q, 0, 0, 0, [], []⟩ (S.out.out (show P ≤ P + 16 by omega)) (by simp) (by simp) (fun _ => rfl)
  · have hzb : ((bs.length : Int) == 0) = false := by rw [beq_eq_false_iff_ne]; omega
    have hpos : 0 < bs.length := by omega
    obtain ⟨a5, k5, hvb⟩ : ∃ a c, vb = .slice a 0 c := own_slice O.out.b
    obtain ⟨a6, k6, hvh⟩ : ∃ a c, vh = .slice a 0 c := own_slice O.out.h
    subst hvb hvh
    have S := Lib.hid (St.mk (P := P) F.out O.out HRG.out.1 HRG.out.2 (Nat.le_refl _) (Nat.le_of_lt HHF.out) (Nat.ne_of_lt HHF.out) (Nat.lt_succ_self _) (by have := HHF.out; have := HFB.out; omega) HFB.out hBw)
    clear F O HB HRG HHF HFB hz
    go_upto_region 4 with (fail)
    rw [← hW1]
    clear hW1
    go_wp2_with fail
    refine (l11Leaves_c _ bs _ (HV.out _ S.out.gr).rd hn HS8.out).mono ?_
    rintro e w2 ⟨v2, rfl, o2, hb2⟩
    have S2 := Lib.hid (S.out.below hb2)
    clear hb2 S
    go_wp2_with fail
    refine (headMake_d s _ (bs.map txt) _ (Rd.of_own o2) (fun x hx => by obtain ⟨y, -, rfl⟩ := List.mem_map.1 hx; exact txt_in y) (by simpa using hn) (by simpa using hpos)).mono ?_
    rintro e w3 ⟨len, dig, sign, bb, rfl, hls, hb3⟩
    have S3 := Lib.hid (S2.out.below hb3)
    have HLS := Lib.hid hls
    clear hb3 S2 o2 hls
    have x1 := S3.out.fr.x1
    have x2 := S3.out.fr.x2
    have x3 := S3.out.fr.x3
    have fx := S3.out.fr.fx
    go_upto_region 5 with (fail)
    obtain ⟨W3, hW3⟩ : ∃ W3, W3 = (((w3.setCell ⟨w1.heap.size, 1, none⟩ (.int .i64 len)).setCell ⟨w1.heap.size, 2, none⟩ (.int .i64 dig)).setCell ⟨w1.heap.size, 3, none⟩ (.int .i64 sign)) := ⟨_, rfl⟩
    rw [← hW3]
    have S := Lib.hid (S3.out.head len dig sign)
    rw [← hW3] at S
    clear hW3 S3 x1 x2 x3 fx
    go_wp2
    go_loopw [9, 10] (fun i _ wr => ∃ (k : Nat) (bs' : List ByteArray) (hv' : List Bool) (vb' vh' : Value), k ≤ bs.length ∧ i = .int .i64 k ∧ bs'.length = k ∧ hv'.length = k ∧ Hid (St B r w wr w.heap.size w1.heap.size (w.heap.size + 1) q len dig sign vb' vh' bs' hv' (P + k))) (fun i _ _ => bs.length - (intOf i).toNat)
    case atStart => exact ⟨0, [], [], _, _, Nat.zero_le _, rfl, rfl, rfl, S⟩
    case round =>
      obtain ⟨k, bs', hv', vb', vh', hk, rfl, hl1, hl2, S⟩ := hrel
      by_cases hlt : k < bs.length
      · have hk16 : k < 16 := by omega
        go_wp2_with fail
        refine (pick_c B r _ 3 _ S.out.rd (by omega)).mono ?_
        rintro e w4 ⟨m, rfl, hm0, hm3, hR4, hg4⟩
        have hm3 := hm3 (by omega)
        have S4 := Lib.hid (S.out.pick hR4 hg4)
        have HLEN := Lib.hid (And.intro hl1 hl2)
        clear S hR4 hg4 hl1 hl2
        have x4 := S4.out.fr.x4
        have x5 := S4.out.fr.x5
        by_cases hm : 0 < m
        · go_wp2_with (at_builtin; refine wpList_appL _ rfl _ _ 37 rfl (w.heap.size + 1) 4 Try.underlying37 (.bool false) 1 info_bool rfl (by omega) _ hv'.length _ rfl S4.out.ow.h (.bool true) rfl _ _ rfl (by have := HLEN.out.2; omega) S4.out.bl ?_)
          intro v5 w5 ho5 hg5 hl5
          obtain ⟨p5, c5, rfl⟩ := own_slice ho5
          have S5 := Lib.hid (S4.out.appH ho5 hg5 hl5)
          have fx : w5.frozen? ⟨w1.heap.size, 5, none⟩ = false := by have := S5.out.fr.fx 5; rwa [World.frozen?_setCell] at this
          have x5 : w5.cell? ⟨w1.heap.size, 5, none⟩ = some vh' := grown_cell hg5 x5 (fun e => S4.out.ow.nh e.symm)
          clear ho5 hg5 hl5 x4 S4
          go_upto_region 11 with (fail)
          obtain ⟨W5, hW5⟩ : ∃ W5, W5 = w5.setCell ⟨w1.heap.size, 5, none⟩ (.slice p5 (hv'.length + 1) c5) := ⟨_, rfl⟩
          rw [← hW5] at S5 ⊢
          clear hW5 fx x5
          have x4 := S5.out.fr.x4
          have fx := S5.out.fr.fx 4
          have hv2 := HV.out _ S5.out.gr
          obtain ⟨-, -, a9, k9, e9, -, -, hc9⟩ := hv2
          obtain ⟨b9, o9, rfl, hq9⟩ := hc9 (by omega)
          injection e9 with e9 _ e10
          subst e9 e10
          have u9 := (hq9 k _ (encS_at bs k hlt)).2
          generalize bs.getD k ByteArray.empty = xs at *
          have hlt5 := S5.out.lt
          have hbl5 := S5.out.bl
          have HCV := Lib.hid u9
          clear hq9 hc9
          go_wp2
          go_region_law (refine step_appL _ rfl (.tmp 46) (.tmp 51) 36 rfl (w.heap.size + 1) 9 Try.underlying36 (.string ByteArray.empty) 16 info_string rfl (by omega) vb' bs'.length (encS bs') (by simp [Act.eval, Act.put]) (own_below S5.out.ow.b (by (repeat' (first | exact Below.refl _ _ | assumption | refine Below.drew ?_ | refine below_drewN ?_ _ | refine Below.alloc ?_ (by omega) _ | refine Below.alloc ?_ (by simp; omega) _ | refine Below.alloc ?_ (by simp) _ | refine Below.setCell ?_ (by omega) _ | refine Below.setCell ?_ (by simp; omega) _ | refine Below.setCell ?_ (by simp) _)))) (.string xs) rfl W5.heap.size 1 (by simp [Act.eval, Act.put]) (by simp) (by have := HLEN.out.1; omega) (by simp; omega) ?_; intro v6 w6 ho6 hg6 hl6; obtain ⟨p6, c6, rfl⟩ := own_slice ho6; have S6 := Lib.hid (S5.out.appB (W' := w6) ho6 (grown_drew (grown_of_alloc hg6)) (by simpa using hl6)); have fx6 : w6.frozen? ⟨w1.heap.size, 4, none⟩ = false := (by have := S6.out.fr.fx 4; rwa [World.frozen?_setCell] at this); have x46 : w6.cell? ⟨w1.heap.size, 4, none⟩ = some vb' := grown_cell (grown_drew (grown_of_alloc hg6)) x4 (fun e => S5.out.ow.nb e.symm); clear ho6 hg6 hl6)
          all_goals
            go_wp2
            go_roundw
            case rel => first | exact ⟨k + 1, bs' ++ [xs], hv' ++ [true], _, _, by omega, by go_num, by simp [HLEN.out.1], by simp [HLEN.out.2], S6⟩ | exact ⟨_, k + 1, bs' ++ [xs], hv' ++ [true], _, _, by omega, by go_num, by simp [HLEN.out.1], by simp [HLEN.out.2], S6⟩ | ((repeat apply Exists.intro); exact ⟨⟨k + 1, bs' ++ [xs], hv' ++ [true], _, _, by omega, by go_num, by simp [HLEN.out.1], by simp [HLEN.out.2], S6⟩, rfl⟩)
            case measure => simp [intOf]; omega
        · obtain rfl : m = 0 := by omega
          go_wp2_with (at_builtin; refine wpList_appL _ rfl _ _ 37 rfl (w.heap.size + 1) 4 Try.underlying37 (.bool false) 1 info_bool rfl (by omega) _ hv'.length _ rfl S4.out.ow.h (.bool false) rfl _ _ rfl (by have := HLEN.out.2; omega) S4.out.bl ?_)
          intro v5 w5 ho5 hg5 hl5
          obtain ⟨p5, c5, rfl⟩ := own_slice ho5
          have S5 := Lib.hid (S4.out.appH ho5 hg5 hl5)
          have fx : w5.frozen? ⟨w1.heap.size, 5, none⟩ = false := by have := S5.out.fr.fx 5; rwa [World.frozen?_setCell] at this
          have x5 : w5.cell? ⟨w1.heap.size, 5, none⟩ = some vh' := grown_cell hg5 x5 (fun e => S4.out.ow.nh e.symm)
          clear ho5 hg5 hl5 x4 S4
          go_upto_region 12 with (fail)
          obtain ⟨W5, hW5⟩ : ∃ W5, W5 = w5.setCell ⟨w1.heap.size, 5, none⟩ (.slice p5 (hv'.length + 1) c5) := ⟨_, rfl⟩
          rw [← hW5] at S5 ⊢
          clear hW5 fx x5
          have x4 := S5.out.fr.x4
          go_wp2_with (at_builtin; refine wpList_appL _ rfl _ _ 36 rfl (w.heap.size + 1) 9 Try.underlying36 (.string ByteArray.empty) 16 info_string rfl (by omega) _ bs'.length _ rfl S5.out.ow.b (.string ByteArray.empty) rfl _ _ rfl (by have := HLEN.out.1; omega) S5.out.bl ?_)
          intro v6 w6 ho6 hg6 hl6
          obtain ⟨p6, c6, rfl⟩ := own_slice ho6
          have S6 := Lib.hid (S5.out.appB ho6 hg6 hl6)
          have fx : w6.frozen? ⟨w1.heap.size, 4, none⟩ = false := by have := S6.out.fr.fx 4; rwa [World.frozen?_setCell] at this
          have x4 : w6.cell? ⟨w1.heap.size, 4, none⟩ = some vb' := grown_cell hg6 x4 (fun e => S5.out.ow.nb e.symm)
          clear ho6 hg6 hl6 S5
          go_wp2
          go_roundw
          case rel => first | exact ⟨k + 1, bs' ++ [ByteArray.empty], hv' ++ [false], _, _, by omega, by go_num, by simp [HLEN.out.1], by simp [HLEN.out.2], S6⟩ | exact ⟨_, k + 1, bs' ++ [ByteArray.empty], hv' ++ [false], _, _, by omega, by go_num, by simp [HLEN.out.1], by simp [HLEN.out.2], S6⟩ | ((repeat apply Exists.intro); exact ⟨⟨k + 1, bs' ++ [ByteArray.empty], hv' ++ [false], _, _, by omega, by go_num, by simp [HLEN.out.1], by simp [HLEN.out.2], S6⟩, rfl⟩)
          case measure => simp [intOf]; omega
      · have F := Lib.hid S.out.fr
        have O := Lib.hid S.out.ow
        have HN2 := Lib.hid (And.intro hl1 hl2)
        clear hl1 hl2
        have x0 := F.out.x0
        have x1 := F.out.x1
        have x2 := F.out.x2
        have x3 := F.out.x3
        have x4 := F.out.x4
        have x5 := F.out.x5
        have r0 := F.out.r0
        have r1 := F.out.r1
        have r2 := F.out.r2
        have r3 := F.out.r3
        have r4 := F.out.r4
        have r5 := F.out.r5
        have fr := F.out.fr
        obtain ⟨a5, k5, rfl⟩ := own_slice O.out.b
        obtain ⟨a6, k6, rfl⟩ := own_slice O.out.h
        go_wp2
        refine bodyPost_ret (v := .agg #[.int .i64 q, .int .i64 len, .int .i64 dig, .int .i64 sign, .slice a5 bs'.length k5, .slice a6 hv'.length k6]) (by simp [results, Try.results87, go_sem, r0, r1, r2, r3, r4, r5]) rfl ?_
        exact fdp_of ⟨q, len, dig, sign, bs', hv'⟩ (S.out.out (show P + k ≤ P + 16 by omega)) (by have := HN2.out.1; show bs'.length ≤ 16; omega) (by have := HN2.out.2; show hv'.length ≤ 1000; omega) HLS.out
set_option maxHeartbeats 2000000 in
theorem whole_d (B r P : Nat) (s : Int) (v : Value) (bs : List ByteArray) (w : World) (h : Reader B w r P) (hP : P ≤ 4294967000) (hv : RdS (fun k => k ≠ r) 1 w v bs.length (encS bs)) (hn : bs.length ≤ 16) (hs8 : ∀ x ∈ bs, x.size ≤ 8) :
    Calls Try.prog 86 #[.int .i64 s, v] w (FdP B r P w) := by
  have hrB := h.1
  have hBw := h.2.1
  have hrw : r < w.heap.size := Nat.lt_of_lt_of_le hrB hBw
  have HV := Lib.hid (fun W' (hg : w.grownBy W' (some r)) => hv.chg (Chg.of_grown hg) (fun k hk e => hk (by cases e; rfl)))
  have HS8 := Lib.hid (show ∀ i, i < bs.length → (bs.getD i ByteArray.empty).size ≤ 8 from fun i hi => hs8 _ (by rw [List.getD_eq_getElem?_getD, List.getElem?_eq_getElem hi]; exact List.getElem_mem hi))
  obtain ⟨-, -, a1, k1, rfl, hb1, hb2, -⟩ := hv
  unfold maxLen at hb2
  obtain ⟨W0, hW0⟩ : ∃ W0, W0 = w.alloc (.cells #[.int .i64 0, .int .i64 0, .int .i64 0, .int .i64 0, .slice none 0 0, .slice none 0 0] 39) := ⟨_, rfl⟩
  have hB0 : Below w.heap.size w W0 := by rw [hW0]; (repeat' (first | exact Below.refl _ _ | assumption | refine Below.drew ?_ | refine below_drewN ?_ _ | refine Below.alloc ?_ (by omega) _ | refine Below.alloc ?_ (by simp; omega) _ | refine Below.alloc ?_ (by simp) _ | refine Below.setCell ?_ (by omega) _ | refine Below.setCell ?_ (by simp; omega) _ | refine Below.setCell ?_ (by simp) _))
  have hS0 : W0.heap.size = w.heap.size + 1 := by rw [hW0]; simp
  have r0 : W0.cell? ⟨w.heap.size, 0, none⟩ = some (.int .i64 0) := by rw [hW0]; exact cell_new rfl rfl
  have r1 : W0.cell? ⟨w.heap.size, 1, none⟩ = some (.int .i64 0) := by rw [hW0]; exact cell_new rfl rfl
  have r2 : W0.cell? ⟨w.heap.size, 2, none⟩ = some (.int .i64 0) := by rw [hW0]; exact cell_new rfl rfl
  have r3 : W0.cell? ⟨w.heap.size, 3, none⟩ = some (.int .i64 0) := by rw [hW0]; exact cell_new rfl rfl
  have r4 : W0.cell? ⟨w.heap.size, 4, none⟩ = some (.slice none 0 0) := by rw [hW0]; exact cell_new rfl rfl
  have r5 : W0.cell? ⟨w.heap.size, 5, none⟩ = some (.slice none 0 0) := by rw [hW0]; exact cell_new rfl rfl
  have fr : ∀ o, W0.frozen? ⟨w.heap.size, o, none⟩ = false := by intro o; rw [hW0]; exact frozen_new rfl
  have HS0 := Lib.hid hS0
  have HB := Lib.hid hB0
  clear hB0 hS0
  go_enter Try.func86, Try.ntmps86
  go_wp2_with fail
  rw [← hW0]
  clear hW0
  refine (headPub_d s _).mono ?_
  rintro e w' ⟨rfl, rfl⟩
  go_wp2_with fail
  refine (specNew_c (hpub s) _).mono ?_
  rintro e w1 ⟨vb, vh, rfl, o1, o2, hap, hb1'⟩
  obtain ⟨q, hq⟩ : ∃ q, np (hpub s) = q := ⟨_, rfl⟩
  rw [hq]
  clear hq
  obtain ⟨W1, hW1⟩ : ∃ W1, W1 = w1.alloc (.cells #[.int .i64 q, .int .i64 0, .int .i64 0, .int .i64 0, vb, vh] 39) := ⟨_, rfl⟩
  have hbW1 : Below w1.heap.size w1 W1 := by rw [hW1]; (repeat' (first | exact Below.refl _ _ | assumption | refine Below.drew ?_ | refine below_drewN ?_ _ | refine Below.alloc ?_ (by omega) _ | refine Below.alloc ?_ (by simp; omega) _ | refine Below.alloc ?_ (by simp) _ | refine Below.setCell ?_ (by omega) _ | refine Below.setCell ?_ (by simp; omega) _ | refine Below.setCell ?_ (by simp) _))
  have hfbl : w1.heap.size < W1.heap.size := by rw [hW1]; simp
  have hw1 := hb1'.size
  have F : Hid (Fr W1 w.heap.size w1.heap.size q 0 0 0 vb vh) := Lib.hid ⟨by rw [hW1]; exact cell_new rfl rfl, by rw [hW1]; exact cell_new rfl rfl, by rw [hW1]; exact cell_new rfl rfl, by rw [hW1]; exact cell_new rfl rfl, by rw [hW1]; exact cell_new rfl rfl, by rw [hW1]; exact cell_new rfl rfl, fun o => by rw [hW1]; exact frozen_new rfl, cell_keep hbW1 (cell_keep hb1' r0), cell_keep hbW1 (cell_keep hb1' r1), cell_keep hbW1 (cell_keep hb1' r2), cell_keep hbW1 (cell_keep hb1' r3), cell_keep hbW1 (cell_keep hb1' r4), cell_keep hbW1 (cell_keep hb1' r5), fun o => (below_frozen hbW1 (by have := HS0.out; show w.heap.size < _; omega)).trans ((below_frozen hb1' (by have := HS0.out; show w.heap.size < _; omega)).trans (fr o))⟩
  have O : Hid (Ow W1 (w.heap.size + 1) w1.heap.size vb vh [] []) := Lib.hid ⟨own_below (own_base o1 (by have := HS0.out; omega)) hbW1, own_below (own_base o2 (by have := HS0.out; omega)) hbW1, by
      rcases hw : vb.ownBlock with _ | j
      · exact .inl rfl
      · exact .inr (Ne.symm (hap j hw)), fun e => by have := (own_block o1 _ e).2; omega, fun e => by have := (own_block o2 _ e).2; omega⟩
  have HB := Lib.hid (HB.out.trans ((hb1'.trans (hbW1.mono hb1'.size)).mono HB.out.size))
  have HFB := Lib.hid hfbl
  have HRG := Lib.hid (And.intro (h.below HB.out) (below_grown HB.out (some r)))
  have HHF := Lib.hid (show w.heap.size < w1.heap.size by have := HS0.out; omega)
  clear o1 o2 hap hbW1 hfbl hw1 hb1' fr r0 r1 r2 r3 r4 r5
  by_cases hz : bs.length = 0
  · have hzb : ((bs.length : Int) == 0) = true := by simp [hz]
    obtain ⟨a5, k5, hvb⟩ : ∃ a c, vb = .slice a 0 c := own_slice O.out.b
    obtain ⟨a6, k6, hvh⟩ : ∃ a c, vh = .slice a 0 c := own_slice O.out.h
    subst hvb hvh
    go_upto_region 2 with (fail)
    rw [← hW1]
    clear hW1
    have S := Lib.hid (St.mk (P := P) F.out O.out HRG.out.1 HRG.out.2 (Nat.le_refl _) (Nat.le_of_lt HHF.out) (Nat.ne_of_lt HHF.out) (Nat.lt_succ_self _) (by have := HHF.out; have := HFB.out; omega) HFB.out hBw)
    have x0 := F.out.x0
    have x1 := F.out.x1
    have x2 := F.out.x2
    have x3 := F.out.x3
    have x4 := F.out.x4
    have x5 := F.out.x5
    have r0 := F.out.r0
    have r1 := F.out.r1
    have r2 := F.out.r2
    have r3 := F.out.r3
    have r4 := F.out.r4
    have r5 := F.out.r5
    have fr := F.out.fr
    go_wp2
    refine bodyPost_ret (v := .agg #[.int .i64 q, .int .i64 0, .int .i64 0, .int .i64 0, .slice a5 0 k5, .slice a6 0 k6]) (by simp [results, Try.results86, go_sem, r0, r1, r2, r3, r4, r5]) rfl ?_
    exact fdp_of ⟨q, 0, 0, 0, [], []⟩ (S.out.out (Nat.le_refl P)) (by simp) (by simp) (fun _ => rfl)
  · have hzb : ((bs.length : Int) == 0) = false := by rw [beq_eq_false_iff_ne]; omega
    have hpos : 0 < bs.length := by omega
    obtain ⟨a5, k5, hvb⟩ : ∃ a c, vb = .slice a 0 c := own_slice O.out.b
    obtain ⟨a6, k6, hvh⟩ : ∃ a c, vh = .slice a 0 c := own_slice O.out.h
    subst hvb hvh
    have S := Lib.hid (St.mk (P := P) F.out O.out HRG.out.1 HRG.out.2 (Nat.le_refl _) (Nat.le_of_lt HHF.out) (Nat.ne_of_lt HHF.out) (Nat.lt_succ_self _) (by have := HHF.out; have := HFB.out; omega) HFB.out hBw)
    clear F O HB HRG HHF HFB hz
    go_upto_region 4 with (fail)
    rw [← hW1]
    clear hW1
    go_wp2_with fail
    refine (l11Leaves_c _ bs _ (HV.out _ S.out.gr).rd hn HS8.out).mono ?_
    rintro e w2 ⟨v2, rfl, o2, hb2⟩
    have S2 := Lib.hid (S.out.below hb2)
    clear hb2 S
    go_wp2_with fail
    refine (headMake_d s _ (bs.map txt) _ (Rd.of_own o2) (fun x hx => by obtain ⟨y, -, rfl⟩ := List.mem_map.1 hx; exact txt_in y) (by simpa using hn) (by simpa using hpos)).mono ?_
    rintro e w3 ⟨len, dig, sign, bb, rfl, hls, hb3⟩
    have S3 := Lib.hid (S2.out.below hb3)
    have HLS := Lib.hid hls
    clear hb3 S2 o2 hls
    have x1 := S3.out.fr.x1
    have x2 := S3.out.fr.x2
    have x3 := S3.out.fr.x3
    have fx := S3.out.fr.fx
    go_upto_region 5 with (fail)
    obtain ⟨W3, hW3⟩ : ∃ W3, W3 = (((w3.setCell ⟨w1.heap.size, 1, none⟩ (.int .i64 len)).setCell ⟨w1.heap.size, 2, none⟩ (.int .i64 dig)).setCell ⟨w1.heap.size, 3, none⟩ (.int .i64 sign)) := ⟨_, rfl⟩
    rw [← hW3]
    have S := Lib.hid (S3.out.head len dig sign)
    rw [← hW3] at S
    clear hW3 S3 x1 x2 x3 fx
    go_wp2
    go_loopw [7] (fun i wr => ∃ (k : Nat) (bs' : List ByteArray) (hv' : List Bool) (vb' vh' : Value), k ≤ bs.length ∧ i = .int .i64 k ∧ bs'.length = k ∧ hv'.length = k ∧ Hid (St B r w wr w.heap.size w1.heap.size (w.heap.size + 1) q len dig sign vb' vh' bs' hv' P)) (fun i _ => bs.length - (intOf i).toNat)
    case atStart => exact ⟨0, [], [], _, _, Nat.zero_le _, rfl, rfl, rfl, S⟩
    case round =>
      obtain ⟨k, bs', hv', vb', vh', hk, rfl, hl1, hl2, S⟩ := hrel
      by_cases hlt : k < bs.length
      · have hk16 : k < 16 := by omega
        have S4 := S
        have HLEN := Lib.hid (And.intro hl1 hl2)
        clear S hl1 hl2
        have x5 := S4.out.fr.x5
        go_wp2_with (at_builtin; refine wpList_appL _ rfl _ _ 37 rfl (w.heap.size + 1) 4 Try.underlying37 (.bool false) 1 info_bool rfl (by omega) _ hv'.length _ rfl S4.out.ow.h (.bool true) rfl _ _ rfl (by have := HLEN.out.2; omega) S4.out.bl ?_)
        intro v5 w5 ho5 hg5 hl5
        obtain ⟨p5, c5, rfl⟩ := own_slice ho5
        have S5 := Lib.hid (S4.out.appH ho5 hg5 hl5)
        have fx : w5.frozen? ⟨w1.heap.size, 5, none⟩ = false := by have := S5.out.fr.fx 5; rwa [World.frozen?_setCell] at this
        have x5 : w5.cell? ⟨w1.heap.size, 5, none⟩ = some vh' := grown_cell hg5 x5 (fun e => S4.out.ow.nh e.symm)
        clear ho5 hg5 hl5 S4
        go_upto_region 9 with (fail)
        obtain ⟨W5, hW5⟩ : ∃ W5, W5 = w5.setCell ⟨w1.heap.size, 5, none⟩ (.slice p5 (hv'.length + 1) c5) := ⟨_, rfl⟩
        rw [← hW5] at S5 ⊢
        clear hW5 fx x5
        have x4 := S5.out.fr.x4
        have fx := S5.out.fr.fx 4
        have hv2 := HV.out _ S5.out.gr
        obtain ⟨-, -, a9, k9, e9, -, -, hc9⟩ := hv2
        obtain ⟨b9, o9, rfl, hq9⟩ := hc9 (by omega)
        injection e9 with e9 _ e10
        subst e9 e10
        have u9 := (hq9 k _ (encS_at bs k hlt)).2
        generalize bs.getD k ByteArray.empty = xs at *
        have hlt5 := S5.out.lt
        have hbl5 := S5.out.bl
        have HCV := Lib.hid u9
        clear hq9 hc9
        go_wp2
        go_region_law (refine step_appL _ rfl (.tmp 38) (.tmp 43) 36 rfl (w.heap.size + 1) 9 Try.underlying36 (.string ByteArray.empty) 16 info_string rfl (by omega) vb' bs'.length (encS bs') (by simp [Act.eval, Act.put]) (own_below S5.out.ow.b (by (repeat' (first | exact Below.refl _ _ | assumption | refine Below.drew ?_ | refine below_drewN ?_ _ | refine Below.alloc ?_ (by omega) _ | refine Below.alloc ?_ (by simp; omega) _ | refine Below.alloc ?_ (by simp) _ | refine Below.setCell ?_ (by omega) _ | refine Below.setCell ?_ (by simp; omega) _ | refine Below.setCell ?_ (by simp) _)))) (.string xs) rfl W5.heap.size 1 (by simp [Act.eval, Act.put]) (by simp) (by have := HLEN.out.1; omega) (by simp; omega) ?_; intro v6 w6 ho6 hg6 hl6; obtain ⟨p6, c6, rfl⟩ := own_slice ho6; have S6 := Lib.hid (S5.out.appB (W' := w6) ho6 (grown_drew (grown_of_alloc hg6)) (by simpa using hl6)); have fx6 : w6.frozen? ⟨w1.heap.size, 4, none⟩ = false := (by have := S6.out.fr.fx 4; rwa [World.frozen?_setCell] at this); have x46 : w6.cell? ⟨w1.heap.size, 4, none⟩ = some vb' := grown_cell (grown_drew (grown_of_alloc hg6)) x4 (fun e => S5.out.ow.nb e.symm); clear ho6 hg6 hl6)
        all_goals
          go_wp2
          go_roundw
          case rel => first | exact ⟨k + 1, bs' ++ [xs], hv' ++ [true], _, _, by omega, by go_num, by simp [HLEN.out.1], by simp [HLEN.out.2], S6⟩ | exact ⟨_, k + 1, bs' ++ [xs], hv' ++ [true], _, _, by omega, by go_num, by simp [HLEN.out.1], by simp [HLEN.out.2], S6⟩ | ((repeat apply Exists.intro); exact ⟨⟨k + 1, bs' ++ [xs], hv' ++ [true], _, _, by omega, by go_num, by simp [HLEN.out.1], by simp [HLEN.out.2], S6⟩, rfl⟩)
          case measure => simp [intOf]; omega
      · have F := Lib.hid S.out.fr
        have O := Lib.hid S.out.ow
        have HN2 := Lib.hid (And.intro hl1 hl2)
        clear hl1 hl2
        have x0 := F.out.x0
        have x1 := F.out.x1
        have x2 := F.out.x2
        have x3 := F.out.x3
        have x4 := F.out.x4
        have x5 := F.out.x5
        have r0 := F.out.r0
        have r1 := F.out.r1
        have r2 := F.out.r2
        have r3 := F.out.r3
        have r4 := F.out.r4
        have r5 := F.out.r5
        have fr := F.out.fr
        obtain ⟨a5, k5, rfl⟩ := own_slice O.out.b
        obtain ⟨a6, k6, rfl⟩ := own_slice O.out.h
        go_wp2
        refine bodyPost_ret (v := .agg #[.int .i64 q, .int .i64 len, .int .i64 dig, .int .i64 sign, .slice a5 bs'.length k5, .slice a6 hv'.length k6]) (by simp [results, Try.results86, go_sem, r0, r1, r2, r3, r4, r5]) rfl ?_
        exact fdp_of ⟨q, len, dig, sign, bs', hv'⟩ (S.out.out (Nat.le_refl P)) (by have := HN2.out.1; show bs'.length ≤ 16; omega) (by have := HN2.out.2; show hv'.length ≤ 1000; omega) HLS.out
end Go.Proofs.Ytbjndbaljenlgaa
