/- The contract of the reference's WorldNew. -/
import Derived.Test.YtbjndbaljenlgaaWb
namespace Go.Proofs.Ytbjndbaljenlgaa
open Go.RowKit
set_option linter.unusedSimpArgs false
theorem wpList_appLA {P : Program} (w : World) {ops : Array Oper} {rest : List Oper} {o : Oper} {a : Act} {Q : Exit → Act → World → Prop} (hgd : o.guard = none) (s x : Operand) (t : TypeId)
    (ho : o.op = .call { callee := .builtin .append, args := #[s, x], argTypes := #[t, t] }) (base : Nat) (e : TypeId) (hu : P.underlying t = some (.slice e)) (z : Value) (by_ : Nat)
    (hinfo : (P.info? e).map (fun i => (i.zero, i.size, i.bytes)) = some (some z, 1, by_)) (hz : z.cells.size = 1) (hby : by_ ≤ 24) (v : Value) (n : Nat) (flat : List Value) (hs : a.eval s = v) (hown : w.ownsRow base e 1 v n flat)
    (u : Value) (hu1 : u.oneCell' = true) (T : TypeId) (c : Nat) (hx : a.eval x = .slice (some ⟨w.heap.size, 0, none⟩) 1 c) (hn : n ≤ 1048576) (hb : base ≤ w.heap.size)
    (h : ∀ v' w', w'.ownsRow base e 1 v' (n + 1) (flat ++ [u]) → w.grownBy w' v.ownBlock → (v'.ownBlock = v.ownBlock ∨ v'.ownBlock = some (w.heap.size + 1)) → wpList P ops Q rest (a.put o.dst v') w') :
    wpList P ops Q (o :: rest) a (w.alloc (.cells #[u] T)) := by
  obtain ⟨i0, hi, hz0, hz1, hz2⟩ := info_parts hinfo
  refine wpList_append_own_at _ hgd s x t ho base e i0 z 1 by_ hu hi hz0 hz1 hz2 hz (by decide) v n flat hs (hown.alloc _) ⟨w.heap.size, 0, none⟩ 1 c [u] hx rfl ?_ ?_ ?_ ?_ ?_ ?_
  · intro j u' hj
    match j, hj with
    | 0, hj => simp at hj; subst hj; simp [Addr.add]
  · intro u' hu'; simp at hu'; subst hu'; exact hu1
  · unfold maxLen; omega
  · have : (n + 1) * by_ ≤ (n + 1) * 24 := Nat.mul_le_mul_left _ hby
    omega
  · simp; omega
  · intro v' w' h1 h2 _ h4
    exact h v' w' h1 (grown_of_alloc h2) (by simpa using h4)
set_option maxHeartbeats 3200000 in
theorem specWorldNew_c (s p b : Int) (w : World) (hp0 : -1 ≤ p) (hp1 : p ≤ 100) : Calls Try.prog 15 #[.int .i64 s, .int .i64 p, .int .i64 b] w (WnP s p b w) := by
  have HP := Lib.hid (show ∀ e w' (s' b' k : Int) (n : Nat) (vF vL vA vN : Value), e = .returned (.tuple #[.agg #[.int .i64 s', .int .i64 b', vF, vL, vA, vN], .bool (sv s p b)]) → FsR w' vF n k → AsR w' vA n → Em vL → Em vN → (sv s p b = true → s' = s ∧ b' = b ∧ k = hpub s ∧ (n : Int) = p) → (sv s p b = false → s' = 0 ∧ b' = 0 ∧ k = 0 ∧ n = 0) → Below w.heap.size w w' → WnP s p b w e w' from
    fun _ _ s' b' k n vF vL vA vN h1 h2 h3 h4 h5 h6 h7 h8 => ⟨s', b', k, n, vF, vL, vA, vN, h1, h2, h3, h4, h5, h6, h7, h8⟩)
  obtain ⟨W0, hW0⟩ : ∃ W0, W0 = w.alloc (.cells #[.int .i64 0, .int .i64 0, .slice none 0 0, .slice none 0 0, .slice none 0 0, .slice none 0 0] 30) := ⟨_, rfl⟩
  have hB0 : Below w.heap.size w W0 := by rw [hW0]; (repeat' (first | exact Below.refl _ _ | assumption | refine Below.drew ?_ | refine below_drewN ?_ _ | refine Below.alloc ?_ (by omega) _ | refine Below.alloc ?_ (by simp; omega) _ | refine Below.alloc ?_ (by simp) _ | refine Below.setCell ?_ (by omega) _ | refine Below.setCell ?_ (by simp; omega) _ | refine Below.setCell ?_ (by simp) _))
  have hS0 : W0.heap.size = w.heap.size + 1 := by rw [hW0]; simp
  have r0 : W0.cell? ⟨w.heap.size, 0, none⟩ = some (.int .i64 0) := by rw [hW0]; exact cell_new rfl rfl
  have r1 : W0.cell? ⟨w.heap.size, 1, none⟩ = some (.int .i64 0) := by rw [hW0]; exact cell_new rfl rfl
  have r2 : W0.cell? ⟨w.heap.size, 2, none⟩ = some (.slice none 0 0) := by rw [hW0]; exact cell_new rfl rfl
  have r3 : W0.cell? ⟨w.heap.size, 3, none⟩ = some (.slice none 0 0) := by rw [hW0]; exact cell_new rfl rfl
  have r4 : W0.cell? ⟨w.heap.size, 4, none⟩ = some (.slice none 0 0) := by rw [hW0]; exact cell_new rfl rfl
  have r5 : W0.cell? ⟨w.heap.size, 5, none⟩ = some (.slice none 0 0) := by rw [hW0]; exact cell_new rfl rfl
  have fr : ∀ o, W0.frozen? ⟨w.heap.size, o, none⟩ = false := by intro o; rw [hW0]; exact frozen_new rfl
  have HS0 := Lib.hid hS0
  have HB0 := Lib.hid hB0
  clear hB0 hS0
  have K1 := Lib.hid (fun W => l3Key_c s W)
  have K2 := Lib.hid (fun W => l6In_c p 1 6 W)
  have K3 := Lib.hid (fun W => l6In_c b 1 (p - 1) W)
  have HE := Lib.hid (show sv s p b = (inB 1 996 s && (inB 1 6 p && ((b == -1) || inB 1 (p - 1) b))) from rfl)
  have HIN := Lib.hid (show inB 1 996 s = true → inB 1 6 p = true → inB 1 996 s = true ∧ 1 ≤ p ∧ p ≤ 6 from fun h1 h2 => ⟨h1, (inB_iff.1 h2).1, (inB_iff.1 h2).2⟩)
  obtain ⟨q1, hq1⟩ : ∃ q, inB 1 996 s = q := ⟨_, rfl⟩
  obtain ⟨q2, hq2⟩ : ∃ q, inB 1 6 p = q := ⟨_, rfl⟩
  obtain ⟨q3, hq3⟩ : ∃ q, inB 1 (p - 1) b = q := ⟨_, rfl⟩
  have HPI := Lib.hid (show q1 = true → inB 1 996 (hpub s) = true from fun h => hpub_in (hq1.trans h))
  rw [hq1] at K1 HE HIN
  rw [hq2] at K2 HE HIN
  rw [hq3] at K3 HE
  clear hq1 hq2 hq3
  cases q1
  · have HV := Lib.hid (show sv s p b = false by rw [HE.out]; rfl)
    go_enter Try.func15, Try.ntmps15
    go_wp2_with fail
    rw [← hW0]
    clear hW0
    refine (K1.out _).mono ?_
    rintro e w' ⟨rfl, rfl⟩
    go_wp2
    refine bodyPost_ret (v := .tuple #[.agg #[.int .i64 0, .int .i64 0, .slice none 0 0, .slice none 0 0, .slice none 0 0, .slice none 0 0], .bool false]) (by simp [results, Try.results15, go_sem, r0, r1, r2, r3, r4, r5]) rfl ?_
    exact HP.out _ _ 0 0 0 0 _ _ _ _ (by rw [HV.out]) (FsR.nil _ _ Em.nil) (AsR.nil _ Em.nil) Em.nil Em.nil (fun h => absurd (h.symm.trans HV.out) (by simp)) (fun _ => ⟨rfl, rfl, rfl, rfl⟩) ((((((HB0.out.setCell (Nat.le_refl _) _).setCell (Nat.le_refl _) _).setCell (Nat.le_refl _) _).setCell (Nat.le_refl _) _).setCell (Nat.le_refl _) _).setCell (Nat.le_refl _) _)
  · cases q2
    · have HV := Lib.hid (show sv s p b = false by rw [HE.out]; rfl)
      go_enter Try.func15, Try.ntmps15
      go_wp2_with fail
      rw [← hW0]
      clear hW0
      refine (K1.out _).mono ?_
      rintro e w' ⟨rfl, rfl⟩
      go_wp2_with fail
      refine (K2.out _).mono ?_
      rintro e w' ⟨rfl, rfl⟩
      go_wp2
      refine bodyPost_ret (v := .tuple #[.agg #[.int .i64 0, .int .i64 0, .slice none 0 0, .slice none 0 0, .slice none 0 0, .slice none 0 0], .bool false]) (by simp [results, Try.results15, go_sem, r0, r1, r2, r3, r4, r5]) rfl ?_
      exact HP.out _ _ 0 0 0 0 _ _ _ _ (by rw [HV.out]) (FsR.nil _ _ Em.nil) (AsR.nil _ Em.nil) Em.nil Em.nil (fun h => absurd (h.symm.trans HV.out) (by simp)) (fun _ => ⟨rfl, rfl, rfl, rfl⟩) ((((((HB0.out.setCell (Nat.le_refl _) _).setCell (Nat.le_refl _) _).setCell (Nat.le_refl _) _).setCell (Nat.le_refl _) _).setCell (Nat.le_refl _) _).setCell (Nat.le_refl _) _)
    · obtain ⟨hk1, hk2, hk3⟩ := HIN.out (by trivial) (by trivial)
      obtain ⟨n, hnp⟩ : ∃ n : Nat, (n : Int) = p := ⟨p.toNat, by omega⟩
      have hn6 : n ≤ 6 := by omega
      have HK := Lib.hid (HPI.out (by trivial))
      have HNPk := Lib.hid (show np (hpub s) = hpub s by unfold np; rw [if_pos HK.out])
      subst hnp
      clear hk1 hk2 hk3 HIN HPI
      obtain ⟨W2, hW2⟩ : ∃ W2, W2 = ((W0.alloc (.cells #[] 83)).alloc (.cells #[] 85)).alloc (.cells #[.int .i64 s, .int .i64 b, .slice none 0 0, .slice (some ⟨W0.heap.size, 0, none⟩) 0 0, .slice none 0 0, .slice (some ⟨W0.heap.size + 1, 0, none⟩) 0 0] 30) := ⟨_, rfl⟩
      have hb02 : Below W0.heap.size W0 W2 := by rw [hW2]; (repeat' (first | exact Below.refl _ _ | assumption | refine Below.drew ?_ | refine below_drewN ?_ _ | refine Below.alloc ?_ (by omega) _ | refine Below.alloc ?_ (by simp; omega) _ | refine Below.alloc ?_ (by simp) _ | refine Below.setCell ?_ (by omega) _ | refine Below.setCell ?_ (by simp; omega) _ | refine Below.setCell ?_ (by simp) _))
      obtain ⟨kk, hkk⟩ : ∃ kk, hpub s = kk := ⟨_, rfl⟩
      have HKK := Lib.hid hkk
      have D : Hid (Wt w W2 w.heap.size (W0.heap.size + 2) W0.heap.size s b kk (.slice none 0 0) (.slice (some ⟨W0.heap.size, 0, none⟩) 0 0) (.slice none 0 0) (.slice (some ⟨W0.heap.size + 1, 0, none⟩) 0 0) [] []) := Lib.hid
        ⟨⟨by rw [hW2]; exact cell_new (by simp) rfl, by rw [hW2]; exact cell_new (by simp) rfl, by rw [hW2]; exact cell_new (by simp) rfl, by rw [hW2]; exact cell_new (by simp) rfl, by rw [hW2]; exact cell_new (by simp) rfl, by rw [hW2]; exact cell_new (by simp) rfl, fun o => by rw [hW2]; exact frozen_new (by simp),
          cell_keep hb02 r0, cell_keep hb02 r1, cell_keep hb02 r2, cell_keep hb02 r3, cell_keep hb02 r4, cell_keep hb02 r5, fun o => (below_frozen (a := ⟨w.heap.size, o, none⟩) hb02 (by have := HS0.out; show w.heap.size < _; omega)).trans (fr o)⟩,
          own_nil _ _ _ _, own_nil _ _ _ _, .inl rfl, by simp [Value.ownBlock], by simp [Value.ownBlock], fun x hx => (by cases hx), fun x hx => (by cases hx), ⟨_, 0, rfl, by simp [maxLen]⟩, ⟨_, 0, rfl, by simp [maxLen]⟩, HB0.out.trans (hb02.mono HB0.out.size), Nat.le_refl _, by rw [HS0.out]; omega, by have := HS0.out; omega, by have := HS0.out; omega, by rw [hW2]; simp, hb02.size⟩
      rw [hkk] at HK HNPk
      cases hbm : (b == -1)
      · rw [hbm] at HE
        cases q3
        · have HV := Lib.hid (show sv s n b = false by rw [HE.out]; rfl)
          have hbn : (b != -1) = true := by rw [bne, hbm]; rfl
          clear hb02 hkk D hW2
          go_enter Try.func15, Try.ntmps15
          go_wp2_with fail
          rw [← hW0]
          clear hW0
          refine (K1.out _).mono ?_
          rintro e w' ⟨rfl, rfl⟩
          go_wp2_with fail
          refine (K2.out _).mono ?_
          rintro e w' ⟨rfl, rfl⟩
          go_wp2_with fail
          refine (K3.out _).mono ?_
          rintro e w' ⟨rfl, rfl⟩
          go_wp2
          refine bodyPost_ret (v := .tuple #[.agg #[.int .i64 0, .int .i64 0, .slice none 0 0, .slice none 0 0, .slice none 0 0, .slice none 0 0], .bool false]) (by simp [results, Try.results15, go_sem, r0, r1, r2, r3, r4, r5]) rfl ?_
          exact HP.out _ _ 0 0 0 0 _ _ _ _ (by rw [HV.out]) (FsR.nil _ _ Em.nil) (AsR.nil _ Em.nil) Em.nil Em.nil (fun h => absurd (h.symm.trans HV.out) (by simp)) (fun _ => ⟨rfl, rfl, rfl, rfl⟩) ((((((HB0.out.setCell (Nat.le_refl _) _).setCell (Nat.le_refl _) _).setCell (Nat.le_refl _) _).setCell (Nat.le_refl _) _).setCell (Nat.le_refl _) _).setCell (Nat.le_refl _) _)
        · have HV := Lib.hid (show sv s n b = true by rw [HE.out]; rfl)
          have hbn : (b != -1) = true := by rw [bne, hbm]; rfl
          clear hb02 hkk
          go_enter Try.func15, Try.ntmps15
          go_wp2_with fail
          rw [← hW0]
          clear hW0
          refine (K1.out _).mono ?_
          rintro e w' ⟨rfl, rfl⟩
          go_wp2_with fail
          refine (K2.out _).mono ?_
          rintro e w' ⟨rfl, rfl⟩
          go_wp2_with fail
          refine (K3.out _).mono ?_
          rintro e w' ⟨rfl, rfl⟩
          clear fr r0 r1 r2 r3 r4 r5
          go_upto_region 4 with (fail)
          rw [← hW2]
          clear hW2
          go_wp2
          go_loopw [9, 10, 11] (fun i _ _ wr => ∃ (k : Nat) (l : List (Value × Value)) (la : List Value) (vF vA : Value), k ≤ n ∧ i = .int .i64 k ∧ l.length = k ∧ la.length = k ∧ Hid (Wt w wr w.heap.size (W0.heap.size + 2) W0.heap.size s b kk vF (.slice (some ⟨W0.heap.size, 0, none⟩) 0 0) vA (.slice (some ⟨W0.heap.size + 1, 0, none⟩) 0 0) l la)) (fun i _ _ _ => n - (intOf i).toNat)
          case atStart => exact ⟨0, [], [], _, _, Nat.zero_le _, rfl, rfl, rfl, D⟩
          case round =>
            obtain ⟨k, l, la, vF, vA, hk, rfl, hl, hla, D⟩ := hrel
            by_cases hlt : k < n
            · have hlti : (k : Int) < (n : Int) := by omega
              go_wp2_with fail
              refine (headPub_d s _).mono ?_
              rintro e w' ⟨rfl, rfl⟩
              rw [HKK.out]
              go_wp2_with fail
              refine (specNew_c kk _).mono ?_
              rintro e w3 ⟨vb, vh, rfl, o1, o2, -, hb3⟩
              rw [HNPk.out, HK.out]
              have E1 := Lib.hid (Em.own o1)
              have E2 := Lib.hid (Em.own o2)
              obtain ⟨ab, cb, rfl⟩ := own_slice o1
              obtain ⟨ah, ch, rfl⟩ := own_slice o2
              obtain ⟨W4, hW4⟩ : ∃ W4, W4 = w3.alloc (.cells #[.int .i64 kk, .int .i64 0, .int .i64 0, .int .i64 0, .slice ab 0 cb, .slice ah 0 ch] 39) := ⟨_, rfl⟩
              have hb4 : Below w3.heap.size w3 W4 := by rw [hW4]; (repeat' (first | exact Below.refl _ _ | assumption | refine Below.drew ?_ | refine below_drewN ?_ _ | refine Below.alloc ?_ (by omega) _ | refine Below.alloc ?_ (by simp; omega) _ | refine Below.alloc ?_ (by simp) _ | refine Below.setCell ?_ (by omega) _ | refine Below.setCell ?_ (by simp; omega) _ | refine Below.setCell ?_ (by simp) _))
              have D4 := Lib.hid ((D.out.below hb3).below hb4)
              have y0 : W4.cell? ⟨w3.heap.size, 0, none⟩ = some (.int .i64 kk) := by rw [hW4]; exact cell_new rfl rfl
              have y1 : W4.cell? ⟨w3.heap.size, 1, none⟩ = some (.int .i64 0) := by rw [hW4]; exact cell_new rfl rfl
              have y2 : W4.cell? ⟨w3.heap.size, 2, none⟩ = some (.int .i64 0) := by rw [hW4]; exact cell_new rfl rfl
              have y3 : W4.cell? ⟨w3.heap.size, 3, none⟩ = some (.int .i64 0) := by rw [hW4]; exact cell_new rfl rfl
              have y4 : W4.cell? ⟨w3.heap.size, 4, none⟩ = some (.slice ab 0 cb) := by rw [hW4]; exact cell_new rfl rfl
              have y5 : W4.cell? ⟨w3.heap.size, 5, none⟩ = some (.slice ah 0 ch) := by rw [hW4]; exact cell_new rfl rfl
              have x2 := D4.out.ww.x2
              have HL := Lib.hid (And.intro hl hla)
              clear o1 o2 hb3 hb4 D hl hla
              go_upto_region 8 with (fail)
              rw [← hW4]
              clear hW4
              go_wp2_with (at_builtin; refine wpList_appF _ rfl _ _ 25 rfl Try.underlying25 W0.heap.size _ kk l l.length rfl D4.out.oF _ _ E1.out E2.out _ _ rfl (by have := HL.out.1; omega) D4.out.bl ?_)
              intro v5 w5 ho5 hg5 hl5
              obtain ⟨p5, c5, rfl⟩ := own_slice ho5
              have D5 := Lib.hid (D4.out.addF ho5 hg5 hl5 E1.out E2.out)
              have fx : w5.frozen? ⟨W0.heap.size + 2, 2, none⟩ = false := by have := D5.out.ww.fx 2; rwa [World.frozen?_setCell] at this
              have x2 : w5.cell? ⟨W0.heap.size + 2, 2, none⟩ = some vF := grown_cell hg5 x2 (fun e => D4.out.nF e.symm)
              clear ho5 hg5 hl5 D4 y0 y1 y2 y3 y4 y5
              go_upto_region 9 with (fail)
              obtain ⟨W6, hW6⟩ : ∃ W6, W6 = w5.setCell ⟨W0.heap.size + 2, 2, none⟩ (.slice p5 (l.length + 1) c5) := ⟨_, rfl⟩
              rw [← hW6] at D5 ⊢
              clear hW6 fx x2
              obtain ⟨W7, hW7⟩ : ∃ W7, W7 = W6.alloc (.cells #[] 115) := ⟨_, rfl⟩
              have hb7 : Below W6.heap.size W6 W7 := by rw [hW7]; (repeat' (first | exact Below.refl _ _ | assumption | refine Below.drew ?_ | refine below_drewN ?_ _ | refine Below.alloc ?_ (by omega) _ | refine Below.alloc ?_ (by simp; omega) _ | refine Below.alloc ?_ (by simp) _ | refine Below.setCell ?_ (by omega) _ | refine Below.setCell ?_ (by simp; omega) _ | refine Below.setCell ?_ (by simp) _))
              have D7 := Lib.hid (D5.out.below hb7)
              have E7 := Lib.hid (show Em (.slice (some ⟨W6.heap.size, 0, none⟩) 0 0) from ⟨_, 0, rfl, by simp [maxLen]⟩)
              have x4 := D5.out.ww.x4
              have x4b : (W6.alloc (.cells #[] 115)).cell? ⟨W0.heap.size + 2, 4, none⟩ = some vA := cell_keep ((Below.refl _ _).alloc (Nat.le_refl _) _) x4
              have hs7 : W7.heap.size = W6.heap.size + 1 := by rw [hW7]; simp
              have HS7 := Lib.hid hs7
              clear hb7 hs7
              go_wp2_with (at_builtin; rw [← hW7]; refine wpList_appLA _ rfl _ _ 27 rfl W0.heap.size 80 Try.underlying27 (.slice none 0 0) 24 info_asks rfl (by omega) _ la.length la rfl D7.out.oA (.slice (some ⟨W6.heap.size, 0, none⟩) 0 0) rfl _ _ (by rw [HS7.out]; rfl) (by have := HL.out.2; omega) D7.out.bl ?_)
              intro v8 w8 ho8 hg8 hl8
              have hg8 : W7.grownBy w8 vA.ownBlock := by rw [hW7]; exact hg8
              have hl8 : v8.ownBlock = vA.ownBlock ∨ v8.ownBlock = some (W7.heap.size + 1) := by rw [HS7.out]; exact hl8
              obtain ⟨p8, c8, rfl⟩ := own_slice ho8
              have D8 := Lib.hid (D7.out.addA ho8 hg8 hl8 E7.out)
              have fx : w8.frozen? ⟨W0.heap.size + 2, 4, none⟩ = false := by have := D8.out.ww.fx 4; rwa [World.frozen?_setCell] at this
              have x4 : w8.cell? ⟨W0.heap.size + 2, 4, none⟩ = some vA := grown_cell hg8 D7.out.ww.x4 (fun e => D7.out.nA e.symm)
              clear ho8 hg8 hl8 D7 D5 x4b hW7
              go_wp2
              go_roundw
              case rel => first | exact ⟨k + 1, l ++ [(.slice ab 0 cb, .slice ah 0 ch)], la ++ [.slice (some ⟨W6.heap.size, 0, none⟩) 0 0], _, _, by omega, by go_num, by simp [HL.out.1], by simp [HL.out.2], D8⟩ | exact ⟨_, _, k + 1, l ++ [(.slice ab 0 cb, .slice ah 0 ch)], la ++ [.slice (some ⟨W6.heap.size, 0, none⟩) 0 0], _, _, by omega, by go_num, by simp [HL.out.1], by simp [HL.out.2], D8⟩
              case measure => simp [intOf]; omega
            · obtain rfl : k = n := by omega
              have HLA := Lib.hid (show la.length = l.length by rw [hla, hl])
              have HLP := Lib.hid (show (l.length : Int) = (k : Int) by rw [hl])
              clear hl hla
              obtain ⟨aF, cF, rfl⟩ := own_slice D.out.oF
              obtain ⟨aA, cA, rfl⟩ := own_slice D.out.oA
              have x0 := D.out.ww.x0
              have x1 := D.out.ww.x1
              have x2 := D.out.ww.x2
              have x3 := D.out.ww.x3
              have x4 := D.out.ww.x4
              have x5 := D.out.ww.x5
              have r0 := D.out.ww.r0
              have r1 := D.out.ww.r1
              have r2 := D.out.ww.r2
              have r3 := D.out.ww.r3
              have r4 := D.out.ww.r4
              have r5 := D.out.ww.r5
              have fr := D.out.ww.fr
              go_wp2
              refine bodyPost_ret (v := .tuple #[.agg #[.int .i64 s, .int .i64 b, .slice aF l.length cF, .slice (some ⟨W0.heap.size, 0, none⟩) 0 0, .slice aA la.length cA, .slice (some ⟨W0.heap.size + 1, 0, none⟩) 0 0], .bool true]) (by simp [results, Try.results15, go_sem, r0, r1, r2, r3, r4, r5]) rfl ?_
              exact HP.out _ _ s b kk l.length _ _ (.slice aA la.length cA) _ (by rw [HV.out]) D.out.out.1 (by rw [← HLA.out]; exact D.out.out.2.1) D.out.eL D.out.eN (fun _ => ⟨rfl, rfl, HKK.out.symm, HLP.out⟩) (fun h => absurd (h.symm.trans HV.out) (by simp)) D.out.out.2.2
      · rw [hbm] at HE
        have HV := Lib.hid (show sv s n b = true by rw [HE.out]; rfl)
        have hbn : (b != -1) = false := by rw [bne, hbm]; rfl
        clear hb02 hkk
        go_enter Try.func15, Try.ntmps15
        go_wp2_with fail
        rw [← hW0]
        clear hW0
        refine (K1.out _).mono ?_
        rintro e w' ⟨rfl, rfl⟩
        go_wp2_with fail
        refine (K2.out _).mono ?_
        rintro e w' ⟨rfl, rfl⟩
        clear fr r0 r1 r2 r3 r4 r5
        go_upto_region 4 with (fail)
        rw [← hW2]
        clear hW2
        go_wp2
        go_loopw [9, 10, 11] (fun i _ _ wr => ∃ (k : Nat) (l : List (Value × Value)) (la : List Value) (vF vA : Value), k ≤ n ∧ i = .int .i64 k ∧ l.length = k ∧ la.length = k ∧ Hid (Wt w wr w.heap.size (W0.heap.size + 2) W0.heap.size s b kk vF (.slice (some ⟨W0.heap.size, 0, none⟩) 0 0) vA (.slice (some ⟨W0.heap.size + 1, 0, none⟩) 0 0) l la)) (fun i _ _ _ => n - (intOf i).toNat)
        case atStart => exact ⟨0, [], [], _, _, Nat.zero_le _, rfl, rfl, rfl, D⟩
        case round =>
          obtain ⟨k, l, la, vF, vA, hk, rfl, hl, hla, D⟩ := hrel
          by_cases hlt : k < n
          · have hlti : (k : Int) < (n : Int) := by omega
            go_wp2_with fail
            refine (headPub_d s _).mono ?_
            rintro e w' ⟨rfl, rfl⟩
            rw [HKK.out]
            go_wp2_with fail
            refine (specNew_c kk _).mono ?_
            rintro e w3 ⟨vb, vh, rfl, o1, o2, -, hb3⟩
            rw [HNPk.out, HK.out]
            have E1 := Lib.hid (Em.own o1)
            have E2 := Lib.hid (Em.own o2)
            obtain ⟨ab, cb, rfl⟩ := own_slice o1
            obtain ⟨ah, ch, rfl⟩ := own_slice o2
            obtain ⟨W4, hW4⟩ : ∃ W4, W4 = w3.alloc (.cells #[.int .i64 kk, .int .i64 0, .int .i64 0, .int .i64 0, .slice ab 0 cb, .slice ah 0 ch] 39) := ⟨_, rfl⟩
            have hb4 : Below w3.heap.size w3 W4 := by rw [hW4]; (repeat' (first | exact Below.refl _ _ | assumption | refine Below.drew ?_ | refine below_drewN ?_ _ | refine Below.alloc ?_ (by omega) _ | refine Below.alloc ?_ (by simp; omega) _ | refine Below.alloc ?_ (by simp) _ | refine Below.setCell ?_ (by omega) _ | refine Below.setCell ?_ (by simp; omega) _ | refine Below.setCell ?_ (by simp) _))
            have D4 := Lib.hid ((D.out.below hb3).below hb4)
            have y0 : W4.cell? ⟨w3.heap.size, 0, none⟩ = some (.int .i64 kk) := by rw [hW4]; exact cell_new rfl rfl
            have y1 : W4.cell? ⟨w3.heap.size, 1, none⟩ = some (.int .i64 0) := by rw [hW4]; exact cell_new rfl rfl
            have y2 : W4.cell? ⟨w3.heap.size, 2, none⟩ = some (.int .i64 0) := by rw [hW4]; exact cell_new rfl rfl
            have y3 : W4.cell? ⟨w3.heap.size, 3, none⟩ = some (.int .i64 0) := by rw [hW4]; exact cell_new rfl rfl
            have y4 : W4.cell? ⟨w3.heap.size, 4, none⟩ = some (.slice ab 0 cb) := by rw [hW4]; exact cell_new rfl rfl
            have y5 : W4.cell? ⟨w3.heap.size, 5, none⟩ = some (.slice ah 0 ch) := by rw [hW4]; exact cell_new rfl rfl
            have x2 := D4.out.ww.x2
            have HL := Lib.hid (And.intro hl hla)
            clear o1 o2 hb3 hb4 D hl hla
            go_upto_region 8 with (fail)
            rw [← hW4]
            clear hW4
            go_wp2_with (at_builtin; refine wpList_appF _ rfl _ _ 25 rfl Try.underlying25 W0.heap.size _ kk l l.length rfl D4.out.oF _ _ E1.out E2.out _ _ rfl (by have := HL.out.1; omega) D4.out.bl ?_)
            intro v5 w5 ho5 hg5 hl5
            obtain ⟨p5, c5, rfl⟩ := own_slice ho5
            have D5 := Lib.hid (D4.out.addF ho5 hg5 hl5 E1.out E2.out)
            have fx : w5.frozen? ⟨W0.heap.size + 2, 2, none⟩ = false := by have := D5.out.ww.fx 2; rwa [World.frozen?_setCell] at this
            have x2 : w5.cell? ⟨W0.heap.size + 2, 2, none⟩ = some vF := grown_cell hg5 x2 (fun e => D4.out.nF e.symm)
            clear ho5 hg5 hl5 D4 y0 y1 y2 y3 y4 y5
            go_upto_region 9 with (fail)
            obtain ⟨W6, hW6⟩ : ∃ W6, W6 = w5.setCell ⟨W0.heap.size + 2, 2, none⟩ (.slice p5 (l.length + 1) c5) := ⟨_, rfl⟩
            rw [← hW6] at D5 ⊢
            clear hW6 fx x2
            obtain ⟨W7, hW7⟩ : ∃ W7, W7 = W6.alloc (.cells #[] 115) := ⟨_, rfl⟩
            have hb7 : Below W6.heap.size W6 W7 := by rw [hW7]; (repeat' (first | exact Below.refl _ _ | assumption | refine Below.drew ?_ | refine below_drewN ?_ _ | refine Below.alloc ?_ (by omega) _ | refine Below.alloc ?_ (by simp; omega) _ | refine Below.alloc ?_ (by simp) _ | refine Below.setCell ?_ (by omega) _ | refine Below.setCell ?_ (by simp; omega) _ | refine Below.setCell ?_ (by simp) _))
            have D7 := Lib.hid (D5.out.below hb7)
            have E7 := Lib.hid (show Em (.slice (some ⟨W6.heap.size, 0, none⟩) 0 0) from ⟨_, 0, rfl, by simp [maxLen]⟩)
            have x4 := D5.out.ww.x4
            have x4b : (W6.alloc (.cells #[] 115)).cell? ⟨W0.heap.size + 2, 4, none⟩ = some vA := cell_keep ((Below.refl _ _).alloc (Nat.le_refl _) _) x4
            have hs7 : W7.heap.size = W6.heap.size + 1 := by rw [hW7]; simp
            have HS7 := Lib.hid hs7
            clear hb7 hs7
            go_wp2_with (at_builtin; rw [← hW7]; refine wpList_appLA _ rfl _ _ 27 rfl W0.heap.size 80 Try.underlying27 (.slice none 0 0) 24 info_asks rfl (by omega) _ la.length la rfl D7.out.oA (.slice (some ⟨W6.heap.size, 0, none⟩) 0 0) rfl _ _ (by rw [HS7.out]; rfl) (by have := HL.out.2; omega) D7.out.bl ?_)
            intro v8 w8 ho8 hg8 hl8
            have hg8 : W7.grownBy w8 vA.ownBlock := by rw [hW7]; exact hg8
            have hl8 : v8.ownBlock = vA.ownBlock ∨ v8.ownBlock = some (W7.heap.size + 1) := by rw [HS7.out]; exact hl8
            obtain ⟨p8, c8, rfl⟩ := own_slice ho8
            have D8 := Lib.hid (D7.out.addA ho8 hg8 hl8 E7.out)
            have fx : w8.frozen? ⟨W0.heap.size + 2, 4, none⟩ = false := by have := D8.out.ww.fx 4; rwa [World.frozen?_setCell] at this
            have x4 : w8.cell? ⟨W0.heap.size + 2, 4, none⟩ = some vA := grown_cell hg8 D7.out.ww.x4 (fun e => D7.out.nA e.symm)
            clear ho8 hg8 hl8 D7 D5 x4b hW7
            go_wp2
            go_roundw
            case rel => first | exact ⟨k + 1, l ++ [(.slice ab 0 cb, .slice ah 0 ch)], la ++ [.slice (some ⟨W6.heap.size, 0, none⟩) 0 0], _, _, by omega, by go_num, by simp [HL.out.1], by simp [HL.out.2], D8⟩ | exact ⟨_, _, k + 1, l ++ [(.slice ab 0 cb, .slice ah 0 ch)], la ++ [.slice (some ⟨W6.heap.size, 0, none⟩) 0 0], _, _, by omega, by go_num, by simp [HL.out.1], by simp [HL.out.2], D8⟩
            case measure => simp [intOf]; omega
          · obtain rfl : k = n := by omega
            have HLA := Lib.hid (show la.length = l.length by rw [hla, hl])
            have HLP := Lib.hid (show (l.length : Int) = (k : Int) by rw [hl])
            clear hl hla
            obtain ⟨aF, cF, rfl⟩ := own_slice D.out.oF
            obtain ⟨aA, cA, rfl⟩ := own_slice D.out.oA
            have x0 := D.out.ww.x0
            have x1 := D.out.ww.x1
            have x2 := D.out.ww.x2
            have x3 := D.out.ww.x3
            have x4 := D.out.ww.x4
            have x5 := D.out.ww.x5
            have r0 := D.out.ww.r0
            have r1 := D.out.ww.r1
            have r2 := D.out.ww.r2
            have r3 := D.out.ww.r3
            have r4 := D.out.ww.r4
            have r5 := D.out.ww.r5
            have fr := D.out.ww.fr
            go_wp2
            refine bodyPost_ret (v := .tuple #[.agg #[.int .i64 s, .int .i64 b, .slice aF l.length cF, .slice (some ⟨W0.heap.size, 0, none⟩) 0 0, .slice aA la.length cA, .slice (some ⟨W0.heap.size + 1, 0, none⟩) 0 0], .bool true]) (by simp [results, Try.results15, go_sem, r0, r1, r2, r3, r4, r5]) rfl ?_
            exact HP.out _ _ s b kk l.length _ _ (.slice aA la.length cA) _ (by rw [HV.out]) D.out.out.1 (by rw [← HLA.out]; exact D.out.out.2.1) D.out.eL D.out.eN (fun _ => ⟨rfl, rfl, HKK.out.symm, HLP.out⟩) (fun h => absurd (h.symm.trans HV.out) (by simp)) D.out.out.2.2
end Go.Proofs.Ytbjndbaljenlgaa
