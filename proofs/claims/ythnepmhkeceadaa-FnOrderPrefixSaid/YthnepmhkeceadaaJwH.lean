/- Walks: JoinOrder of the program. -/
import Derived.Test.YthnepmhkeceadaaJwG
import Derived.Test.YthnepmhkeceadaaOw
namespace Go.Proofs.Ythnepmhkeceadaa
open Go.RowKit
theorem rdy_congr {F : Fd} {p q : Nat → Nat} {w : Nat} (hw : w < 3) (h : ∀ v, v < 3 → p v = q v) : Rdy F p w ↔ Rdy F q w := by
  unfold Rdy
  rw [h w hw]
  constructor
  · rintro ⟨a, b⟩; exact ⟨a, fun v hv => by rw [← h v hv]; exact b v hv⟩
  · rintro ⟨a, b⟩; exact ⟨a, fun v hv => by rw [h v hv]; exact b v hv⟩
theorem rdB_tri (F : Fd) (p : Nat → Nat) {w : Nat} (hw : w < 3) : rdB F (tri (p 0) (p 1) (p 2)) w = rdB F p w := by
  have := rdy_congr (F := F) hw (fun v hv => tri_p p v hv)
  unfold rdB
  simp [this]
theorem ready_c {S : Nat → Prop} (F : Fd) (fv : Value) (p : Nat → Nat) (v : Nat) (W : World) (h : RdF S W fv F) (hj : JV F) (hv : v < 3) (hp : p v ≤ ln F v) :
    Calls Try.prog 55 #[fv, .agg #[.int .i64 (p 0 : Nat), .int .i64 (p 1 : Nat), .int .i64 (p 2 : Nat)], .int .i64 v] W (SeesPost (rdB F p v) W) := by
  rw [← rdB_tri F p hv]
  obtain rfl | rfl | rfl : v = 0 ∨ v = 1 ∨ v = 2 := by omega
  · exact ready0_c F fv _ _ _ W h hj hp
  · exact ready1_c F fv _ _ _ W h hj hp
  · exact ready2_c F fv _ _ _ W h hj hp
/-- the first k places of the order -/
noncomputable def ordN (F : Fd) (k : Nat) : List P2 := (List.range k).map (rf F)
theorem ordN_len (F : Fd) (k : Nat) : (ordN F k).length = k := by simp [ordN]
theorem ordN_succ (F : Fd) (k : Nat) : ordN F (k + 1) = ordN F k ++ [rf F k] := by unfold ordN; rw [List.range_succ, List.map_append]; rfl
theorem ordN_at (F : Fd) {n k : Nat} (hk : k < n) (d : P2) : (ordN F n).getD k d = rf F k := by simp [ordN, List.getD, hk]
open Classical in
noncomputable def jo (F : Fd) : List P2 := if JV F then ordN F (tot F) else []
theorem jo_t {F : Fd} (h : JV F) : jo F = ordN F (tot F) := by unfold jo; rw [if_pos h]
theorem jo_f {F : Fd} (h : ¬ JV F) : jo F = [] := by unfold jo; rw [if_neg h]
theorem tot_le {F : Fd} (h : JV F) : tot F ≤ 24 := by
  have h0 := h.2.1 0 (by omega); have h1 := h.2.1 1 (by omega); have h2 := h.2.1 2 (by omega)
  unfold tot; omega
theorem rf_of {F : Fd} {k v : Nat} (h : nxt F (pst F k) = some v) : rf F k = ((v : Int), (pst F k v : Int)) := by
  have e : wk F k = v := by unfold wk; rw [h]; rfl
  unfold rf; rw [e]
/-- append(out, x), x a struct of two ints; and where the new slice lies. -/
theorem wpList_app2_at {P : Program} (w : World) {ops : Array Oper} {rest : List Oper} {o : Oper} {a : Act} {Q : Exit → Act → World → Prop} (hgd : o.guard = none) (s x : Operand) (t : TypeId)
    (ho : o.op = .call { callee := .builtin .append, args := #[s, x], argTypes := #[t, t] }) (base : Nat) (e : TypeId) (hu : P.underlying t = some (.slice e))
    (hinfo : (P.info? e).map (fun i => (i.zero, i.size, i.bytes)) = some (some zero2, 2, 16)) (v : Value) (n : Nat) (ps : List P2) (hn : ps.length = n) (hs : a.eval s = v) (hown : w.ownsRow base e 2 v n (enc2 ps))
    (p1 p2 : Int) (T : TypeId) (c : Nat) (hx : a.eval x = .slice (some ⟨w.heap.size, 0, none⟩) 1 c) (hnm : n ≤ 1099511627776) (hb : base ≤ w.heap.size)
    (h : ∀ v' w', w'.ownsRow base e 2 v' (n + 1) (enc2 (ps ++ [(p1, p2)])) → w.grownBy w' v.ownBlock → (∀ k, v'.ownBlock = some k → v.ownBlock = some k ∨ k = w.heap.size + 1) → wpList P ops Q rest (a.put o.dst v') w') :
    wpList P ops Q (o :: rest) a (w.alloc (.cells #[.int .i64 p1, .int .i64 p2] T)) := by
  obtain ⟨i0, hi, hz0, hz1, hz2⟩ := info_parts hinfo
  refine wpList_append_own_at _ hgd s x t ho base e i0 zero2 2 16 hu hi hz0 hz1 hz2 rfl (by decide) v n (enc2 ps) hs (hown.alloc _) ⟨w.heap.size, 0, none⟩ 1 c [.int .i64 p1, .int .i64 p2] hx rfl ?_ ?_ ?_ ?_ ?_ ?_
  · intro j u hj
    match j, hj with
    | 0, hj => simp at hj; subst hj; simp [Addr.add]
    | 1, hj => simp at hj; subst hj; simp [Addr.add]
  · intro u hu; simp at hu; rcases hu with rfl | rfl <;> rfl
  · unfold maxLen; omega
  · omega
  · simp; omega
  · intro v' w' h1 h2 _ h4
    refine h v' w' ?_ (grown_of_alloc h2) (fun k hk => ?_)
    · rw [enc2_snoc]; exact h1
    · rcases h4 with h4 | h4
      · exact .inl (h4 ▸ hk)
      · rw [h4] at hk; simp at hk; exact .inr hk.symm
def lenV : Value → Nat
  | .slice _ n _ => n
  | _ => 0
/-- three cells of a block that hold numbers -/
def Cells3 (w : World) (B : Nat) (p : Nat → Nat) : Prop := ∀ u, u < 3 → w.cell? ⟨B, u, none⟩ = some (.int .i64 (p u : Nat)) ∧ w.frozen? ⟨B, u, none⟩ = false
theorem Cells3.below {w w' : World} {B : Nat} {p : Nat → Nat} (h : Cells3 w B p) (hb : Below w.heap.size w w') : Cells3 w' B p := fun u hu =>
  ⟨cell_keep hb (h u hu).1, (hb.frozen (p := ⟨B, u, none⟩) (World.block_lt_of_cell? w _ (h u hu).1)).trans (h u hu).2⟩
theorem Cells3.grown {w w' : World} {B : Nat} {p : Nat → Nat} {row : Option Nat} (h : Cells3 w B p) (hg : w.grownBy w' row) (hn : row ≠ some B) : Cells3 w' B p := fun u hu =>
  ⟨grown_cell hg (h u hu).1 (Ne.symm hn), (grown_frozen hg (World.block_lt_of_cell? w _ (h u hu).1) (Ne.symm hn)).trans (h u hu).2⟩
theorem Cells3.inc {w : World} {B : Nat} {p : Nat → Nat} (h : Cells3 w B p) {v : Nat} (hv : v < 3) {z : Int} (hz : z = (p v : Int) + 1) : Cells3 (w.setCell ⟨B, v, none⟩ (.int .i64 z)) B (inc p v) := fun u hu => by
  refine ⟨?_, by rw [World.frozen?_setCell]; exact (h u hu).2⟩
  by_cases e : u = v
  · subst e
    rw [World.cell?_setCell_same _ _ _ (h u hu).1, hz]
    simp [Proofs.Ythnepmhkeceadaa.inc]
  · rw [World.cell?_setCell_other _ _ _ _ (by intro h'; simp at h' <;> omega), (h u hu).1]
    simp [Proofs.Ythnepmhkeceadaa.inc, e]
set_option maxHeartbeats 1600000 in
theorem joinOrder_c {S : Nat → Prop} (F : Fd) (fv : Value) (W : World) (h : RdF S W fv F) :
    Calls Try.prog 26 #[fv] W (RetOwn 37 2 (jo F).length (enc2 (jo F)) W) := by
  have H := Lib.hid h
  clear h
  by_cases hj : JV F
  · have HJ := Lib.hid hj
    have HO := Lib.hid (jo_t hj)
    rw [HO.out, ordN_len]
    clear hj
    go_enter Try.func26, Try.ntmps26
    go_wp2_with fail
    refine (joinValid_c F _ _ H.out).mono ?_
    rintro e w1 ⟨rfl, hb1⟩
    rw [jvB_t HJ.out]
    have hown0 := (own_base (own_empty w1 w1.heap.size 37 2 (Nat.le_refl _)) hb1.size).alloc (.cells #[.int .i64 0, .int .i64 0, .int .i64 0] 67)
    have hbA := (hb1.alloc hb1.size (.cells #[] 37)).alloc (by have := hb1.size; simp; omega) (.cells #[.int .i64 0, .int .i64 0, .int .i64 0] 67)
    obtain ⟨w3, hw3⟩ : ∃ w3, w3 = (w1.alloc (.cells #[] 37)).alloc (.cells #[.int .i64 0, .int .i64 0, .int .i64 0] 67) := ⟨_, rfl⟩
    have HC0 : Hid (Cells3 w3 (w1.heap.size + 1) (pst F 0)) := fun u hu => by
      obtain rfl | rfl | rfl : u = 0 ∨ u = 1 ∨ u = 2 := by omega
      all_goals (rw [hw3]; simp [pst])
    have hz3 : w1.heap.size + 1 < w3.heap.size := by rw [hw3]; simp
    rw [← hw3] at hown0 hbA
    have HW3 := Lib.hid hw3
    have HZ := Lib.hid hb1.size
    clear hw3 hb1
    go_wp2
    rw [← HW3.out]
    go_loopw [3, 5] (fun o i wr => ∃ (k v : Nat), k ≤ tot F ∧ v ≤ 3 ∧ i = .int .i64 v ∧ wr.ownsRow W.heap.size 37 2 o k (enc2 (ordN F k)) ∧ Hid (Below W.heap.size W wr) ∧ Hid (Cells3 wr (w1.heap.size + 1) (pst F k)) ∧ Hid (∀ b, o.ownBlock = some b → b ≠ w1.heap.size + 1) ∧ w1.heap.size + 1 < wr.heap.size ∧ Hid (∀ u, u < v → ¬ Rdy F (pst F k) u)) (fun o i _ => (tot F - lenV o) * 4 + (3 - (intOf i).toNat))
    case atStart => exact ⟨0, 0, Nat.zero_le _, by omega, rfl, hown0, hbA, HC0, fun b hb => by simp [Value.ownBlock] at hb; omega, hz3, fun u hu => absurd hu (Nat.not_lt_zero _)⟩
    case round =>
      clear hown0 hbA HC0 hz3
      obtain ⟨k, v, hk, hv, rfl, hown, HB, HC, HN, hwz, HR⟩ := hrel
      obtain ⟨a, cap, rfl⟩ := own_slice hown
      have ht := tot_le HJ.out
      have hpl := pst_le F k v
      obtain ⟨p, hp⟩ : ∃ p, pst F k = p := ⟨_, rfl⟩
      rw [hp] at HC HR hpl
      have HP := Lib.hid hp
      clear hp
      by_cases hlt : v < 3
      · have a0 := (HC.out 0 (by omega)).1
        have a1 := (HC.out 1 (by omega)).1
        have a2 := (HC.out 2 (by omega)).1
        have hlt' : (v : Int) < 3 := by omega
        go_wp2_with fail
        refine (ready_c F _ p v _ (H.out.below HB.out) HJ.out hlt hpl).mono ?_
        rintro e w2 ⟨rfl, hb2⟩
        have HB2 := Lib.hid (HB.out.trans (hb2.mono HB.out.size))
        have HC2 := Lib.hid (HC.out.below hb2)
        have hown2 := own_below hown hb2
        have hwz2 := Nat.lt_of_lt_of_le hwz hb2.size
        clear a0 a1 a2 hown HC HB hb2 hwz
        by_cases hr : Rdy F p v
        · rw [rdB_t hr]
          have av := (HC2.out v hlt).1
          have fv' := (HC2.out v hlt).2
          have HE := Lib.hid (nxt_first hlt hr HR.out)
          have hkt : k < tot F := by
            have := sm_pst HJ.out k hk
            have hl := pst_le F k
            have h0 := hl 0; have h1 := hl 1; have h2 := hl 2
            have hrr := hr.1
            rw [← HP.out] at hrr
            unfold sm at this
            unfold tot at *
            obtain rfl | rfl | rfl : v = 0 ∨ v = 1 ∨ v = 2 := by omega
            all_goals omega
          have hw4 : IntKind.i64.wrap ((p v : Int) + 1) = (p v : Int) + 1 := by
            rw [IntKind.wrap_i64]; have := HJ.out.2.1 v hlt; omega
          clear hr
          have hsz2 := HB2.out.size
          go_wp2_with (at_builtin; refine wpList_app2_at _ rfl _ _ 47 rfl W.heap.size 37 Try.underlying47 info_ref _ k (ordN F k) (ordN_len F k) rfl hown2 _ _ _ _ rfl (by omega) hsz2 ?_)
          intro v' w4 hown4 hg4 hloc
          have hne : (Value.slice a k cap).ownBlock ≠ some (w1.heap.size + 1) := fun e => HN.out _ e rfl
          have HB4 := Lib.hid (HB2.out.grown hg4 hsz2 (fun b hb => (hown2.lt b hb).1))
          have HC4 := Lib.hid (HC2.out.grown hg4 hne)
          have HN4 : Hid (∀ b, v'.ownBlock = some b → b ≠ w1.heap.size + 1) := fun b hb => by
            rcases hloc b hb with h1 | h1
            · exact HN.out b h1
            · omega
          have hwz4 := Nat.lt_of_lt_of_le hwz2 hg4.size
          have av := (HC4.out v hlt).1
          have fv' := (HC4.out v hlt).2
          have HX : Hid (ordN F (k + 1) = ordN F k ++ [((v : Int), (p v : Int))]) := by
            show _ = _
            rw [ordN_succ, rf_of (by rw [HP.out]; exact HE.out), HP.out]
          have HPS : Hid (pst F (k + 1) = inc p v) := by
            show _ = _
            rw [pst_succ (by rw [HP.out]; exact HE.out), HP.out]
          rw [← HX.out] at hown4
          obtain ⟨a4, cap4, rfl⟩ := own_slice hown4
          clear hown2 hg4 hloc HC2 HB2 HN hne hwz2 hsz2
          go_wp2
          go_roundw
          case rel =>
            refine ⟨k + 1, 0, by omega, by omega, rfl, ?_, HB4.out.setCell (by have := HZ.out; show _ ≤ w1.heap.size + 1; omega) _, ?_, HN4, by simpa using hwz4, fun u hu => absurd hu (Nat.not_lt_zero _)⟩
            · exact own_chg hown4 (Chg.setC (T := fun b => b = w1.heap.size + 1) (Chg.refl _ _) rfl) (fun b hb e => HN4.out b hb e)
            · rw [HPS.out]
              exact HC4.out.inc hlt (by first | rfl | omega)
          case measure => simp [intOf, lenV]; omega
        · rw [rdB_f hr]
          have hr' := Lib.hid hr
          have HR' : Hid (∀ u, u < v + 1 → ¬ Rdy F p u) := fun u hu => by
            by_cases e : u = v
            · subst e; exact hr'.out
            · exact HR.out u (by omega)
          clear hr
          go_wp2
          go_roundw
          case rel => exact ⟨k, v + 1, hk, by omega, by go_num, hown2, HB2, by rw [HP.out]; exact HC2, HN, hwz2, by rw [HP.out]; exact HR'⟩
          case measure => simp [intOf, lenV]; omega
      · obtain rfl : v = 3 := by omega
        have hkt : k = tot F := by
          by_cases e : k < tot F
          · obtain ⟨w, hw⟩ := left HJ.out (k := k) (by rw [sm_pst HJ.out k hk]; exact e)
            rw [HP.out] at hw
            have := nxt_some hw
            exact absurd this.2.1 (HR.out w this.1)
          · omega
        have HK := Lib.hid hkt
        clear hkt
        go_wp2
        go_ret
        refine ⟨_, rfl, ?_, HB.out⟩
        rw [← HK.out]
        exact hown
  · have HJ := Lib.hid hj
    have HO := Lib.hid (jo_f hj)
    rw [HO.out]
    clear hj
    go_enter Try.func26, Try.ntmps26
    go_wp2_with fail
    refine (joinValid_c F _ _ H.out).mono ?_
    rintro e w1 ⟨rfl, hb1⟩
    rw [jvB_f HJ.out]
    go_wp2
    go_ret
    exact ⟨_, rfl, World.ownsRow_nil _ _ _ _, hb1⟩
end Go.Proofs.Ythnepmhkeceadaa
