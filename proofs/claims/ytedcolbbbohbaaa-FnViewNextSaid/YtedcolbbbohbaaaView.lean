/- Contracts: ViewGet of the program and of the reference give the same: the last value of the key in an ascending view. -/
import Derived.Test.YtedcolbbbohbaaaProg
import Derived.Test.YtedcolbbbohbaaaBase
import Derived.Deep.QuietTactic
import Derived.BigQuiet
import Derived.Outline
namespace Go.Proofs.Ytedcolbbbohbaaa
open Go.RowKit
def ltAt (ps : List P2) (j : Nat) : Prop := (ps.getD j (0, 0)).1 < (ps.getD (j + 1) (0, 0)).1
instance (ps : List P2) (j : Nat) : Decidable (ltAt ps j) := inferInstanceAs (Decidable (_ < _))
def asc (ps : List P2) : Prop := ∀ j, j < ps.length - 1 → ltAt ps j
instance (ps : List P2) : Decidable (asc ps) := inferInstanceAs (Decidable (∀ j, j < ps.length - 1 → ltAt ps j))
def vgFold (key : Int) (ps : List P2) : Int × Bool := ps.foldl (fun acc p => if p.1 = key then (p.2, true) else acc) (0, false)
def vg (key : Int) (ps : List P2) : Int × Bool := if asc ps then vgFold key ps else (0, false)
theorem vgFold_snoc (key : Int) (ps : List P2) (p : P2) : vgFold key (ps ++ [p]) = if p.1 = key then (p.2, true) else vgFold key ps := by
  simp [vgFold]
theorem vg_no {key : Int} {ps : List P2} {j : Nat} (hj : j + 1 < ps.length) (h : ¬ ltAt ps j) : vg key ps = (0, false) := by
  unfold vg; rw [if_neg]; intro ha; exact h (ha j (by omega))
theorem vg_yes {key : Int} {ps : List P2} (h : ∀ j, j + 1 < ps.length → ltAt ps j) : vg key ps = vgFold key ps := by
  unfold vg; rw [if_pos]; intro j hj; exact h j (by omega)
/-- In an ascending view the first pair with the key is the only one. -/
theorem asc_lt {ps : List P2} (h : asc ps) : ∀ i j, i < j → j < ps.length → (ps.getD i (0, 0)).1 < (ps.getD j (0, 0)).1 := by
  intro i j hij hj
  induction j with
  | zero => omega
  | succ j ih =>
    have h1 := h j (by omega)
    unfold ltAt at h1
    by_cases e : i = j
    · subst e; exact h1
    · have := ih (by omega) (by omega); omega
theorem vgFold_none {key : Int} {ps : List P2} (h : ∀ i, i < ps.length → (ps.getD i (0, 0)).1 ≠ key) : vgFold key ps = (0, false) := by
  have go : ∀ n, n ≤ ps.length → vgFold key (ps.take n) = (0, false) := by
    intro n
    induction n with
    | zero => intro _; rfl
    | succ n ih => intro h2; rw [take_snoc_getD ps n (0, 0) (by omega), vgFold_snoc, if_neg (h n (by omega))]; exact ih (by omega)
  have := go ps.length (Nat.le_refl _)
  rwa [List.take_of_length_le (Nat.le_refl _)] at this
theorem vgFold_at {key : Int} {ps : List P2} (ha : asc ps) (i : Nat) (hi : i < ps.length) (hk : (ps.getD i (0, 0)).1 = key) : vgFold key ps = ((ps.getD i (0, 0)).2, true) := by
  have key' : ∀ n, i < n → n ≤ ps.length → vgFold key (ps.take n) = ((ps.getD i (0, 0)).2, true) := by
    intro n
    induction n with
    | zero => intro h; omega
    | succ n ih =>
      intro h1 h2
      rw [take_snoc_getD ps n (0, 0) (by omega), vgFold_snoc]
      by_cases e : i = n
      · subst e; rw [if_pos hk]
      · rw [if_neg (by have := asc_lt ha i n (by omega) (by omega); omega)]
        exact ih (by omega) (by omega)
  have := key' ps.length hi (Nat.le_refl _)
  rwa [List.take_of_length_le (Nat.le_refl _)] at this
def VgPost (key : Int) (ps : List P2) (w : World) (e : Ending) (w' : World) : Prop := e = .returned (.tuple #[.int .i64 (vg key ps).1, .bool (vg key ps).2]) ∧ Below w.heap.size w w'
theorem ret_pair {a b : Int} {x y : Bool} (h : a = b) (h2 : x = y) : Ending.returned (.tuple #[.int .i64 a, .bool x]) = .returned (.tuple #[.int .i64 b, .bool y]) := by rw [h, h2]
set_option maxHeartbeats 800000 in
theorem viewGet_c (v : Value) (ps : List P2) (key : Int) (w : World) (h : Rd 2 w v ps.length (enc2 ps)) :
    Calls Try.prog 29 #[v, .int .i64 key] w (VgPost key ps w) := by
  obtain ⟨-, a1, c1, rfl, h1, m1, k1⟩ := h
  unfold maxLen at m1
  go_enter Try.func29, Try.ntmps29
  go_wp2
  go_loopw [6, 7, 12] (fun x f i wr => ∃ k : Nat, k ≤ ps.length ∧ i = .int .i64 k ∧ x = .int .i64 (vgFold key (ps.take k)).1 ∧ f = .bool (vgFold key (ps.take k)).2 ∧ Below w.heap.size w wr ∧ ∀ j, j + 1 < k → ltAt ps j) (fun _ _ i _ => ps.length - (intOf i).toNat)
  case atStart => exact ⟨0, Nat.zero_le _, rfl, rfl, rfl, Below.refl _ _, fun j hj => by omega⟩
  case round =>
    obtain ⟨k, hk, rfl, rfl, rfl, hb, hasc⟩ := hrel
    have hsz := hb.size
    obtain ⟨v0, hv0⟩ : ∃ x, (vgFold key (ps.take k)).1 = x := ⟨_, rfl⟩
    obtain ⟨f0, hf0⟩ : ∃ x, (vgFold key (ps.take k)).2 = x := ⟨_, rfl⟩
    rw [hv0, hf0]
    by_cases hlt : k < ps.length
    · obtain ⟨b1, o1, rfl, g1⟩ := k1 (by omega)
      obtain ⟨x, y, e1, u1, u2⟩ := at2 hb g1 k hlt
      have hs := take_snoc_getD ps k (0, 0) hlt
      have hbw : b1 < wr.heap.size := World.block_lt_of_cell? wr _ u1
      have c3 : 0 < k → ∃ z z', ps.getD (k - 1) (0, 0) = (z, z') ∧ wr.cell? ⟨b1, o1 + (k - 1) * 2, none⟩ = some (.int .i64 z) := fun h0 => by
        obtain ⟨z, z', e2, u3, -⟩ := at2 hb g1 (k - 1) (by omega)
        exact ⟨z, z', e2, u3⟩
      have hvg : vgFold key (ps.take (k + 1)) = if x = key then (y, true) else (v0, f0) := by
        rw [hs, e1, vgFold_snoc, ← hv0, ← hf0]
      have HV := Lib.hid hvg
      have HA := Lib.hid hasc
      have HE := Lib.hid e1
      clear hs hvg hasc e1 k1 g1 hv0 hf0
      by_cases hk0 : 0 < k
      · obtain ⟨z, z', e2, c3⟩ := c3 hk0
        have hgd : decide ((0 : Int) < (k : Int)) = true := by simpa using hk0
        have hlt' : ltAt ps (k - 1) ↔ z < x := by
          have e := HE.out
          unfold ltAt
          rw [e2, show k - 1 + 1 = k from by omega, e]
        have HL := Lib.hid hlt'
        clear e2 hlt'
        by_cases hge : z < x
        · have hge' : decide (x ≤ z) = false := by simpa using hge
          go_wp2
          go_quiet (fail)
          go_wp2
          all_goals go_roundw
          all_goals try (simp [intOf]; omega)
          all_goals
            have HV' := HV.out
            first | rw [if_pos (by assumption)] at HV' | rw [if_pos (eq_of_beq (by assumption))] at HV' | rw [if_neg (by assumption)] at HV' | rw [if_neg (beq_eq_false_iff_ne.1 (by assumption))] at HV'
            refine ⟨k + 1, by omega, by go_num, by rw [HV'], by rw [HV'], below_drewN (hb.alloc hsz _) _, fun j hj => ?_⟩
            by_cases e : j = k - 1
            · subst e; exact HL.out.2 hge
            · exact HA.out j (by omega)
        · have hge' : decide (x ≤ z) = true := by simpa using hge
          go_wp2
          go_quiet (fail)
          go_wp2
          go_ret2
          have e := vg_no (key := key) (ps := ps) (j := k - 1) (by omega) (fun h => by have := HL.out.1 h; omega)
          exact ⟨ret_pair (by rw [e]) (by rw [e]), below_drewN (hb.alloc hsz _) _⟩
      · have hgd : decide ((0 : Int) < (k : Int)) = false := by simpa using hk0
        clear c3
        go_wp2
        go_quiet (fail)
        go_wp2
        all_goals go_roundw
        all_goals try (simp [intOf]; omega)
        all_goals
          have HV' := HV.out
          first | rw [if_pos (by assumption)] at HV' | rw [if_pos (eq_of_beq (by assumption))] at HV' | rw [if_neg (by assumption)] at HV' | rw [if_neg (beq_eq_false_iff_ne.1 (by assumption))] at HV'
          exact ⟨k + 1, by omega, by go_num, by rw [HV'], by rw [HV'], below_drewN (hb.alloc hsz _) _, fun j hj => HA.out j (by omega)⟩
    · obtain rfl : k = ps.length := by omega
      have e := vg_yes (key := key) hasc
      rw [List.take_of_length_le (Nat.le_refl _)] at hv0 hf0
      have HE := Lib.hid (And.intro e (And.intro hv0 hf0))
      clear k1 hasc hv0 hf0 e
      go_wp2
      go_ret2
      exact ⟨ret_pair (by rw [HE.out.1, HE.out.2.1]) (by rw [HE.out.1, HE.out.2.2]), hb⟩
end Go.Proofs.Ytedcolbbbohbaaa
