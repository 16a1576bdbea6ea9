/- Plain laws for the walks of laws on the order: what the order's places see. No condition. -/
import Derived.Test.YthnepmhkeceadaaJwJ
namespace Go.Proofs.Ythnepmhkeceadaa
open Go.RowKit
/-- the k-th place of the order: writer and index -/
noncomputable def ix (F : Fd) (k : Nat) : Nat := pst F k (wk F k)
theorem ix_lt {F : Fd} (h : JV F) {k : Nat} (hk : k < tot F) : ix F k < ln F (wk F k) := (wk_rdy h hk).1
theorem jo_len {F : Fd} (h : JV F) : (jo F).length = tot F := by rw [jo_t h, ordN_len]
theorem jo_at {F : Fd} (h : JV F) {k : Nat} (hk : k < tot F) (d : P2) : (jo F).getD k d = ((wk F k : Int), (ix F k : Int)) := by rw [jo_t h, ordN_at F hk]; rfl
theorem jo_pos {F : Fd} (h : (jo F).length ≠ 0) : JV F ∧ 0 < tot F := by
  by_cases hj : JV F
  · rw [jo_len hj] at h; exact ⟨hj, by omega⟩
  · rw [jo_f hj] at h; exact absurd rfl h
theorem rin {F : Fd} (h : JV F) {k : Nat} (hk : k < tot F) : RefIn F (wk F k) (ix F k) := by
  have h1 := wk_lt h hk
  have h2 := ix_lt h hk
  refine ⟨by omega, by omega, by omega, ?_⟩
  simpa using h2
theorem order_sees {F : Fd} (h : JV F) {i k : Nat} (hik : i < k) (hk : k < tot F) : jsB F (wk F i) (ix F i) (wk F k) (ix F k) = false := by
  refine jsB_f fun hs => ?_
  have h1 := hs.2.2.2.2
  simp only [Int.toNat_natCast] at h1
  have := no_later h hik hk
  unfold ix at h1
  omega
theorem place_ne {F : Fd} (h : JV F) {i k : Nat} (hik : i < k) (hk : k < tot F) : ¬ (wk F i = wk F k ∧ ix F i = ix F k) := by
  rintro ⟨e1, e2⟩
  have hi : i < tot F := by omega
  have hm := pst_le_le F (show i + 1 ≤ k from hik) (wk F i)
  rw [pst_next h hi] at hm
  unfold inc at hm
  rw [if_pos rfl] at hm
  unfold ix at e2
  rw [← e1] at e2
  omega
theorem order_small {F : Fd} (h : JV F) {k : Nat} (hk : k + 1 < tot F) (hs : jsB F (wk F (k + 1)) (ix F (k + 1)) (wk F k) (ix F k) = false) : wk F k < wk F (k + 1) := by
  refine small h hk ?_
  refine Int.not_lt.1 fun hlt => ?_
  have hj : JS F (wk F (k + 1)) (ix F (k + 1)) (wk F k) (ix F k) := by
    refine ⟨h, rin h hk, rin h (by omega), fun e => place_ne h (show k < k + 1 by omega) hk ⟨by omega, by omega⟩, ?_⟩
    simp only [Int.toNat_natCast]
    exact hlt
  rw [jsB_t hj] at hs
  cases hs
theorem ix0 (F : Fd) : ix F 0 = 0 := rfl
theorem place_of {F : Fd} (h : JV F) {w i : Nat} (hw : w < 3) (hi : i < ln F w) : ∃ j, j < tot F ∧ wk F j = w ∧ ix F j = i := by
  obtain ⟨j, hj, e1, e2⟩ := place_ex h hw (tot F) (Nat.le_refl _) i (by rw [pst_end h w hw]; exact hi)
  exact ⟨j, hj, e1, by unfold ix; rw [e1]; exact e2⟩
theorem stv_none {F : Fd} {w : Nat} (hw : w < 3) (h0 : ln F w = 0) : stv F = 0 := by
  cases hn : stv F with
  | zero => rfl
  | succ m =>
    obtain ⟨-, hs⟩ := stN_at hn
    have := (hs w hw).1
    omega
/-- a slice that holds the order: to be read -/
def Ord (F : Fd) (w : World) (a : Option Addr) (N cap : Nat) : Prop := N = (jo F).length ∧ Rd 2 w (.slice a N cap) N (enc2 (jo F))
theorem Ord.below {F : Fd} {w w' : World} {a : Option Addr} {N cap : Nat} (h : Ord F w a N cap) (hb : Below w.heap.size w w') : Ord F w' a N cap := ⟨h.1, h.2.below hb⟩
theorem Ord.tot {F : Fd} {w : World} {a : Option Addr} {N cap : Nat} (h : Ord F w a N cap) (hj : JV F) : N = tot F := h.1.trans (jo_len hj)
theorem Ord.at {F : Fd} {w : World} {a : Option Addr} {N cap : Nat} (h : Ord F w a N cap) (hj : JV F) {k : Nat} (hk : k < N) :
    ∃ g off x y, a = some ⟨g, off, none⟩ ∧ w.cell? ⟨g, off + k * 2, none⟩ = some (.int .i64 (x : Nat)) ∧ w.cell? ⟨g, off + k * 2 + 1, none⟩ = some (.int .i64 (y : Nat)) ∧ Hid (wk F k = x ∧ ix F k = y) ∧ x < 3 ∧ y < ln F x := by
  have hN := h.tot hj
  obtain ⟨-, -, a', cap', e, -, -, h3⟩ := h
  simp only [Value.slice.injEq, true_and] at e
  obtain ⟨rfl, rfl⟩ := e
  obtain ⟨b, off, rfl, hc⟩ := h3 (by omega)
  have hat := enc2_at (jo F) k (0, 0) (by rw [jo_len hj]; omega)
  rw [jo_at hj (by omega)] at hat
  refine ⟨b, off, _, _, rfl, hc _ _ hat.1, by have := hc _ _ hat.2; rwa [← Nat.add_assoc] at this, ⟨rfl, rfl⟩, wk_lt hj (by omega), ix_lt hj (by omega)⟩
def OrdPost (F : Fd) (W : World) (e : Ending) (W' : World) : Prop :=
  ∃ a N cap, e = .returned (.slice a N cap) ∧ N ≤ 24 ∧ N ≤ cap ∧ cap ≤ maxLen ∧ Ord F W' a N cap ∧ Below W.heap.size W W'
theorem ordPost_of {F : Fd} {W : World} {e : Ending} {W' : World} (h : RetOwn 37 2 (jo F).length (enc2 (jo F)) W e W') : OrdPost F W e W' := by
  obtain ⟨v, rfl, ho, hb⟩ := h
  obtain ⟨-, a, cap, rfl, h1, h2, -⟩ := Rd.of_own ho
  refine ⟨a, _, cap, rfl, ?_, h1, h2, ⟨rfl, Rd.of_own ho⟩, hb⟩
  by_cases hj : JV F
  · rw [jo_len hj]; exact tot_le hj
  · rw [jo_f hj]; exact Nat.zero_le _
theorem joinOrder_o {S : Nat → Prop} (F : Fd) (fv : Value) (W : World) (h : RdF S W fv F) : Calls Try.prog 26 #[fv] W (OrdPost F W) := (joinOrder_c F fv W h).mono fun _ _ h => ordPost_of h
theorem specJoinOrder_o {S : Nat → Prop} (F : Fd) (fv : Value) (W : World) (h : RdF S W fv F) : Calls Try.prog 29 #[fv] W (OrdPost F W) := (specJoinOrder_c F fv W h).mono fun _ _ h => ordPost_of h
theorem sameRefs_c (va vb : Value) (xs : List P2) (w : World) (ha : Rd 2 w va xs.length (enc2 xs)) (hb : Rd 2 w vb xs.length (enc2 xs)) :
    Calls Try.prog 27 #[va, vb] w fun e w' => e = .returned (.bool true) ∧ Below w.heap.size w w' := by
  obtain ⟨-, a1, c1, rfl, h1, m1, k1⟩ := ha
  obtain ⟨-, a2, c2, rfl, h2, m2, k2⟩ := hb
  unfold maxLen at m1 m2
  go_enter Try.func27, Try.ntmps27
  go_wp2
  go_loopw [5] (fun i wr => ∃ k : Nat, k ≤ xs.length ∧ i = .int .i64 k ∧ Below w.heap.size w wr) (fun i _ => xs.length - (intOf i).toNat)
  case atStart => exact ⟨0, Nat.zero_le _, rfl, Below.refl _ _⟩
  case round =>
    obtain ⟨k, hk, rfl, hb⟩ := hrel
    have hsz := hb.size
    by_cases hlt : k < xs.length
    · obtain ⟨b1, o1, rfl, g1⟩ := k1 (by omega)
      obtain ⟨b2, o2, rfl, g2⟩ := k2 (by omega)
      obtain ⟨x, y, e1, u1, u2⟩ := at2 hb g1 k hlt
      obtain ⟨x', y', e2, u3, u4⟩ := at2 hb g2 k hlt
      obtain ⟨rfl, rfl⟩ := Prod.mk.inj (e1.symm.trans e2)
      clear e1 e2 k1 k2 g1 g2
      go_wp2
      go_quiet (fail)
      go_wp2
      go_roundw
      case rel => exact ⟨k + 1, by omega, by go_num, below_drewN hb _⟩
      case measure => simp [intOf]; omega
    · go_wp2
      go_ret
      exact ⟨rfl, hb⟩
theorem sameRefs_o {F : Fd} {a b : Option Addr} {N M ca cb : Nat} (w : World) (ha : Ord F w a N ca) (hb : Ord F w b M cb) :
    Calls Try.prog 27 #[.slice a N ca, .slice b M cb] w fun e w' => e = .returned (.bool true) ∧ Below w.heap.size w w' := by
  obtain ⟨rfl, ha⟩ := ha
  obtain ⟨rfl, hb⟩ := hb
  exact sameRefs_c _ _ _ _ ha hb
end Go.Proofs.Ythnepmhkeceadaa
