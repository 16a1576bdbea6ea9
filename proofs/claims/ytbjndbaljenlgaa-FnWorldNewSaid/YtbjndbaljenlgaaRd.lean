/- Contracts of the reader of a code: l6Open, pick, l6In, within. -/
import Derived.Test.YtbjndbaljenlgaaProg
import Derived.Test.YtbjndbaljenlgaaBase
import Derived.Deep.QuietTactic
import Derived.BigQuiet
import Derived.Outline
namespace Go.Proofs.Ytbjndbaljenlgaa
open Go.RowKit
theorem grown_trans {a b c : World} {row : Option Nat} (h : a.grownBy b row) (k : b.grownBy c row) : a.grownBy c row :=
  ⟨k.os.trans h.os, k.tape.trans h.tape, k.output.trans h.output, Nat.le_trans h.size k.size, fun i hi hne => (k.block i (Nat.lt_of_lt_of_le hi h.size) hne).trans (h.block i hi hne)⟩
theorem grown_cell {w w' : World} {row : Option Nat} (hg : w.grownBy w' row) {a : Addr} {v : Value} (h : w.cell? a = some v) (hne : some a.block ≠ row) : w'.cell? a = some v := hg.cell h hne
theorem grown_frozen {w w' : World} {row : Option Nat} (hg : w.grownBy w' row) {a : Addr} (h : a.block < w.heap.size) (hne : some a.block ≠ row) : w'.frozen? a = w.frozen? a := World.frozen?_of_block (hg.block a.block h hne)
/-- The block r holds a reader of at most 2000 bytes below block B, at a place of at most P. -/
def Reader (B : Nat) (w : World) (r P : Nat) : Prop :=
  r < B ∧ B ≤ w.heap.size ∧ ∃ (a : Option Addr) (n cap p : Nat), w.cell? ⟨r, 0, none⟩ = some (.slice a n cap) ∧ w.cell? ⟨r, 1, none⟩ = some (.int .i64 p) ∧ w.frozen? ⟨r, 1, none⟩ = false ∧ p ≤ P ∧ n ≤ 2000 ∧
    (n ≠ 0 → ∃ b off, a = some ⟨b, off, none⟩ ∧ b < B ∧ b ≠ r ∧ ∀ j, j < n → ∃ x : Int, w.cell? ⟨b, off + j, none⟩ = some (.int .u8 x) ∧ 0 ≤ x ∧ x ≤ 255)
theorem Reader.kept {B : Nat} {w w' : World} {r P : Nat} {row : Option Nat} (h : Reader B w r P) (hg : w.grownBy w' row) (hr : ∀ k, row = some k → B ≤ k) : Reader B w' r P := by
  obtain ⟨h1, h2, a, n, cap, p, c0, c1, f1, hp, hn, hb⟩ := h
  have ne : ∀ i, i < B → some i ≠ row := fun i hi e => by have := hr i e.symm; omega
  refine ⟨h1, Nat.le_trans h2 hg.size, a, n, cap, p, grown_cell hg c0 (ne r h1), grown_cell hg c1 (ne r h1), (grown_frozen hg (by show r < _; omega) (ne r h1)).trans f1, hp, hn, fun hnz => ?_⟩
  obtain ⟨b, off, ha, hbB, hbr, hc⟩ := hb hnz
  exact ⟨b, off, ha, hbB, hbr, fun j hj => let ⟨x, hx, hx2⟩ := hc j hj; ⟨x, grown_cell hg hx (ne b hbB), hx2⟩⟩
theorem Reader.below {B : Nat} {w w' : World} {r P : Nat} (h : Reader B w r P) (hb : Below w.heap.size w w') : Reader B w' r P := h.kept (below_grown hb none) (fun k hk => by cases hk)
def PickPost (B r P : Nat) (n : Int) (w : World) (e : Ending) (w' : World) : Prop :=
  ∃ m : Int, e = .returned (.int .i64 m) ∧ 0 ≤ m ∧ (1 ≤ n → m < n) ∧ Reader B w' r (P + 1) ∧ w.grownBy w' (some r)
theorem reader_step {B : Nat} {w : World} {r P : Nat} {a : Option Addr} {n cap p : Nat} (h1 : r < B) (h2 : B ≤ w.heap.size) (c0 : w.cell? ⟨r, 0, none⟩ = some (.slice a n cap)) (c1 : w.cell? ⟨r, 1, none⟩ = some (.int .i64 p)) (f1 : w.frozen? ⟨r, 1, none⟩ = false) (hp : p ≤ P) (hn : n ≤ 2000)
    (hb : n ≠ 0 → ∃ b off, a = some ⟨b, off, none⟩ ∧ b < B ∧ b ≠ r ∧ ∀ j, j < n → ∃ x : Int, w.cell? ⟨b, off + j, none⟩ = some (.int .u8 x) ∧ 0 ≤ x ∧ x ≤ 255) :
    Reader B (w.setCell ⟨r, 1, none⟩ (.int .i64 (p + 1 : Nat))) r (P + 1) ∧ w.grownBy (w.setCell ⟨r, 1, none⟩ (.int .i64 (p + 1 : Nat))) (some r) := by
  have hg : w.grownBy (w.setCell ⟨r, 1, none⟩ (.int .i64 (p + 1 : Nat))) (some r) := grown_set (World.grownBy.refl _ _)
  refine ⟨⟨h1, by simpa using h2, a, n, cap, p + 1, ?_, ?_, ?_, by omega, hn, fun hnz => ?_⟩, hg⟩
  · rw [World.cell?_setCell_other _ _ _ _ (by simp)]; exact c0
  · exact World.cell?_setCell_same _ _ _ c1
  · rw [World.frozen?_setCell]; exact f1
  · obtain ⟨b, off, ha, hbB, hbr, hc⟩ := hb hnz
    exact ⟨b, off, ha, hbB, hbr, fun j hj => let ⟨x, hx, hx2⟩ := hc j hj; ⟨x, grown_cell hg hx (by simpa using hbr), hx2⟩⟩
theorem xor_pos (a b : Int) (ha : 0 ≤ a) (ha' : a < 4611686018427387904) (hb : 0 ≤ b) (hb' : b < 4611686018427387904) : 0 ≤ bits .xor .i64 a b := by
  obtain ⟨n, rfl⟩ := Int.eq_ofNat_of_zero_le ha
  obtain ⟨m, rfl⟩ := Int.eq_ofNat_of_zero_le hb
  have hp : (2 : Nat) ^ 62 ≤ 2 ^ IntKind.i64.bits := Nat.pow_le_pow_right (by decide) (by decide)
  have e : bits .xor .i64 (n : Int) (m : Int) = IntKind.i64.wrap ((n ^^^ m : Nat) : Int) := by
    simp only [bits, BitVec.ofInt_natCast, BitVec.toNat_xor, BitVec.toNat_ofNat]
    rw [Nat.mod_eq_of_lt (a := n) (by omega), Nat.mod_eq_of_lt (a := m) (by omega)]
  have hx : n ^^^ m < 2 ^ 62 := Nat.xor_lt_two_pow (by omega) (by omega)
  rw [e, IntWalk.i64_in _ (by omega)]
  exact Int.natCast_nonneg _
theorem grown_drewsN {a b : World} {row : Option Nat} (h : a.grownBy b row) (n : Nat) : a.grownBy (b.drewN n) row := ⟨h.os, h.tape, h.output, h.size, h.block⟩
theorem Reader.drewsN {B : Nat} {w : World} {r P : Nat} (h : Reader B w r P) (n : Nat) : Reader B (w.drewN n) r P := h
theorem l6In_t (n lo hi : Int) (w : World) (h1 : lo ≤ n) (h2 : n ≤ hi) : Calls Try.prog 48 #[.int .i64 n, .int .i64 lo, .int .i64 hi] w fun e w' => e = .returned (.bool true) ∧ w = w' := by
  go_enter Try.func48, Try.ntmps48
  go_wp2
  go_ret
  exact ⟨rfl, rfl⟩
theorem l6In_f (n lo hi : Int) (w : World) (h : n < lo ∨ hi < n) : Calls Try.prog 48 #[.int .i64 n, .int .i64 lo, .int .i64 hi] w fun e w' => e = .returned (.bool false) ∧ w = w' := by
  by_cases h1 : n < lo
  · go_enter Try.func48, Try.ntmps48
    go_wp2
    go_ret
    exact ⟨rfl, rfl⟩
  · have h2 : hi < n := by omega
    go_enter Try.func48, Try.ntmps48
    go_wp2
    go_ret
    exact ⟨by simp; omega, rfl⟩
theorem within_t (n lo hi : Int) (w : World) (h1 : lo ≤ n) (h2 : n ≤ hi) : Calls Try.prog 64 #[.int .i64 n, .int .i64 lo, .int .i64 hi] w fun e w' => e = .returned (.bool true) ∧ w = w' := by
  go_enter Try.func64, Try.ntmps64
  go_wp2
  go_ret
  exact ⟨rfl, rfl⟩
theorem within_f (n lo hi : Int) (w : World) (h : n < lo ∨ hi < n) : Calls Try.prog 64 #[.int .i64 n, .int .i64 lo, .int .i64 hi] w fun e w' => e = .returned (.bool false) ∧ w = w' := by
  by_cases h1 : n < lo
  · go_enter Try.func64, Try.ntmps64
    go_wp2
    go_ret
    exact ⟨rfl, rfl⟩
  · have h2 : hi < n := by omega
    go_enter Try.func64, Try.ntmps64
    go_wp2
    go_ret
    exact ⟨by simp; omega, rfl⟩
set_option maxHeartbeats 1000000 in
theorem pick_c (B r P : Nat) (n : Int) (w : World) (h : Reader B w r P) (hP : P ≤ 4294967296) : Calls Try.prog 45 #[.pointer (some ⟨r, 0, none⟩), .int .i64 n] w (PickPost B r P n w) := by
  obtain ⟨h1, h2, a, len, cap, p, c0, c1, f1, hp, hn, hb⟩ := h
  have HS := Lib.hid (reader_step h1 h2 c0 c1 f1 hp hn hb)
  by_cases hn1 : n < 1
  · clear hb
    go_enter Try.func45, Try.ntmps45
    go_wp2
    go_ret
    exact ⟨0, rfl, by omega, by omega, HS.out⟩
  · by_cases hl : len = 0
    · clear hb
      subst hl
      go_enter Try.func45, Try.ntmps45
      go_wp2
      go_ret
      exact ⟨0, rfl, by omega, by omega, HS.out⟩
    · obtain ⟨b, off, rfl, hbB, hbr, hc⟩ := hb hl
      have hl' : ((len : Int) == 0) = false := by simp; omega
      clear hb
      have hl2 : 0 < len := by omega
      by_cases hk : p < len
      · obtain ⟨x, hx, hx0, hx1⟩ := hc p hk
        clear hc hl
        go_enter Try.func45, Try.ntmps45
        go_wp2
        go_ret
        exact ⟨_, rfl, Int.emod_nonneg _ (by omega), fun h => Int.emod_lt_of_pos _ (by omega), HS.out⟩
      · obtain ⟨m1, hm1, hm1'⟩ : ∃ m : Nat, (p : Int) % (len : Int) = (m : Int) ∧ m < len := ⟨p % len, by simp, Nat.mod_lt _ hl2⟩
        obtain ⟨m2, hm2, hm2'⟩ : ∃ m : Nat, ((p : Int) * 7 + 3) % (len : Int) = (m : Int) ∧ m < len := ⟨(p * 7 + 3) % len, by simp, Nat.mod_lt _ hl2⟩
        obtain ⟨m3, hm3, hm3'⟩ : ∃ m : Nat, (p : Int) / (len : Int) = (m : Int) ∧ m ≤ p := ⟨p / len, by simp, Nat.div_le_self _ _⟩
        obtain ⟨x, hx, hx0, hx1⟩ := hc m1 hm1'
        obtain ⟨y, hy, hy0, hy1⟩ := hc m2 hm2'
        clear hc hl
        have hbr' : ¬ r = b := fun h => hbr h.symm
        go_enter Try.func45, Try.ntmps45
        go_wp2
        go_quiet (fail)
        go_wp2
        go_ret
        have hx := xor_pos (x * 131 + y * 1117 + (p : Int) * 29 + (m3 : Int) * 53) ((x * 131 + y * 1117 + (p : Int) * 29 + (m3 : Int) * 53) / 64) (by omega) (by omega) (by omega) (by omega)
        refine ⟨_, rfl, Int.tmod_nonneg _ hx, fun h => ?_, ?_⟩
        · rw [Int.tmod_eq_emod_of_nonneg hx]
          exact Int.emod_lt_of_pos _ (by omega)
        · exact ⟨HS.out.1.drewsN _, grown_drewsN HS.out.2 _⟩
/-- A slice of bytes that can be read. -/
def RdB (w : World) (v : Value) (n : Nat) : Prop :=
  ∃ a cap, v = .slice a n cap ∧ n ≤ cap ∧ cap ≤ maxLen ∧ (n ≠ 0 → ∃ b off, a = some ⟨b, off, none⟩ ∧ ∀ j, j < n → ∃ x : Int, w.cell? ⟨b, off + j, none⟩ = some (.int .u8 x) ∧ 0 ≤ x ∧ x ≤ 255)
theorem RdB.below {w w' : World} {v : Value} {n : Nat} (h : RdB w v n) (hb : Below w.heap.size w w') : RdB w' v n := by
  obtain ⟨a, cap, hv, h1, h2, h3⟩ := h
  exact ⟨a, cap, hv, h1, h2, fun hn => let ⟨b, off, ha, hc⟩ := h3 hn; ⟨b, off, ha, fun j hj => let ⟨x, hx, hx2⟩ := hc j hj; ⟨x, cell_keep hb hx, hx2⟩⟩⟩
def OpenPost (w : World) (e : Ending) (w' : World) : Prop :=
  ∃ r, e = .returned (.pointer (some ⟨r, 0, none⟩)) ∧ w.heap.size ≤ r ∧ Reader w'.heap.size w' r 0 ∧ Below w.heap.size w w'
theorem reader_new (w : World) (a : Option Addr) (n cap : Nat) (T : TypeId) (hn : n ≤ 2000)
    (hb : n ≠ 0 → ∃ b off, a = some ⟨b, off, none⟩ ∧ ∀ j, j < n → ∃ x : Int, w.cell? ⟨b, off + j, none⟩ = some (.int .u8 x) ∧ 0 ≤ x ∧ x ≤ 255) :
    Reader (w.heap.size + 1) (w.alloc (.cells #[.slice a n cap, .int .i64 0] T)) w.heap.size 0 := by
  refine ⟨by omega, by simp, a, n, cap, 0, ?_, ?_, ?_, Nat.le_refl _, hn, fun hnz => ?_⟩
  · simp
  · simp
  · simp
  · obtain ⟨b, off, ha, hc⟩ := hb hnz
    have hlt : b < w.heap.size := by obtain ⟨x, hx, _⟩ := hc 0 (by omega); exact World.block_lt_of_cell? w _ hx
    exact ⟨b, off, ha, by omega, by omega, fun j hj => let ⟨x, hx, hx2⟩ := hc j hj; ⟨x, by rw [World.cell?_alloc_lt _ _ _ hlt]; exact hx, hx2⟩⟩
theorem l6Open_c (v : Value) (n : Nat) (w : World) (h : RdB w v n) : Calls Try.prog 43 #[v] w (OpenPost w) := by
  obtain ⟨a, cap, rfl, h1, h2, h3⟩ := h
  unfold maxLen at h2
  by_cases hn : n ≤ 2000
  · have H := Lib.hid (reader_new w a n cap 113 hn h3)
    clear h3
    go_enter Try.func43, Try.ntmps43
    go_wp2
    go_ret
    exact ⟨_, rfl, Nat.le_refl _, by simpa using H.out, by (repeat' (first | exact Below.refl _ _ | assumption | refine Below.drew ?_ | refine below_drewN ?_ _ | refine Below.alloc ?_ (by omega) _ | refine Below.alloc ?_ (by simp; omega) _ | refine Below.alloc ?_ (by simp) _ | refine Below.setCell ?_ (by omega) _ | refine Below.setCell ?_ (by simp; omega) _ | refine Below.setCell ?_ (by simp) _))⟩
  · have H := Lib.hid (reader_new w a 2000 cap 113 (by omega) (fun _ => let ⟨b, off, ha, hc⟩ := h3 (by omega); ⟨b, off, ha, fun j hj => hc j (by omega)⟩))
    obtain ⟨b, off, rfl, -⟩ := h3 (by omega)
    clear h3
    have hc2 : 2000 ≤ cap := by omega
    go_enter Try.func43, Try.ntmps43
    go_wp2
    go_ret
    exact ⟨_, rfl, Nat.le_refl _, by simpa using H.out, by (repeat' (first | exact Below.refl _ _ | assumption | refine Below.drew ?_ | refine below_drewN ?_ _ | refine Below.alloc ?_ (by omega) _ | refine Below.alloc ?_ (by simp; omega) _ | refine Below.alloc ?_ (by simp) _ | refine Below.setCell ?_ (by omega) _ | refine Below.setCell ?_ (by simp; omega) _ | refine Below.setCell ?_ (by simp) _))⟩
theorem own_kept_r {w w' : World} {B e sz n r : Nat} {v : Value} {xs : List Value} (h : w.ownsRow B e sz v n xs) (hg : w.grownBy w' (some r)) (hr : r < B) : w'.ownsRow B e sz v n xs :=
  h.kept hg (by
    cases hv : v.ownBlock with
    | none => exact .inl rfl
    | some k => have := (h.lt k hv).1; exact .inr (by simp; omega))
theorem below_r {W w w' : World} {r : Nat} (h : Below W.heap.size W w) (hg : w.grownBy w' (some r)) (hr : W.heap.size ≤ r) : Below W.heap.size W w' :=
  h.grown hg h.size (fun k hk => by cases hk; exact hr)
theorem below_own {W w w' : World} {B e sz n : Nat} {v : Value} {xs : List Value} (h : Below W.heap.size W w) (hw : W.heap.size ≤ B) (ho : w.ownsRow B e sz v n xs) (hg : w.grownBy w' v.ownBlock) : Below W.heap.size W w' :=
  h.grown hg h.size (fun k hk => by have := (ho.lt k hk).1; omega)
theorem Reader.own {B : Nat} {w w' : World} {r P e sz n : Nat} {v : Value} {xs : List Value} (h : Reader B w r P) (ho : w.ownsRow B e sz v n xs) (hg : w.grownBy w' v.ownBlock) : Reader B w' r P :=
  h.kept hg (fun k hk => (ho.lt k hk).1)
theorem Reader.le {B : Nat} {w : World} {r P P' : Nat} (h : Reader B w r P) (hp : P ≤ P') : Reader B w r P' := by
  obtain ⟨h1, h2, a, n, cap, p, c0, c1, f1, hpp, r⟩ := h
  exact ⟨h1, h2, a, n, cap, p, c0, c1, f1, Nat.le_trans hpp hp, r⟩
theorem within_qt (n lo hi : Int) (w : World) (k : Nat) (h1 : lo ≤ n) (h2 : n ≤ hi) : Calls Try.prog 64 #[.int .i64 n, .int .i64 lo, .int .i64 hi] (w.drewN k) fun e w'' => e = .returned (.bool true) ∧ ∃ m, w'' = w.drewN m :=
  Calls.quiet_of_same ((within_t n lo hi _ h1 h2).mono fun _ _ ⟨a, b⟩ => ⟨a, b.symm⟩)
theorem within_qf (n lo hi : Int) (w : World) (k : Nat) (h : n < lo ∨ hi < n) : Calls Try.prog 64 #[.int .i64 n, .int .i64 lo, .int .i64 hi] (w.drewN k) fun e w'' => e = .returned (.bool false) ∧ ∃ m, w'' = w.drewN m :=
  Calls.quiet_of_same ((within_f n lo hi _ h).mono fun _ _ ⟨a, b⟩ => ⟨a, b.symm⟩)
theorem l6In_qt (n lo hi : Int) (w : World) (k : Nat) (h1 : lo ≤ n) (h2 : n ≤ hi) : Calls Try.prog 48 #[.int .i64 n, .int .i64 lo, .int .i64 hi] (w.drewN k) fun e w'' => e = .returned (.bool true) ∧ ∃ m, w'' = w.drewN m :=
  Calls.quiet_of_same ((l6In_t n lo hi _ h1 h2).mono fun _ _ ⟨a, b⟩ => ⟨a, b.symm⟩)
theorem l6In_qf (n lo hi : Int) (w : World) (k : Nat) (h : n < lo ∨ hi < n) : Calls Try.prog 48 #[.int .i64 n, .int .i64 lo, .int .i64 hi] (w.drewN k) fun e w'' => e = .returned (.bool false) ∧ ∃ m, w'' = w.drewN m :=
  Calls.quiet_of_same ((l6In_f n lo hi _ h).mono fun _ _ ⟨a, b⟩ => ⟨a, b.symm⟩)
end Go.Proofs.Ytbjndbaljenlgaa
