/- Plain words on digests of texts and of trees of at most 16 leaves: pair, txt, rt (root), sk (size of a tree), cov (the trees), digest. No condition. -/
import Derived.Test.YtbjndbaljenlgaaBase
namespace Go.Proofs.Ytbjndbaljenlgaa
open Go.RowKit
def Dg (x : Int) : Prop := 0 ≤ x ∧ x ≤ 990
def pair (a b : Int) : Int := (31 * a + 17 * b + 5) % 991
theorem pair_in (a b : Int) : Dg (pair a b) := by unfold pair Dg; omega
def tstep (n : Int) (b : UInt8) : Int := (257 * n + (b.toNat : Int) + 1) % 991
def txt (s : ByteArray) : Int := s.data.toList.foldl tstep 11
theorem foldl_in (l : List UInt8) : ∀ n, Dg n → Dg (l.foldl tstep n) := by
  induction l with
  | nil => intro n h; exact h
  | cons b r ih => intro n h; exact ih _ (by unfold tstep Dg; omega)
theorem txt_in (s : ByteArray) : Dg (txt s) := foldl_in _ _ (by unfold Dg; omega)
def rt (L : List Int) : Nat → Nat → Int
  | 0, s => L.getD s 0
  | k + 1, s => pair (rt L k s) (rt L k (s + 2 ^ k))
theorem rt_in {L : List Int} (hL : ∀ x ∈ L, Dg x) (k s : Nat) (h : s + 2 ^ k ≤ L.length) : Dg (rt L k s) := by
  cases k with
  | zero =>
    simp only [Nat.pow_zero] at h
    have hs : s < L.length := by omega
    simp only [rt, List.getD_eq_getElem?_getD, List.getElem?_eq_getElem hs, Option.getD_some]
    exact hL _ (List.getElem_mem hs)
  | succ k => exact pair_in _ _
def sk (a n : Nat) : Nat :=
  if a % 2 = 0 ∧ a + 2 ≤ n then if a % 4 = 0 ∧ a + 4 ≤ n then if a % 8 = 0 ∧ a + 8 ≤ n then if a % 16 = 0 ∧ a + 16 ≤ n then 4 else 3 else 2 else 1 else 0
theorem sk_cases (a n : Nat) : (sk a n = 0 ∧ ¬ (a % 2 = 0 ∧ a + 2 ≤ n)) ∨ (sk a n = 1 ∧ a % 2 = 0 ∧ a + 2 ≤ n ∧ ¬ (a % 4 = 0 ∧ a + 4 ≤ n)) ∨ (sk a n = 2 ∧ a % 4 = 0 ∧ a + 4 ≤ n ∧ ¬ (a % 8 = 0 ∧ a + 8 ≤ n)) ∨
    (sk a n = 3 ∧ a % 8 = 0 ∧ a + 8 ≤ n ∧ ¬ (a % 16 = 0 ∧ a + 16 ≤ n)) ∨ (sk a n = 4 ∧ a % 16 = 0 ∧ a + 16 ≤ n) := by
  unfold sk
  by_cases c1 : a % 2 = 0 ∧ a + 2 ≤ n
  · rw [if_pos c1]
    by_cases c2 : a % 4 = 0 ∧ a + 4 ≤ n
    · rw [if_pos c2]
      by_cases c3 : a % 8 = 0 ∧ a + 8 ≤ n
      · rw [if_pos c3]
        by_cases c4 : a % 16 = 0 ∧ a + 16 ≤ n
        · rw [if_pos c4]; omega
        · rw [if_neg c4]; omega
      · rw [if_neg c3]; omega
    · rw [if_neg c2]; omega
  · rw [if_neg c1]; omega
theorem sk_le (a n : Nat) : sk a n ≤ 4 := by have := sk_cases a n; omega
theorem sk_test {a n j : Nat} (hn : n ≤ 16) (h : j ≤ sk a n) : (a % (2 * 2 ^ j) = 0 ∧ a + 2 * 2 ^ j ≤ n) ↔ j < sk a n := by
  have hc := sk_cases a n
  have h4 := sk_le a n
  generalize sk a n = q at *
  have hj : j = 0 ∨ j = 1 ∨ j = 2 ∨ j = 3 ∨ j = 4 := by omega
  rcases hj with rfl | rfl | rfl | rfl | rfl <;> simp only [Nat.reducePow, Nat.reduceMul] <;> omega
theorem sk_fit {a n : Nat} (h : a < n) : a + 2 ^ sk a n ≤ n := by
  rcases sk_cases a n with h' | h' | h' | h' | h' <;> rw [h'.1] <;> simp only [Nat.reducePow] <;> omega
theorem sk_pos (a n : Nat) : 1 ≤ 2 ^ sk a n := Nat.one_le_two_pow
/-- the trees of n leaves from a on -/
def cov (n : Nat) : Nat → Nat → List (Nat × Nat)
  | 0, _ => []
  | f + 1, a => if a < n then (a, sk a n) :: cov n f (a + 2 ^ sk a n) else []
theorem cov_end (n f a : Nat) (h : n ≤ a) : cov n f a = [] := by
  cases f with
  | zero => rfl
  | succ f => simp [cov]; omega
theorem cov_go {n f a : Nat} (h : a < n) (hf : n - a ≤ f) : ∃ f', n - (a + 2 ^ sk a n) ≤ f' ∧ cov n f a = (a, sk a n) :: cov n f' (a + 2 ^ sk a n) := by
  have := sk_pos a n
  cases f with
  | zero => omega
  | succ f => exact ⟨f, by omega, by simp [cov, h]⟩
theorem cov_in (n : Nat) : ∀ f a, ∀ p ∈ cov n f a, p.1 + 2 ^ p.2 ≤ n ∧ p.2 ≤ 4 := by
  intro f
  induction f with
  | zero => intro a p hp; simp [cov] at hp
  | succ f ih =>
    intro a p hp
    unfold cov at hp
    split at hp
    · rename_i h
      simp only [List.mem_cons] at hp
      rcases hp with rfl | hp
      · exact ⟨sk_fit h, sk_le _ _⟩
      · exact ih _ p hp
    · simp at hp
theorem cov_len (n : Nat) : ∀ f a, (cov n f a).length ≤ f := by
  intro f
  induction f with
  | zero => intro a; simp [cov]
  | succ f ih =>
    intro a
    unfold cov
    split
    · simp; exact ih _
    · simp
def trees (n : Nat) : List (Nat × Nat) := cov n 16 0
def roots (L : List Int) (ts : List (Nat × Nat)) : List Int := ts.map fun p => rt L p.2 p.1
def fold (n : Int) (ps : List Int) : Int := ps.foldl pair n
def digest (L : List Int) : Int := fold L.length (roots L (trees L.length))
theorem roots_app (L : List Int) (a b : List (Nat × Nat)) : roots L (a ++ b) = roots L a ++ roots L b := List.map_append
theorem roots_in {L : List Int} (hL : ∀ x ∈ L, Dg x) : ∀ x ∈ roots L (trees L.length), Dg x := by
  intro x hx
  obtain ⟨p, hp, rfl⟩ := List.mem_map.1 hx
  exact rt_in hL _ _ (cov_in _ _ _ p hp).1
theorem fold_snoc (n : Int) (l : List Int) (x : Int) : fold n (l ++ [x]) = pair (fold n l) x := by simp [fold]
theorem fold_in (n : Int) (l : List Int) (h : Dg n) : Dg (fold n l) := by
  unfold fold
  induction l generalizing n with
  | nil => exact h
  | cons a r ih => exact ih _ (pair_in _ _)
theorem digest_in (L : List Int) (h : L.length ≤ 16) : Dg (digest L) := fold_in _ _ (by unfold Dg; omega)
theorem trees_len (n : Nat) : (trees n).length ≤ 16 := cov_len _ _ _
/-- the trees as the program keeps them: start, size -/
def trs (ts : List (Nat × Nat)) : List P2 := ts.map fun p => ((p.1 : Int), ((2 ^ p.2 : Nat) : Int))
theorem trs_len (ts : List (Nat × Nat)) : (trs ts).length = ts.length := by simp [trs]
theorem trs_snoc (ts : List (Nat × Nat)) (a k : Nat) : trs (ts ++ [(a, k)]) = trs ts ++ [((a : Int), ((2 ^ k : Nat) : Int))] := by simp [trs]
/-- a feed -/
structure FeedV where
  pub : Int
  len : Int
  dig : Int
  sign : Int
  bs : List ByteArray
  hv : List Bool
def cnt (hv : List Bool) : Nat := hv.count true
def Key (x : Int) : Prop := 1 ≤ x ∧ x ≤ 996
/-- the equation of a signature, and all parts in their ranges -/
def Hok (pub len dig sign : Int) : Prop := Key pub ∧ 0 ≤ len ∧ len ≤ 16 ∧ Dg dig ∧ Key sign ∧ sign * 5 % 997 = pub * (pair len dig + 1) % 997
def Hz (len dig sign : Int) : Prop := len = 0 ∧ dig = 0 ∧ sign = 0
/-- block i is short, and empty if it is missing -/
def Bok (f : FeedV) (i : Nat) : Prop := (f.bs.getD i ByteArray.empty).size ≤ 8 ∧ (f.hv.getD i false = false → (f.bs.getD i ByteArray.empty) = ByteArray.empty)
def FV (f : FeedV) : Prop :=
  Key f.pub ∧ (Hz f.len f.dig f.sign ∨ Hok f.pub f.len f.dig f.sign) ∧ (f.bs.length : Int) = f.len ∧ (f.hv.length : Int) = f.len ∧
    (∀ i, i < f.bs.length → Bok f i) ∧ (f.bs.length = 0 ∨ cnt f.hv ≠ f.hv.length ∨ digest (f.bs.map txt) = f.dig)
open Classical in
noncomputable def fv (f : FeedV) : Bool := decide (FV f)
open Classical in
noncomputable def hok (pub len dig sign : Int) : Bool := decide (Hok pub len dig sign)
theorem fv_t {f : FeedV} (h : FV f) : fv f = true := by simp [fv, h]
theorem fv_f {f : FeedV} (h : ¬ FV f) : fv f = false := by simp [fv, h]
theorem fv_iff {f : FeedV} : fv f = true ↔ FV f := by simp [fv]
theorem hok_t {a b c d : Int} (h : Hok a b c d) : hok a b c d = true := by simp [hok, h]
theorem hok_f {a b c d : Int} (h : ¬ Hok a b c d) : hok a b c d = false := by simp [hok, h]
theorem hok_iff {a b c d : Int} : hok a b c d = true ↔ Hok a b c d := by simp [hok]
theorem FV.small {f : FeedV} (h : FV f) : f.bs.length ≤ 16 := by
  obtain ⟨-, h1, h2, -⟩ := h
  rcases h1 with ⟨h1, -⟩ | ⟨-, -, h1, -⟩ <;> omega
end Go.Proofs.Ytbjndbaljenlgaa
