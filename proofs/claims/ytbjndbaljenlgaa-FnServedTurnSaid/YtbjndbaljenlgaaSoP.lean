/- The plain law of insertion sort, for whatever comparison. -/
import Derived.Test.YtbjndbaljenlgaaSvP
namespace Go.Proofs.Ytbjndbaljenlgaa
/-- what a comparison must do for a list that is inserted from the left -/
structure Cmp (R lt : Int → Int → Prop) (L0 : List Int) : Prop where
  no : ∀ i, i < L0.length → ∀ b ∈ L0.take i, ¬ lt (L0.getD i 0) b → R b (L0.getD i 0)
  yes : ∀ i, i < L0.length → ∀ b ∈ L0.take i, lt (L0.getD i 0) b → R (L0.getD i 0) b
  tr : ∀ a b c, R a b → R b c → R a c
/-- the first i stand in order -/
def Sorted (R : Int → Int → Prop) (L0 L : List Int) (i : Nat) : Prop := ∃ S, L = S ++ L0.drop i ∧ S.Perm (L0.take i) ∧ S.Pairwise R
/-- the i-th is on its way to its place, now at j -/
def Way (R : Int → Int → Prop) (L0 L : List Int) (i j : Nat) : Prop :=
  ∃ A B, L = A ++ L0.getD i 0 :: (B ++ L0.drop (i + 1)) ∧ A.length = j ∧ (A ++ B).Perm (L0.take i) ∧ (A ++ B).Pairwise R ∧ ∀ b ∈ B, R (L0.getD i 0) b
theorem drop_cons {L0 : List Int} {i : Nat} (h : i < L0.length) : L0.drop i = L0.getD i 0 :: L0.drop (i + 1) := by
  rw [List.drop_eq_getElem_cons h, List.getD_eq_getElem?_getD, List.getElem?_eq_getElem h]; rfl
theorem take_snocI {L0 : List Int} {i : Nat} (h : i < L0.length) : L0.take (i + 1) = L0.take i ++ [L0.getD i 0] := by
  rw [List.take_add_one, List.getElem?_eq_getElem h, List.getD_eq_getElem?_getD, List.getElem?_eq_getElem h]; rfl
theorem Sorted.start (R : Int → Int → Prop) (L0 : List Int) : Sorted R L0 L0 (min 1 L0.length) := by
  cases L0 with
  | nil => exact ⟨[], rfl, by simp, List.Pairwise.nil⟩
  | cons a l => exact ⟨[a], by simp, by simp, by simp⟩
theorem Sorted.way {R : Int → Int → Prop} {L0 L : List Int} {i : Nat} (h : Sorted R L0 L i) (hi : i < L0.length) : Way R L0 L i i := by
  obtain ⟨S, rfl, hp, hs⟩ := h
  refine ⟨S, [], by rw [drop_cons hi]; rfl, by rw [hp.length_eq, List.length_take]; omega, by simpa using hp, by simpa using hs, fun b hb => by cases hb⟩
theorem Sorted.done {R : Int → Int → Prop} {L0 L : List Int} {i : Nat} (h : Sorted R L0 L i) (hi : L0.length ≤ i) : L.Perm L0 ∧ L.Pairwise R := by
  obtain ⟨S, rfl, hp, hs⟩ := h
  rw [List.drop_of_length_le hi, List.append_nil]
  rw [List.take_of_length_le hi] at hp
  exact ⟨hp, hs⟩
theorem Way.len {R : Int → Int → Prop} {L0 L : List Int} {i j : Nat} (h : Way R L0 L i j) (hi : i < L0.length) : L.length = L0.length ∧ j ≤ i := by
  obtain ⟨A, B, rfl, hA, hp, -⟩ := h
  have := hp.length_eq
  simp only [List.length_append, List.length_cons, List.length_take, List.length_drop] at *
  omega
theorem Way.at {R : Int → Int → Prop} {L0 L : List Int} {i j : Nat} (h : Way R L0 L i j) : L.getD j 0 = L0.getD i 0 := by
  obtain ⟨A, B, rfl, rfl, -⟩ := h
  simp [List.getD_eq_getElem?_getD]
theorem Way.mem {R : Int → Int → Prop} {L0 L : List Int} {i j : Nat} (h : Way R L0 L i j) (hi : i < L0.length) (x : Int) (hx : x ∈ L) : x ∈ L0 := by
  obtain ⟨A, B, rfl, hA, hp, -⟩ := h
  have h0 : L0.getD i 0 ∈ L0 := by rw [List.getD_eq_getElem?_getD, List.getElem?_eq_getElem hi]; exact List.getElem_mem hi
  have ht : ∀ y, y ∈ A ++ B → y ∈ L0 := fun y hy => List.mem_of_mem_take (hp.mem_iff.1 hy)
  simp only [List.mem_append, List.mem_cons] at hx ht
  rcases hx with h | h | h | h
  · exact ht x (.inl h)
  · rw [h]; exact h0
  · exact ht x (.inr h)
  · exact List.mem_of_mem_drop h
/-- it stops -/
theorem Way.stop {R lt : Int → Int → Prop} {L0 L : List Int} {i j : Nat} (c : Cmp R lt L0) (h : Way R L0 L i j) (hi : i < L0.length) (hs : j = 0 ∨ ¬ lt (L.getD j 0) (L.getD (j - 1) 0)) : Sorted R L0 L (i + 1) := by
  have hat := h.at
  obtain ⟨A, B, rfl, hA, hp, hw, hb⟩ := h
  refine ⟨A ++ L0.getD i 0 :: B, by simp, ?_, ?_⟩
  · rw [take_snocI hi]
    exact (List.perm_middle.trans (List.Perm.cons _ hp)).trans (List.perm_append_comm (l₁ := [L0.getD i 0]))
  · have hw' := List.pairwise_append.1 hw
    rw [List.pairwise_append]
    refine ⟨hw'.1, List.pairwise_cons.2 ⟨hb, hw'.2.1⟩, fun a ha b hb' => ?_⟩
    have key : R a (L0.getD i 0) := by
      rcases hs with rfl | hs
      · rw [List.eq_nil_of_length_eq_zero hA] at ha; cases ha
      · rcases List.eq_nil_or_concat A with rfl | ⟨A', z, rfl⟩
        · cases ha
        · rw [List.concat_eq_append] at *
          have hj : j = A'.length + 1 := by simpa using hA.symm
          have hz : (A' ++ [z] ++ L0.getD i 0 :: (B ++ L0.drop (i + 1))).getD (j - 1) 0 = z := by
            subst hj
            simp [List.getD_eq_getElem?_getD]
          rw [hat, hz] at hs
          have hzR : R z (L0.getD i 0) := c.no i hi z (hp.mem_iff.1 (by simp)) hs
          rcases List.mem_append.1 ha with h | h
          · exact c.tr _ _ _ ((List.pairwise_append.1 hw'.1).2.2 a h z (by simp)) hzR
          · rw [List.mem_singleton.1 h]; exact hzR
    rcases List.mem_cons.1 hb' with rfl | h
    · exact key
    · exact hw'.2.2 a ha b h
/-- it goes on by one place -/
theorem Way.swap {R lt : Int → Int → Prop} {L0 L : List Int} {i j : Nat} (c : Cmp R lt L0) (h : Way R L0 L i (j + 1)) (hi : i < L0.length) (hs : lt (L.getD (j + 1) 0) (L.getD j 0)) : Way R L0 ((L.set (j + 1) (L.getD j 0)).set j (L.getD (j + 1) 0)) i j := by
  have hat := h.at
  obtain ⟨A, B, rfl, hA, hp, hw, hb⟩ := h
  rcases List.eq_nil_or_concat A with rfl | ⟨A', z, rfl⟩
  · simp at hA
  · rw [List.concat_eq_append] at *
    have hj : j = A'.length := by simpa using hA.symm
    subst hj
    have hz : (A' ++ [z] ++ L0.getD i 0 :: (B ++ L0.drop (i + 1))).getD A'.length 0 = z := by simp [List.getD_eq_getElem?_getD]
    rw [hat, hz] at hs ⊢
    refine ⟨A', z :: B, ?_, rfl, by simpa using hp, by simpa using hw, fun b hb' => ?_⟩
    · simp
    · rcases List.mem_cons.1 hb' with rfl | h
      · exact c.yes i hi _ (hp.mem_iff.1 (by simp)) hs
      · exact hb b h
/-- the order of integers -/
theorem cmp_le (L0 : List Int) : Cmp (· ≤ ·) (· < ·) L0 := ⟨fun _ _ _ _ h => by omega, fun _ _ _ _ h => by omega, fun _ _ _ h g => by omega⟩
/-- the numbers from 0 -/
def upto (n : Nat) : List Int := (List.range n).map fun k : Nat => (k : Int)
theorem upto_len (n : Nat) : (upto n).length = n := by simp [upto]
theorem upto_at (n k : Nat) (h : k < n) : (upto n).getD k 0 = (k : Int) := by simp [upto, List.getD_eq_getElem?_getD, h]
theorem upto_take (n k : Nat) (x : Int) (h : x ∈ (upto n).take k) : ∃ m : Nat, x = (m : Int) ∧ m < k ∧ m < n := by
  unfold upto at h
  rw [← List.map_take, List.take_range] at h
  obtain ⟨m, hm, rfl⟩ := List.mem_map.1 h
  rw [List.mem_range] at hm
  exact ⟨m, rfl, by omega, by omega⟩
def gv (G : List Int) (x : Int) : Int := G.getD x.toNat 0
/-- the comparison of the program's order of peers -/
theorem cmp_ahd (G : List Int) : Cmp (fun a b => 0 ≤ a ∧ 0 ≤ b ∧ ahd G a.toNat b.toNat) (fun a b => gv G b < gv G a) (upto G.length) := by
  refine ⟨fun i hi b hb h => ?_, fun i hi b hb h => ?_, fun a b c h g => ⟨h.1, g.2.1, ahd_trans h.2.2 g.2.2⟩⟩
  all_goals
    rw [upto_len] at hi
    rw [upto_at _ _ hi] at h ⊢
    obtain ⟨m, rfl, h1, h2⟩ := upto_take _ _ _ hb
    unfold gv at h
    simp only [Int.toNat_natCast] at h ⊢
    refine ⟨by omega, by omega, ?_⟩
    unfold ahd
    omega
/-- back to natural numbers -/
theorem nats_of {L : List Int} (h : ∀ x ∈ L, 0 ≤ x) : ∃ N : List Nat, L = N.map fun k : Nat => (k : Int) := by
  refine ⟨L.map Int.toNat, ?_⟩
  rw [List.map_map]
  conv => lhs; rw [← List.map_id L]
  exact List.map_congr_left fun x hx => by have := h x hx; simp; omega
theorem perm_cast {A B : List Nat} (h : (A.map fun k : Nat => (k : Int)).Perm (B.map fun k : Nat => (k : Int))) : A.Perm B := by
  have := h.map Int.toNat
  rw [List.map_map, List.map_map] at this
  simpa [Function.comp_def] using this
theorem pw_cast {A : List Nat} {R : Int → Int → Prop} (h : (A.map fun k : Nat => (k : Int)).Pairwise R) : A.Pairwise fun a b : Nat => R (a : Int) (b : Int) := List.pairwise_map.1 h
end Go.Proofs.Ytbjndbaljenlgaa
