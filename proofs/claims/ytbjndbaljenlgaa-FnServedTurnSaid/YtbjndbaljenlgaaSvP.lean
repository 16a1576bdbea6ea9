/- The plain law of serving: who comes ahead, ranks, the best, the others, the turn. -/
import Derived.Test.YtbjndbaljenlgaaBase
namespace Go.Proofs.Ytbjndbaljenlgaa
/-- k gave more than i, or as much and has the smaller number -/
def ahd (G : List Int) (k i : Nat) : Prop := G.getD i 0 < G.getD k 0 ∨ (G.getD k 0 = G.getD i 0 ∧ k < i)
instance (G : List Int) (k i : Nat) : Decidable (ahd G k i) := by unfold ahd; exact inferInstance
theorem ahd_irr (G : List Int) (i : Nat) : ¬ ahd G i i := by unfold ahd; omega
theorem ahd_asym {G : List Int} {i k : Nat} (h : ahd G i k) : ¬ ahd G k i := by unfold ahd at *; omega
theorem ahd_trans {G : List Int} {i k l : Nat} (h : ahd G i k) (g : ahd G k l) : ahd G i l := by unfold ahd at *; omega
theorem ahd_tot {G : List Int} {i k : Nat} (h : i ≠ k) : ahd G i k ∨ ahd G k i := by unfold ahd; omega
theorem ahd_ge {G : List Int} {i k : Nat} (h : ahd G i k) : G.getD k 0 ≤ G.getD i 0 := by unfold ahd at h; omega
def rk (G : List Int) (i : Nat) : Nat := (List.range G.length).countP fun k => decide (ahd G k i)
theorem rk_mono {G : List Int} {i k : Nat} (hi : i < G.length) (h : ahd G i k) : rk G i < rk G k := by
  have hp : (List.range G.length).Perm (i :: (List.range G.length).erase i) := List.perm_cons_erase (List.mem_range.2 hi)
  unfold rk
  rw [hp.countP_eq, hp.countP_eq, List.countP_cons, List.countP_cons]
  simp only [ahd_irr, decide_false, h, decide_true]
  have : ((List.range G.length).erase i).countP (fun l => decide (ahd G l i)) ≤ ((List.range G.length).erase i).countP (fun l => decide (ahd G l k)) :=
    List.countP_mono_left fun x _ hx => by simp only [decide_eq_true_eq] at hx ⊢; exact ahd_trans hx h
  simp
  omega
theorem rk_lt_iff {G : List Int} {i k : Nat} (hi : i < G.length) (hk : k < G.length) : rk G i < rk G k ↔ ahd G i k := by
  constructor
  · intro h
    by_cases e : i = k
    · subst e; omega
    · rcases ahd_tot (G := G) e with g | g
      · exact g
      · have := rk_mono hk g; omega
  · exact rk_mono hi
theorem rk_inj {G : List Int} {i k : Nat} (hi : i < G.length) (hk : k < G.length) (h : rk G i = rk G k) : i = k := by
  by_cases e : i = k
  · exact e
  · rcases ahd_tot (G := G) e with g | g
    · have := rk_mono hi g; omega
    · have := rk_mono hk g; omega
/-- the first few of the order are those of small rank -/
theorem best_iff {G : List Int} {out : List Nat} (hs : ∀ x ∈ out, x < G.length) (hp : out.Pairwise (ahd G)) (hr : ∀ i, i < G.length → i ∉ out → ∀ x ∈ out, ahd G x i) (i : Nat) (hi : i < G.length) : i ∈ out ↔ rk G i < out.length := by
  have hnd : out.Nodup := hp.imp fun {a b} h e => by subst e; exact ahd_irr G a h
  have hpm : (List.range G.length).Perm (out ++ (List.range G.length).filter fun x => decide (x ∉ out)) := by
    rw [List.perm_ext_iff_of_nodup List.nodup_range]
    · intro a
      simp only [List.mem_append, List.mem_filter, List.mem_range, decide_eq_true_eq]
      constructor
      · intro h
        by_cases g : a ∈ out
        · exact .inl g
        · exact .inr ⟨h, g⟩
      · rintro (h | h)
        · exact hs a h
        · exact h.1
    · rw [List.nodup_append]
      exact ⟨hnd, List.nodup_range.sublist List.filter_sublist, fun a ha b hb e => by subst e; simp only [List.mem_filter, decide_eq_true_eq] at hb; exact hb.2 ha⟩
  have hrk : ∀ j, rk G j = out.countP (fun k => decide (ahd G k j)) + ((List.range G.length).filter fun x => decide (x ∉ out)).countP (fun k => decide (ahd G k j)) := fun j => by
    unfold rk; rw [hpm.countP_eq, List.countP_append]
  constructor
  · intro h
    obtain ⟨a, b, rfl⟩ := List.append_of_mem h
    have h2 : ((List.range G.length).filter fun x => decide (x ∉ a ++ i :: b)).countP (fun k => decide (ahd G k i)) = 0 := by
      rw [List.countP_eq_zero]
      intro x hx
      simp only [List.mem_filter, List.mem_range, decide_eq_true_eq] at hx ⊢
      exact ahd_asym (hr x hx.1 hx.2 i h)
    rw [hrk, h2, List.countP_append, List.countP_cons]
    have h3 : b.countP (fun k => decide (ahd G k i)) = 0 := by
      rw [List.countP_eq_zero]
      intro x hx
      simp only [decide_eq_true_eq]
      have := (List.pairwise_append.1 hp).2.1
      exact ahd_asym ((List.pairwise_cons.1 this).1 x hx)
    have h4 := List.countP_le_length (p := fun k => decide (ahd G k i)) (l := a)
    simp only [ahd_irr, decide_false, h3, List.length_append, List.length_cons]
    simp
    omega
  · intro h
    by_cases g : i ∈ out
    · exact g
    · have h1 : out.countP (fun k => decide (ahd G k i)) = out.length := by
        rw [List.countP_eq_length]
        intro x hx
        simp only [decide_eq_true_eq]
        exact hr i hi g x hx
      have := hrk i
      omega
/-- a strictly ascending list is known by its members -/
theorem asc_eq {a b : List Nat} (ha : a.Pairwise (· < ·)) (hb : b.Pairwise (· < ·)) (h : ∀ x, x ∈ a ↔ x ∈ b) : a = b := by
  have na : a.Nodup := ha.imp fun h => by omega
  have nb : b.Nodup := hb.imp fun h => by omega
  exact List.Perm.eq_of_pairwise (fun x y _ _ h1 h2 => by omega) ha hb ((List.perm_ext_iff_of_nodup na nb).2 h)
theorem range_asc (n : Nat) : (List.range n).Pairwise (· < ·) := List.pairwise_lt_range
theorem filter_asc (n : Nat) (p : Nat → Bool) : ((List.range n).filter p).Pairwise (· < ·) := (range_asc n).sublist List.filter_sublist
def bst (G : List Int) : List Nat := (List.range G.length).filter fun i => decide (rk G i < 3)
def rst (G : List Int) : List Nat := (List.range G.length).filter fun i => decide (¬ rk G i < 3)
def tn (G : List Int) (t : Int) : Int := if (rst G).length = 0 then -1 else (((rst G).getD (t.toNat % (rst G).length) 0 : Nat) : Int)
def okG (G : List Int) (t : Int) : Prop := (∀ x ∈ G, 0 ≤ x ∧ x ≤ 99) ∧ G.length ≤ 6 ∧ 0 ≤ t ∧ t ≤ 999
def srv (G : List Int) (t : Int) : List Nat := (List.range G.length).filter fun i => decide (rk G i < 3 ∨ (i : Int) = tn G t)
theorem mem_bst {G : List Int} {i : Nat} : i ∈ bst G ↔ i < G.length ∧ rk G i < 3 := by simp [bst]
theorem mem_rst {G : List Int} {i : Nat} : i ∈ rst G ↔ i < G.length ∧ ¬ rk G i < 3 := by simp [rst]
theorem mem_srv {G : List Int} {t : Int} {i : Nat} : i ∈ srv G t ↔ i < G.length ∧ (rk G i < 3 ∨ (i : Int) = tn G t) := by simp [srv]
theorem tn_mem {G : List Int} {t : Int} (h : (rst G).length ≠ 0) : ∃ k, k ∈ rst G ∧ tn G t = (k : Int) := by
  have hl : t.toNat % (rst G).length < (rst G).length := Nat.mod_lt _ (by omega)
  refine ⟨(rst G).getD (t.toNat % (rst G).length) 0, ?_, by unfold tn; rw [if_neg h]⟩
  rw [List.getD_eq_getElem?_getD, List.getElem?_eq_getElem hl]
  exact List.getElem_mem hl
/-- the best of an order whose first entries are given -/
theorem best_eq {G : List Int} {out : List Nat} (hs : ∀ x ∈ out, x < G.length) (hp : out.Pairwise (ahd G)) (hr : ∀ i, i < G.length → i ∉ out → ∀ x ∈ out, ahd G x i) (hl : out.length = min 3 G.length) (i : Nat) : i ∈ out ↔ i ∈ bst G := by
  rw [mem_bst]
  have rkl : ∀ i, rk G i ≤ G.length := fun i => by
    have := List.countP_le_length (p := fun k => decide (ahd G k i)) (l := List.range G.length)
    simp only [List.length_range] at this
    exact this
  have hall : i < G.length → rk G i < G.length := fun hi => by
    have hpm : (List.range G.length).Perm (i :: (List.range G.length).erase i) := List.perm_cons_erase (List.mem_range.2 hi)
    have h1 := List.countP_le_length (p := fun k => decide (ahd G k i)) (l := (List.range G.length).erase i)
    have h2 : ((List.range G.length).erase i).length = G.length - 1 := by rw [List.length_erase_of_mem (List.mem_range.2 hi), List.length_range]
    have h3 : rk G i = ((List.range G.length).erase i).countP fun k => decide (ahd G k i) := by
      unfold rk; rw [hpm.countP_eq, List.countP_cons]; simp [ahd_irr]
    omega
  constructor
  · intro h
    have := (best_iff hs hp hr i (hs i h)).1 h
    exact ⟨hs i h, by omega⟩
  · rintro ⟨h1, h2⟩
    exact (best_iff hs hp hr i h1).2 (by have := hall h1; omega)
/-- the program's order: the first entries, sorted, are the best, the others the rest -/
theorem best_sorted {G : List Int} {o a b : List Nat} (hp : o.Perm (List.range G.length)) (hs : o.Pairwise (ahd G)) (ha : a.Pairwise (· < ·)) (hb : b.Pairwise (· < ·)) (pa : a.Perm (o.take (min 3 G.length))) (pb : b.Perm (o.drop (min 3 G.length))) : a = bst G ∧ b = rst G := by
  have hm : ∀ x, x ∈ o ↔ x < G.length := fun x => by rw [hp.mem_iff, List.mem_range]
  have hlen : o.length = G.length := by rw [hp.length_eq, List.length_range]
  have htd : o.take (min 3 G.length) ++ o.drop (min 3 G.length) = o := List.take_append_drop _ _
  have hpw := List.pairwise_append.1 (htd.symm ▸ hs)
  have hT : ∀ i, i ∈ o.take (min 3 G.length) ↔ i ∈ bst G := fun i => by
    refine best_eq (fun x hx => (hm x).1 (List.mem_of_mem_take hx)) hpw.1 (fun i hi hn x hx => ?_) (by simp; omega) i
    have : i ∈ o.drop (min 3 G.length) := by
      have h1 := (hm i).2 hi
      rw [← htd, List.mem_append] at h1
      exact h1.resolve_left hn
    exact hpw.2.2 x hx i this
  have hnd : o.Nodup := hs.imp fun {a b} h e => by subst e; exact ahd_irr G a h
  constructor
  · exact asc_eq ha (filter_asc _ _) fun x => by rw [pa.mem_iff]; exact hT x
  · refine asc_eq hb (filter_asc _ _) fun x => ?_
    show x ∈ b ↔ x ∈ rst G
    rw [pb.mem_iff, mem_rst]
    have hx := hT x
    rw [mem_bst] at hx
    constructor
    · intro h
      have h1 : x < G.length := (hm x).1 (List.mem_of_mem_drop h)
      refine ⟨h1, fun h2 => ?_⟩
      rw [← htd, List.nodup_append] at hnd
      exact hnd.2.2 x (hx.2 ⟨h1, h2⟩) x h rfl
    · rintro ⟨h1, h2⟩
      have h3 := (hm x).2 h1
      rw [← htd, List.mem_append] at h3
      exact h3.resolve_left fun h => h2 (hx.1 h).2
/-- the best and the turn, sorted -/
theorem srv_sorted {G : List Int} {t : Int} {a : List Nat} {k : Nat} (ha : a.Pairwise (· ≤ ·)) (pa : a.Perm (bst G ++ [k])) (hk : k ∈ rst G) (ht : tn G t = (k : Int)) : a = srv G t := by
  have hk1 := mem_rst.1 hk
  have hnd : a.Nodup := by
    rw [pa.nodup_iff, List.nodup_append]
    exact ⟨(filter_asc _ _).imp fun h => by omega, by simp, fun x hx y hy e => by simp at hy; subst hy; subst e; exact hk1.2 (mem_bst.1 hx).2⟩
  refine asc_eq ?_ (filter_asc _ _) fun x => ?_
  · rw [List.pairwise_iff_getElem] at ha ⊢
    intro i j hi hj hij
    have h1 := ha i j hi hj hij
    have h2 : a[i] ≠ a[j] := (List.pairwise_iff_getElem.1 hnd) i j hi hj hij
    omega
  · show x ∈ a ↔ x ∈ srv G t
    rw [pa.mem_iff, mem_srv, List.mem_append, mem_bst, List.mem_singleton, ht]
    constructor
    · rintro (⟨h1, h2⟩ | rfl)
      · exact ⟨h1, .inl h2⟩
      · exact ⟨hk1.1, .inr rfl⟩
    · rintro ⟨h1, h2 | h2⟩
      · exact .inl ⟨h1, h2⟩
      · exact .inr (by omega)
theorem srv_none {G : List Int} {t : Int} (h : (rst G).length = 0) : srv G t = bst G := by
  unfold srv bst
  refine List.filter_congr fun x _ => ?_
  have : tn G t = -1 := by unfold tn; rw [if_pos h]
  rw [this]
  simp
/-- FnServedBest: whoever has fewer than three at least as good others is served -/
theorem law_best {G : List Int} {t : Int} {i : Nat} (hi : i < G.length) (n : Nat) (hn : n = (List.range G.length).countP fun k => decide (k ≠ i ∧ G.getD i 0 ≤ G.getD k 0)) (h3 : n < 3) : i ∈ srv G t := by
  rw [mem_srv]
  refine ⟨hi, .inl ?_⟩
  have : rk G i ≤ n := by
    rw [hn]
    unfold rk
    exact List.countP_mono_left fun x _ hx => by
      simp only [decide_eq_true_eq] at hx ⊢
      exact ⟨fun e => by subst e; exact ahd_irr _ _ hx, ahd_ge hx⟩
  omega
/-- FnServedTurn -/
theorem law_turn {G : List Int} {t : Int} {i o : Nat} (hi : i < G.length) (h1 : i ∉ srv G t) (h2 : o ∈ srv G t) (h3 : (o : Int) ≠ tn G t) : ¬ G.getD o 0 < G.getD i 0 := by
  rw [mem_srv] at h1 h2
  obtain ⟨ho, h2⟩ := h2
  have h2 := h2.resolve_right h3
  have hr : rk G o < rk G i := by
    have : ¬ rk G i < 3 := fun h => h1 ⟨hi, .inl h⟩
    omega
  have := ahd_ge ((rk_lt_iff ho hi).1 hr)
  omega
theorem rst_pos {G : List Int} (h : 3 < G.length) : (rst G).length ≠ 0 := by
  intro h0
  have he : rst G = [] := List.eq_nil_of_length_eq_zero h0
  have hall : ∀ i, i < G.length → rk G i < 3 := fun i hi => Decidable.byContradiction fun hc => by
    have : i ∈ rst G := mem_rst.2 ⟨hi, hc⟩
    rw [he] at this
    cases this
  have a0 := hall 0 (by omega)
  have a1 := hall 1 (by omega)
  have a2 := hall 2 (by omega)
  have a3 := hall 3 (by omega)
  have n01 : rk G 0 ≠ rk G 1 := fun e => by have := rk_inj (by omega) (by omega) e; omega
  have n02 : rk G 0 ≠ rk G 2 := fun e => by have := rk_inj (by omega) (by omega) e; omega
  have n03 : rk G 0 ≠ rk G 3 := fun e => by have := rk_inj (by omega) (by omega) e; omega
  have n12 : rk G 1 ≠ rk G 2 := fun e => by have := rk_inj (by omega) (by omega) e; omega
  have n13 : rk G 1 ≠ rk G 3 := fun e => by have := rk_inj (by omega) (by omega) e; omega
  have n23 : rk G 2 ≠ rk G 3 := fun e => by have := rk_inj (by omega) (by omega) e; omega
  omega
end Go.Proofs.Ytbjndbaljenlgaa
