/- The plain laws of a further entry's clock, and of views. No condition. -/
import Derived.Test.YtbjndbaljenlgaaJn
namespace Go.Proofs.Ytbjndbaljenlgaa
/-- what the first n entries of writer u know of v, or a start -/
noncomputable def stp (F : Fd) (n : Int) (u v : Nat) (a : Int) : Int := if n = 0 then a else max a (ck F u (n - 1).toNat v)
/-- numbers of known entries that exist -/
def Knw (F : Fd) (f : Nat → Int) : Prop := ∀ v, v < 3 → 0 ≤ f v ∧ f v ≤ (ln F v : Int)
/-- what is known behind given numbers of entries -/
noncomputable def nw (F : Fd) (f : Nat → Int) (v : Nat) : Int := stp F (f 2) 2 v (stp F (f 1) 1 v (stp F (f 0) 0 v (f v)))
theorem stp_ge (F : Fd) (n : Int) (u v : Nat) (a : Int) : a ≤ stp F n u v a := by unfold stp; split <;> omega
theorem stp_in (F : Fd) {n : Int} (hn : n ≠ 0) (u v : Nat) (a : Int) : ck F u (n - 1).toNat v ≤ stp F n u v a := by unfold stp; rw [if_neg hn]; omega
theorem nw_ge (F : Fd) (f : Nat → Int) (v : Nat) : f v ≤ nw F f v := by
  unfold nw
  have h0 := stp_ge F (f 0) 0 v (f v)
  have h1 := stp_ge F (f 1) 1 v (stp F (f 0) 0 v (f v))
  have h2 := stp_ge F (f 2) 2 v (stp F (f 1) 1 v (stp F (f 0) 0 v (f v)))
  omega
theorem nw_in (F : Fd) (f : Nat → Int) {u : Nat} (hu : u < 3) (v : Nat) (hn : f u ≠ 0) : ck F u (f u - 1).toNat v ≤ nw F f v := by
  unfold nw
  have h0 := stp_ge F (f 0) 0 v (f v)
  have h1 := stp_ge F (f 1) 1 v (stp F (f 0) 0 v (f v))
  have h2 := stp_ge F (f 2) 2 v (stp F (f 1) 1 v (stp F (f 0) 0 v (f v)))
  obtain rfl | rfl | rfl : u = 0 ∨ u = 1 ∨ u = 2 := by omega
  · have := stp_in F hn 0 v (f v); omega
  · have := stp_in F hn 1 v (stp F (f 0) 0 v (f v)); omega
  · have := stp_in F hn 2 v (stp F (f 1) 1 v (stp F (f 0) 0 v (f v))); omega
theorem stp_cases (F : Fd) (n : Int) (u v : Nat) (a : Int) : stp F n u v a = a ∨ (n ≠ 0 ∧ stp F n u v a = ck F u (n - 1).toNat v) := by
  unfold stp
  by_cases h : n = 0
  · rw [if_pos h]; exact .inl rfl
  · rw [if_neg h]
    rcases Int.le_total a (ck F u (n - 1).toNat v) with h1 | h1
    · exact .inr ⟨h, by omega⟩
    · exact .inl (by omega)
theorem nw_cases (F : Fd) (f : Nat → Int) (v : Nat) : nw F f v = f v ∨ ∃ u, u < 3 ∧ f u ≠ 0 ∧ nw F f v = ck F u (f u - 1).toNat v := by
  unfold nw
  rcases stp_cases F (f 2) 2 v (stp F (f 1) 1 v (stp F (f 0) 0 v (f v))) with h | ⟨hn, h⟩
  · rw [h]
    rcases stp_cases F (f 1) 1 v (stp F (f 0) 0 v (f v)) with h | ⟨hn, h⟩
    · rw [h]
      rcases stp_cases F (f 0) 0 v (f v) with h | ⟨hn, h⟩
      · rw [h]; exact .inl rfl
      · exact .inr ⟨0, by omega, hn, h⟩
    · exact .inr ⟨1, by omega, hn, h⟩
  · exact .inr ⟨2, by omega, hn, h⟩
theorem nw_rng {F : Fd} (h : JV F) {f : Nat → Int} (hf : Knw F f) {v : Nat} (hv : v < 3) : 0 ≤ nw F f v ∧ nw F f v ≤ (ln F v : Int) := by
  rcases nw_cases F f v with e | ⟨u, hu, hn, e⟩
  · rw [e]; exact hf v hv
  · rw [e]
    have := hf u hu
    exact h.rng hu (by omega) hv
/-- What is known is closed: whatever a known entry knows is known. -/
theorem nw_closed {F : Fd} (h : JV F) {f : Nat → Int} (hf : Knw F f) {v k x : Nat} (hv : v < 3) (hk : (k : Int) < nw F f v) (hx : x < 3) : ck F v k x ≤ nw F f x := by
  rcases nw_cases F f v with e | ⟨u, hu, hn, e⟩
  · have hr := hf v hv
    have hn : f v ≠ 0 := by omega
    have h1 := nw_in F f hv x hn
    have h2 := ck_mono h (x := x) hv (show k ≤ (f v - 1).toNat by omega) (by omega) hx
    omega
  · have hr := hf u hu
    have h1 := nw_in F f hu x hn
    have h2 := (h.up hu (i := (f u - 1).toNat) (by omega) hv (k := k) (by omega) hx).2
    omega
/-- the clock of a further entry of writer w -/
noncomputable def newc (F : Fd) (w : Nat) (f : Nat → Int) : List Int := (List.range 3).map fun v => if v = w then (ln F w : Int) + 1 else nw F f v
theorem newc_at (F : Fd) {w : Nat} (f : Nat → Int) {v : Nat} (hv : v < 3) : (newc F w f).getD v 0 = if v = w then (ln F w : Int) + 1 else nw F f v := by
  unfold newc
  simp [List.getD, hv]
theorem newc_ok {F : Fd} (h : JV F) {w : Nat} (hw : w < 3) {f : Nat → Int} (hf : Knw F f) (hfw : f w = (ln F w : Int)) {key val : Int} (hk : 0 ≤ key ∧ key ≤ 9) (hv : 0 ≤ val ∧ val ≤ 99) : AppOk F w (newc F w f, key, val) := by
  refine ⟨by simp [newc], ?_, hk, hv, fun v hv hne => ?_, fun v hv k hk hlt x hx => ?_⟩
  · show (newc F w f).getD w 0 = _
    rw [newc_at F f hw, if_pos rfl]
  · show 0 ≤ (newc F w f).getD v 0 ∧ (newc F w f).getD v 0 ≤ _
    rw [newc_at F f hv, if_neg hne]
    exact nw_rng h hf hv
  · change (k : Int) < (newc F w f).getD v 0 at hlt
    show _ ≤ (newc F w f).getD x 0
    rw [newc_at F f hv] at hlt
    rw [newc_at F f hx]
    have hkn : (k : Int) < nw F f v := by
      split at hlt
      · rename_i e; subst e
        have := nw_ge F f v
        omega
      · exact hlt
    have h1 := nw_closed h hf hv hkn hx
    split
    · rename_i e; subst e
      have := (nw_rng h hf hx).2
      omega
    · exact h1
/-- numbers between the start and the closure of it: what the reference's rounds keep -/
def Btw (F : Fd) (f g : Nat → Int) : Prop := ∀ v, v < 3 → f v ≤ g v ∧ g v ≤ nw F f v
theorem Btw.step {F : Fd} (h : JV F) {f g : Nat → Int} (hf : Knw F f) (hb : Btw F f g) {v x : Nat} (hv : v < 3) (hx : x < 3) (hg : 0 < g v) :
    Btw F f (fun y => if y = x then max (g x) (ck F v (g v - 1).toNat x) else g y) := by
  intro y hy
  have hb1 := hb y hy
  by_cases e : y = x
  · subst e
    simp only [if_true]
    have hv1 := hb v hv
    have := nw_closed h hf hv (k := (g v - 1).toNat) (by omega) hy
    omega
  · simp only [if_neg e]; exact hb1
/-- what a round has reached: the contributions of the writers before v, and of v up to x -/
def Rch (F : Fd) (f g : Nat → Int) (v x : Nat) : Prop := ∀ u, u < 3 → ∀ y, y < 3 → (u < v ∨ (u = v ∧ y < x)) → f u ≠ 0 → ck F u (f u - 1).toNat y ≤ g y
theorem Rch.step {F : Fd} (h : JV F) {f g : Nat → Int} (hf : Knw F f) (hb : Btw F f g) {v x : Nat} (hv : v < 3) (hx : x < 3) (hg : 0 < g v) (hr : Rch F f g v x) :
    Rch F f (fun y => if y = x then max (g x) (ck F v (g v - 1).toNat x) else g y) v (x + 1) := by
  intro u hu y hy huy hn
  have h1 := fun hh => hr u hu y hy hh hn
  have hbv := hb v hv
  have hfv := hf v hv
  by_cases e : y = x
  · subst e
    simp only [if_true]
    by_cases eu : u = v
    · subst eu
      have := ck_mono h (x := y) hu (show (f u - 1).toNat ≤ (g u - 1).toNat by omega) (by have := (nw_rng h hf hu).2; omega) hy
      omega
    · have := h1 (by omega)
      omega
  · simp only [if_neg e]
    exact h1 (by omega)
theorem Rch.zero {F : Fd} {f g : Nat → Int} (hf : Knw F f) (hb : Btw F f g) {v x : Nat} (hv : v < 3) (hg : ¬ 0 < g v) (hr : Rch F f g v x) : Rch F f g (v + 1) 0 := by
  intro u hu y hy huy hn
  by_cases eu : u = v
  · subst eu
    have := hb u hu
    have := hf u hu
    omega
  · exact hr u hu y hy (by omega) hn
theorem Rch.next {F : Fd} {f g : Nat → Int} {v : Nat} (hr : Rch F f g v 3) : Rch F f g (v + 1) 0 := by
  intro u hu y hy huy hn
  exact hr u hu y hy (by omega) hn
theorem Rch.all {F : Fd} {f g : Nat → Int} (hb : Btw F f g) (hr : Rch F f g 3 0) {v : Nat} (hv : v < 3) : g v = nw F f v := by
  have h1 := hb v hv
  rcases nw_cases F f v with e | ⟨u, hu, hn, e⟩
  · omega
  · have := hr u hu v hv (by omega) hn
    omega
/-- once all is reached, it stays so -/
theorem Rch.keep {F : Fd} {f g : Nat → Int} (hr : Rch F f g 3 0) (v x : Nat) : Rch F f g v x := fun u hu y hy _ hn => hr u hu y hy (by omega) hn
theorem nw_congr (F : Fd) {f g : Nat → Int} (h : ∀ v, v < 3 → f v = g v) {v : Nat} (hv : v < 3) : nw F f v = nw F g v := by
  unfold nw
  rw [h 0 (by omega), h 1 (by omega), h 2 (by omega), h v hv]

/-- the last value that a key has among the first n entries of the order -/
noncomputable def lastV (F : Fd) : Nat → Int → Option Int
  | 0, _ => none
  | n + 1, key => if (ent F (wk F n) (pst F n (wk F n))).2.1 = key then some (ent F (wk F n) (pst F n (wk F n))).2.2 else lastV F n key
/-- a view as a list of its pairs, from a function of the keys -/
def vwL (f : Int → Option Int) : Nat → List (Int × Int)
  | 0 => []
  | k + 1 => vwL f k ++ match f k with
    | some v => [((k : Int), v)]
    | none => []
noncomputable def vw (F : Fd) (n : Nat) : List (Int × Int) := vwL (lastV F n) 10
theorem vwL_len (f : Int → Option Int) (k : Nat) : (vwL f k).length ≤ k := by
  induction k with
  | zero => exact Nat.le_refl _
  | succ k ih =>
    unfold vwL
    rw [List.length_append]
    split <;> simp <;> omega
theorem vwL_mem (f : Int → Option Int) (k : Nat) (p : Int × Int) : p ∈ vwL f k ↔ 0 ≤ p.1 ∧ p.1 < k ∧ f p.1 = some p.2 := by
  induction k with
  | zero => simp [vwL]; omega
  | succ k ih =>
    unfold vwL
    rw [List.mem_append, ih]
    cases hf : f k with
    | none =>
      simp only [List.not_mem_nil, or_false]
      constructor
      · rintro ⟨h1, h2, h3⟩; exact ⟨h1, by omega, h3⟩
      · rintro ⟨h1, h2, h3⟩
        refine ⟨h1, ?_, h3⟩
        by_cases e : p.1 = k
        · rw [e, hf] at h3; cases h3
        · omega
    | some v =>
      simp only [List.mem_singleton]
      constructor
      · rintro (⟨h1, h2, h3⟩ | rfl)
        · exact ⟨h1, by omega, h3⟩
        · exact ⟨by simp, by simp; omega, hf⟩
      · rintro ⟨h1, h2, h3⟩
        by_cases e : p.1 = k
        · right
          rw [e, hf] at h3
          cases h3
          exact Prod.ext e rfl
        · left; exact ⟨h1, by omega, h3⟩
theorem vwL_sorted (f : Int → Option Int) (k : Nat) : (vwL f k).Pairwise (fun a b => a.1 < b.1) := by
  induction k with
  | zero => exact List.Pairwise.nil
  | succ k ih =>
    unfold vwL
    rw [List.pairwise_append]
    refine ⟨ih, ?_, ?_⟩
    · split
      · exact List.pairwise_singleton _ _
      · exact List.Pairwise.nil
    · intro a ha b hb
      have := (vwL_mem f k a).1 ha
      split at hb
      · rw [List.mem_singleton] at hb; subst hb; exact this.2.1
      · cases hb
theorem sorted_ext : ∀ (a b : List (Int × Int)), a.Pairwise (fun x y => x.1 < y.1) → b.Pairwise (fun x y => x.1 < y.1) → (∀ x, x ∈ a ↔ x ∈ b) → a = b
  | [], [], _, _, _ => rfl
  | [], y :: b, _, _, h => by have := (h y).2 (List.mem_cons_self ..); cases this
  | x :: a, [], _, _, h => by have := (h x).1 (List.mem_cons_self ..); cases this
  | x :: a, y :: b, ha, hb, h => by
    rw [List.pairwise_cons] at ha hb
    have e : x = y := by
      rcases List.mem_cons.1 ((h x).1 (List.mem_cons_self ..)) with e | h1
      · exact e
      · rcases List.mem_cons.1 ((h y).2 (List.mem_cons_self ..)) with e | h2
        · exact e.symm
        · have := ha.1 y h2
          have := hb.1 x h1
          omega
    subst e
    congr 1
    refine sorted_ext a b ha.2 hb.2 fun z => ⟨fun hz => ?_, fun hz => ?_⟩
    · rcases List.mem_cons.1 ((h z).1 (List.mem_cons_of_mem _ hz)) with e | h1
      · have := ha.1 z hz; rw [e] at this; omega
      · exact h1
    · rcases List.mem_cons.1 ((h z).2 (List.mem_cons_of_mem _ hz)) with e | h1
      · have := hb.1 z hz; rw [e] at this; omega
      · exact h1
/-- the reference's storing of a pair in a view -/
def set32 (p : Int × Int) : Bool → List (Int × Int) → List (Int × Int)
  | put, [] => if put then [] else [p]
  | put, q :: r => (if put = false ∧ p.1 ≤ q.1 then [p] else []) ++ ((if q.1 = p.1 then [] else [q]) ++ set32 p (put || decide (p.1 ≤ q.1)) r)
theorem set32_mem (p : Int × Int) : ∀ (put : Bool) (l : List (Int × Int)) (x : Int × Int), x ∈ set32 p put l ↔ (put = false ∧ x = p) ∨ (x ∈ l ∧ x.1 ≠ p.1)
  | put, [], x => by cases put <;> simp [set32]
  | put, q :: r, x => by
    have h1 : x ∈ (if put = false ∧ p.1 ≤ q.1 then [p] else []) ↔ (put = false ∧ p.1 ≤ q.1) ∧ x = p := by split <;> simp [*]
    have h2 : x ∈ (if q.1 = p.1 then [] else [q]) ↔ q.1 ≠ p.1 ∧ x = q := by split <;> simp [*]
    unfold set32
    rw [List.mem_append, List.mem_append, set32_mem p _ r x, h1, h2, List.mem_cons]
    by_cases hx : x = p
    · subst hx
      by_cases hq : x.1 ≤ q.1
      · cases put <;> simp [hq]
        intro h e; subst e; exact h rfl
      · cases put <;> simp [hq]
        intro h e; subst e; exact h rfl
    · constructor
      · rintro (⟨-, h⟩ | ⟨h, rfl⟩ | ⟨-, h⟩ | ⟨h, h'⟩)
        · exact absurd h hx
        · exact .inr ⟨.inl rfl, h⟩
        · exact absurd h hx
        · exact .inr ⟨.inr h, h'⟩
      · rintro (⟨-, h⟩ | ⟨rfl | h, h'⟩)
        · exact absurd h hx
        · exact .inr (.inl ⟨h', rfl⟩)
        · exact .inr (.inr (.inr ⟨h, h'⟩))
theorem set32_sorted (p : Int × Int) : ∀ (put : Bool) (l : List (Int × Int)), l.Pairwise (fun x y => x.1 < y.1) → (set32 p put l).Pairwise (fun x y => x.1 < y.1)
  | put, [], _ => by cases put <;> simp [set32]
  | put, q :: r, h => by
    rw [List.pairwise_cons] at h
    have ih := fun b => set32_sorted p b r h.2
    have hm := fun b x => (set32_mem p b r x).1
    unfold set32
    by_cases hq : put = false ∧ p.1 ≤ q.1
    · rw [if_pos hq]
      have e : (put || decide (p.1 ≤ q.1)) = true := by simp [hq.2]
      rw [e]
      rw [List.singleton_append, List.pairwise_cons]
      constructor
      · intro x hx
        rcases List.mem_append.1 hx with h1 | h1
        · split at h1
          · cases h1
          · rw [List.mem_singleton] at h1; subst h1; omega
        · rcases hm true x h1 with ⟨h2, -⟩ | ⟨h2, -⟩
          · cases h2
          · have := h.1 x h2; omega
      · rw [List.pairwise_append]
        refine ⟨by split <;> simp, ih true, ?_⟩
        intro a ha b hb
        split at ha
        · cases ha
        · rw [List.mem_singleton] at ha; subst ha
          rcases hm true b hb with ⟨h2, -⟩ | ⟨h2, -⟩
          · cases h2
          · exact h.1 b h2
    · rw [if_neg hq, List.nil_append, List.pairwise_append]
      refine ⟨by split <;> simp, ih _, ?_⟩
      intro a ha b hb
      split at ha
      · cases ha
      · rw [List.mem_singleton] at ha; subst ha
        rcases hm _ b hb with ⟨h2, rfl⟩ | ⟨h2, -⟩
        · rw [Bool.or_eq_false_iff, decide_eq_false_iff_not] at h2; omega
        · exact h.1 b h2
theorem lastV_key {F : Fd} (h : JV F) : ∀ n, n ≤ tot F → ∀ key v, lastV F n key = some v → 0 ≤ key ∧ key ≤ 9 ∧ 0 ≤ v ∧ v ≤ 99 := by
  intro n
  induction n with
  | zero => intro _ key v hv; cases hv
  | succ n ih =>
    intro hn key v hv
    unfold lastV at hv
    have hw := wk_lt h (k := n) (by omega)
    have he := h.2.2.1 (wk F n) hw _ (wk_rdy h (k := n) (by omega)).1
    split at hv
    · rename_i e
      cases hv
      have h1 := he.2.2.1
      have h2 := he.2.2.2.1
      omega
    · exact ih (by omega) key v hv
/-- Storing a further entry's pair is the view of one more entry. -/
theorem vw_step {F : Fd} (h : JV F) {n : Nat} (hn : n < tot F) : set32 ((ent F (wk F n) (pst F n (wk F n))).2) false (vw F n) = vw F (n + 1) := by
  have hw := wk_lt h hn
  have he := h.2.2.1 (wk F n) hw _ (wk_rdy h hn).1
  refine sorted_ext _ _ (set32_sorted _ _ _ (vwL_sorted _ _)) (vwL_sorted _ _) fun x => ?_
  unfold vw
  rw [set32_mem, vwL_mem, vwL_mem]
  conv => rhs; unfold lastV
  have h1 := he.2.2.1
  generalize (ent F (wk F n) (pst F n (wk F n))).2 = p at h1 ⊢
  constructor
  · rintro (⟨-, rfl⟩ | ⟨⟨g1, g2, g3⟩, g4⟩)
    · exact ⟨h1.1, by omega, by rw [if_pos rfl]⟩
    · exact ⟨g1, g2, by rw [if_neg (fun e => g4 e.symm)]; exact g3⟩
  · rintro ⟨g1, g2, g3⟩
    by_cases e : p.1 = x.1
    · rw [if_pos e] at g3
      left
      exact ⟨rfl, Prod.ext e.symm (Option.some.inj g3).symm⟩
    · rw [if_neg e] at g3
      exact .inr ⟨⟨g1, g2, g3⟩, fun e' => e e'.symm⟩
theorem vwL_step (f : Int → Option Int) (key v : Int) (k : Nat) : (vwL (fun x => if key = x then some v else f x) k).length ≤ (vwL f k).length + 1 ∧ ((k : Int) ≤ key → vwL (fun x => if key = x then some v else f x) k = vwL f k) := by
  induction k with
  | zero => exact ⟨by simp [vwL], fun _ => rfl⟩
  | succ k ih =>
    unfold vwL
    by_cases e : key = (k : Int)
    · rw [if_pos e, ih.2 (by omega)]
      refine ⟨by simp, fun h => by omega⟩
    · rw [if_neg e]
      refine ⟨by simp only [List.length_append]; omega, fun h => by rw [ih.2 (by omega)]⟩
theorem vw_len (F : Fd) (n : Nat) : (vw F n).length ≤ n := by
  induction n with
  | zero =>
    have : ∀ k, vwL (lastV F 0) k = [] := by
      intro k
      induction k with
      | zero => rfl
      | succ k ih => unfold vwL; rw [ih]; rfl
    unfold vw
    rw [this]; exact Nat.le_refl _
  | succ n ih =>
    have := (vwL_step (lastV F n) (ent F (wk F n) (pst F n (wk F n))).2.1 (ent F (wk F n) (pst F n (wk F n))).2.2 10).1
    unfold vw at ih ⊢
    have e : lastV F (n + 1) = fun x => if (ent F (wk F n) (pst F n (wk F n))).2.1 = x then some (ent F (wk F n) (pst F n (wk F n))).2.2 else lastV F n x := rfl
    rw [e]
    omega
/-- the places of the first n entries of a writer -/
def rng1 (w n : Nat) : List (Int × Int) := (List.range n).map fun (i : Nat) => ((w : Int), (i : Int))
/-- the places of the entries of the first n writers -/
def rfsN (F : Fd) : Nat → List (Int × Int)
  | 0 => []
  | w + 1 => rfsN F w ++ rng1 w (ln F w)
theorem rng1_succ (w n : Nat) : rng1 w (n + 1) = rng1 w n ++ [((w : Int), (n : Int))] := by
  unfold rng1; rw [List.range_succ, List.map_append]; rfl
theorem rng1_len (w n : Nat) : (rng1 w n).length = n := by simp [rng1]
theorem rfsN_len (F : Fd) : (rfsN F 3).length = tot F := by
  simp only [rfsN, List.length_append, rng1_len, List.length_nil]; unfold tot; omega
theorem rfsN_le {F : Fd} (h : ∀ w, w < 3 → ln F w ≤ 8) : ∀ n, n ≤ 3 → (rfsN F n).length ≤ 8 * n := by
  intro n
  induction n with
  | zero => intro _; exact Nat.le_refl _
  | succ n ih =>
    intro hn
    have := ih (by omega)
    have := h n (by omega)
    simp only [rfsN, List.length_append, rng1_len]
    omega
theorem rfsN_mem {F : Fd} : ∀ n p, p ∈ rfsN F n → ∃ w i : Nat, p = ((w : Int), (i : Int)) ∧ w < n ∧ i < ln F w := by
  intro n
  induction n with
  | zero => intro p hp; cases hp
  | succ n ih =>
    intro p hp
    rcases List.mem_append.1 hp with h | h
    · obtain ⟨w, i, e, h1, h2⟩ := ih p h
      exact ⟨w, i, e, by omega, h2⟩
    · obtain ⟨i, hi, rfl⟩ := List.mem_map.1 h
      exact ⟨n, i, rfl, by omega, List.mem_range.1 hi⟩
theorem mem_rfsN {F : Fd} {w i : Nat} (hi : i < ln F w) : ∀ n, w < n → ((w : Int), (i : Int)) ∈ rfsN F n := by
  intro n
  induction n with
  | zero => intro h; omega
  | succ n ih =>
    intro h
    unfold rfsN
    rw [List.mem_append]
    by_cases e : w = n
    · subst e
      exact .inr (List.mem_map.2 ⟨i, List.mem_range.2 hi, rfl⟩)
    · exact .inl (ih (by omega))
theorem rfs_at {F : Fd} {k : Nat} (hk : k < (rfsN F 3).length) : ∃ w i : Nat, (rfsN F 3).getD k (0, 0) = ((w : Int), (i : Int)) ∧ w < 3 ∧ i < ln F w := by
  rw [List.getD_eq_getElem?_getD, List.getElem?_eq_getElem hk]
  exact rfsN_mem 3 _ (List.getElem_mem hk)
theorem rfs_ix {F : Fd} {w i : Nat} (hw : w < 3) (hi : i < ln F w) : ∃ k, k < (rfsN F 3).length ∧ (rfsN F 3).getD k (0, 0) = ((w : Int), (i : Int)) := by
  obtain ⟨k, hk, e⟩ := List.getElem_of_mem (mem_rfsN hi 3 hw)
  exact ⟨k, hk, by rw [List.getD_eq_getElem?_getD, List.getElem?_eq_getElem hk]; exact e⟩
end Go.Proofs.Ytbjndbaljenlgaa
