/- Plain words and lemmas: how a slice reads as a list of cells (Rd), and small steps. No condition. -/
import Derived.WalkKit
import Derived.Lib.Hide
import Derived.WalkSmall
import Derived.Laws.AppendOwnNone
namespace Go.Proofs.Ytbjndbaljenlgaa
open Go.RowKit

abbrev P2 := Int × Int
def enc1 (zs : List Int) : List Value := zs.map (Value.int .i64)
def enc2 : List P2 → List Value
  | [] => []
  | p :: r => .int .i64 p.1 :: .int .i64 p.2 :: enc2 r

theorem enc1_len (zs : List Int) : (enc1 zs).length = zs.length * 1 := by simp [enc1]
theorem enc2_len (ps : List P2) : (enc2 ps).length = ps.length * 2 := by
  induction ps with
  | nil => rfl
  | cons p r ih => simp only [enc2, List.length_cons, ih]; omega
theorem enc1_app (xs ys : List Int) : enc1 (xs ++ ys) = enc1 xs ++ enc1 ys := by simp [enc1]
theorem enc2_app (xs ys : List P2) : enc2 (xs ++ ys) = enc2 xs ++ enc2 ys := by
  induction xs with
  | nil => rfl
  | cons p r ih => simp only [enc2, List.cons_append, ih]
theorem enc1_at (zs : List Int) (k : Nat) (d : Int) (h : k < zs.length) : (enc1 zs)[k]? = some (.int .i64 (zs.getD k d)) := by
  simp [enc1, List.getD, h]
theorem enc2_at (ps : List P2) : ∀ (k : Nat) (d : P2), k < ps.length →
    (enc2 ps)[k * 2]? = some (.int .i64 (ps.getD k d).1) ∧ (enc2 ps)[k * 2 + 1]? = some (.int .i64 (ps.getD k d).2) := by
  induction ps with
  | nil => intro k d h; simp at h
  | cons p r ih =>
    intro k d h
    cases k with
    | zero => simp [enc2]
    | succ k =>
      have := ih k d (by simpa using h)
      have e1 : (k + 1) * 2 = k * 2 + 1 + 1 := by omega
      rw [e1]
      simpa [enc2] using this

theorem enc2_one (ps : List P2) : ∀ u ∈ enc2 ps, u.oneCell' = true := by
  induction ps with
  | nil => intro u h; simp [enc2] at h
  | cons p r ih => intro u h; simp only [enc2, List.mem_cons] at h; rcases h with rfl | rfl | h <;> first | rfl | exact ih u h
/-- The slice v has n elements of sz cells, and these cells, in order, are 'flat'. -/
def Rd (sz : Nat) (w : World) (v : Value) (n : Nat) (flat : List Value) : Prop :=
  flat.length = n * sz ∧ ∃ a cap, v = .slice a n cap ∧ n ≤ cap ∧ cap ≤ maxLen ∧
    (n ≠ 0 → ∃ b off, a = some ⟨b, off, none⟩ ∧ ∀ j u, flat[j]? = some u → w.cell? ⟨b, off + j, none⟩ = some u)

theorem cell_keep {w w' : World} (hb : Below w.heap.size w w') {a : Addr} {u : Value} (h : w.cell? a = some u) : w'.cell? a = some u :=
  (hb.cell (World.block_lt_of_cell? w a h)).trans h
theorem Rd.below {sz : Nat} {w w' : World} {v : Value} {n : Nat} {flat : List Value} (h : Rd sz w v n flat) (hb : Below w.heap.size w w') : Rd sz w' v n flat := by
  obtain ⟨hl, a, cap, hv, h1, h2, h3⟩ := h
  refine ⟨hl, a, cap, hv, h1, h2, fun hn => ?_⟩
  obtain ⟨b, off, ha, hc⟩ := h3 hn
  exact ⟨b, off, ha, fun j u hj => cell_keep hb (hc j u hj)⟩
theorem Rd.of_own {w : World} {base : Nat} {e : TypeId} {sz : Nat} {v : Value} {n : Nat} {xs : List Value} (h : w.ownsRow base e sz v n xs) : Rd sz w v n xs := by
  refine ⟨h.1, ?_⟩
  have hcells := fun g => h.cells (g := g)
  rcases h.2 with ⟨rfl, rfl⟩ | ⟨g, cap, cur, rfl, hb, hh, hn, hm, hs, ht⟩
  · exact ⟨none, 0, rfl, Nat.le_refl _, by simp [maxLen], fun h => absurd rfl h⟩
  · refine ⟨_, cap, rfl, hn, hm, fun _ => ⟨g, 0, rfl, fun j u hj => ?_⟩⟩
    have := hcells g rfl j u hj
    have hadd : (⟨g, 0, none⟩ : Addr).add j = ⟨g, 0 + j, none⟩ := by unfold Addr.add; split <;> simp_all
    rwa [hadd] at this
theorem at1 {w wr : World} {b off : Nat} {zs : List Int} (hb : Below w.heap.size w wr) (hcell : ∀ j u, (enc1 zs)[j]? = some u → w.cell? ⟨b, off + j, none⟩ = some u)
    (k : Nat) (hk : k < zs.length) : ∃ z, zs.getD k 0 = z ∧ wr.cell? ⟨b, off + k, none⟩ = some (.int .i64 z) :=
  ⟨_, rfl, cell_keep hb (hcell _ _ (enc1_at zs k 0 hk))⟩
theorem at2 {w wr : World} {b off : Nat} {ps : List P2} (hb : Below w.heap.size w wr) (hcell : ∀ j u, (enc2 ps)[j]? = some u → w.cell? ⟨b, off + j, none⟩ = some u)
    (k : Nat) (hk : k < ps.length) : ∃ x y, ps.getD k (0, 0) = (x, y) ∧ wr.cell? ⟨b, off + k * 2, none⟩ = some (.int .i64 x) ∧ wr.cell? ⟨b, off + k * 2 + 1, none⟩ = some (.int .i64 y) :=
  ⟨_, _, rfl, cell_keep hb (hcell _ _ (enc2_at ps k (0, 0) hk).1), by have := cell_keep hb (hcell _ _ (enc2_at ps k (0, 0) hk).2); rwa [← Nat.add_assoc] at this⟩
/-- the pairs k, k+1; k+2, k+3; .. that a marking writes -/
def marks2 (k : Int) : Nat → List P2
  | 0 => []
  | n + 1 => marks2 k n ++ [(k + 2 * n, k + 2 * n + 1)]
def marks1 (k : Int) : Nat → List Int
  | 0 => []
  | n + 1 => marks1 k n ++ [k + n]
theorem marks2_len (k : Int) (n : Nat) : (marks2 k n).length = n := by induction n <;> simp [marks2, *]
theorem marks1_len (k : Int) (n : Nat) : (marks1 k n).length = n := by induction n <;> simp [marks1, *]
theorem marks2_at (k : Int) (n i : Nat) (d : P2) (h : i < n) : (marks2 k n).getD i d = (k + 2 * i, k + 2 * i + 1) := by
  induction n with
  | zero => omega
  | succ n ih =>
    rw [marks2, List.getD_eq_getElem?_getD]
    by_cases hi : i < n
    · rw [List.getElem?_append_left (by rw [marks2_len]; exact hi), ← List.getD_eq_getElem?_getD]; exact ih hi
    · obtain rfl : i = n := by omega
      rw [List.getElem?_append_right (by rw [marks2_len]; omega), marks2_len]; simp
theorem marks1_at (k : Int) (n i : Nat) (d : Int) (h : i < n) : (marks1 k n).getD i d = k + i := by
  induction n with
  | zero => omega
  | succ n ih =>
    rw [marks1, List.getD_eq_getElem?_getD]
    by_cases hi : i < n
    · rw [List.getElem?_append_left (by rw [marks1_len]; exact hi), ← List.getD_eq_getElem?_getD]; exact ih hi
    · obtain rfl : i = n := by omega
      rw [List.getElem?_append_right (by rw [marks1_len]; omega), marks1_len]; simp
theorem take_step {α : Type} (xs ys : List α) (k : Nat) (u : α) (hk : k < xs.length) (h : xs.take k = ys) : (xs.set k u).take (k + 1) = ys ++ [u] := by
  subst h
  rw [List.take_add_one, List.take_set_of_le (Nat.le_refl k)]
  simp [hk]
theorem take_step2 {α : Type} (xs ys : List α) (k : Nat) (u v : α) (hk : k * 2 + 1 < xs.length) (h : xs.take (k * 2) = ys) : ((xs.set (k * 2) u).set (k * 2 + 1) v).take ((k + 1) * 2) = ys ++ [u, v] := by
  have e : (k + 1) * 2 = k * 2 + 1 + 1 := by omega
  rw [e, take_step _ (ys ++ [u]) (k * 2 + 1) v (by simpa using hk) (take_step _ _ _ _ (by omega) h)]
  simp
theorem enc2_snoc (ps : List P2) (p : P2) : enc2 (ps ++ [p]) = enc2 ps ++ [.int .i64 p.1, .int .i64 p.2] := by rw [enc2_app]; rfl
theorem enc1_snoc (ps : List Int) (p : Int) : enc1 (ps ++ [p]) = enc1 ps ++ [.int .i64 p] := by rw [enc1_app]; rfl
theorem take_snoc_getD {α : Type} (ps : List α) (k : Nat) (d : α) (h : k < ps.length) : ps.take (k + 1) = ps.take k ++ [ps.getD k d] := by
  rw [List.take_succ_eq_append_getElem h, List.getD_eq_getElem?_getD, List.getElem?_eq_getElem h]; rfl
/-- An owned slice lies in a block from its base on that is there. -/
theorem own_block {w : World} {base : Nat} {e : TypeId} {sz : Nat} {v : Value} {n : Nat} {xs : List Value} (h : w.ownsRow base e sz v n xs) (k : Nat) (hk : v.ownBlock = some k) : base ≤ k ∧ k < w.heap.size := h.lt k hk
/-- Two slices, the second of which was made when the first was there, lie apart. -/
theorem own_apart {w w' : World} {b1 b2 : Nat} {e1 e2 : TypeId} {s1 s2 : Nat} {v1 v2 : Value} {n1 n2 : Nat} {x1 x2 : List Value}
    (h1 : w.ownsRow b1 e1 s1 v1 n1 x1) (h2 : w'.ownsRow b2 e2 s2 v2 n2 x2) (hb : w.heap.size ≤ b2) : (v1.ownBlock = none ∨ v1.ownBlock ≠ v2.ownBlock) ∧ (v2.ownBlock = none ∨ v2.ownBlock ≠ v1.ownBlock) := by
  cases e1 : v1.ownBlock with
  | none => exact ⟨.inl rfl, by cases e2 : v2.ownBlock <;> simp⟩
  | some a =>
    cases e2 : v2.ownBlock with
    | none => exact ⟨.inr (by simp), .inl rfl⟩
    | some b =>
      have ha := h1.lt a e1
      have hb := h2.lt b e2
      exact ⟨.inr (by simp; omega), .inr (by simp; omega)⟩
theorem grown_below {w w' : World} {row : Option Nat} {B : Nat} (hg : w.grownBy w' row) (hB : B ≤ w.heap.size) (hr : ∀ k, row = some k → B ≤ k) : Below B w w' := (Below.refl B w).grown hg hB hr
theorem below_grown {w w' : World} (hb : Below w.heap.size w w') (row : Option Nat) : w.grownBy w' row := ⟨hb.os, hb.tape, hb.output, hb.size, fun k hk _ => hb.block k hk⟩
theorem own_below {w w' : World} {base : Nat} {e : TypeId} {sz : Nat} {v : Value} {n : Nat} {xs : List Value} (h : w.ownsRow base e sz v n xs) (hb : Below w.heap.size w w') : w'.ownsRow base e sz v n xs :=
  h.kept (below_grown hb none) (by cases hv : v.ownBlock <;> simp)
theorem own_base {w : World} {base base' : Nat} {e : TypeId} {sz : Nat} {v : Value} {n : Nat} {xs : List Value} (h : w.ownsRow base e sz v n xs) (hb : base' ≤ base) : w.ownsRow base' e sz v n xs := by
  refine ⟨h.1, ?_⟩
  rcases h.2 with h' | ⟨g, cap, cur, hv, hg, r⟩
  · exact .inl h'
  · exact .inr ⟨g, cap, cur, hv, by omega, r⟩
theorem own_slice {w : World} {base : Nat} {e : TypeId} {sz : Nat} {v : Value} {n : Nat} {xs : List Value} (h : w.ownsRow base e sz v n xs) : ∃ a cap, v = .slice a n cap := by
  rcases h.2 with ⟨rfl, rfl⟩ | ⟨g, cap, cur, hv, hg, r⟩
  · exact ⟨_, _, rfl⟩
  · exact ⟨_, _, hv⟩
theorem own_cases {w : World} {base : Nat} {e : TypeId} {sz : Nat} {v : Value} {n : Nat} {xs : List Value} (h : w.ownsRow base e sz v n xs) :
    (v = .slice none 0 0 ∧ n = 0 ∧ xs = []) ∨ ∃ g cap, v = .slice (some ⟨g, 0, none⟩) n cap ∧ base ≤ g ∧ g < w.heap.size ∧ n ≤ cap ∧ cap ≤ maxLen := by
  rcases h.2 with ⟨rfl, rfl⟩ | ⟨g, cap, cur, hv, hg, hh, hn, hm, r⟩
  · exact .inl ⟨rfl, rfl, List.eq_nil_of_length_eq_zero (by simpa using h.1)⟩
  · exact .inr ⟨g, cap, hv, hg, (Array.getElem?_eq_some_iff.1 hh).1, hn, hm⟩
/-- A result that is a slice of the call's own: its cells are 'flat'; what was there before stands. -/
def RetOwn (e sz : Nat) (n : Nat) (flat : List Value) (w : World) (en : Ending) (w' : World) : Prop :=
  ∃ v, en = .returned v ∧ w'.ownsRow w.heap.size e sz v n flat ∧ Below w.heap.size w w'
/-- A slice of the call's own and a bool. -/
def RetOwnB (e sz : Nat) (n : Nat) (flat : List Value) (b : Bool) (w : World) (en : Ending) (w' : World) : Prop :=
  ∃ v, en = .returned (.tuple #[v, .bool b]) ∧ w'.ownsRow w.heap.size e sz v n flat ∧ Below w.heap.size w w'
theorem grown_set {w w' : World} {g : Nat} (h : w.grownBy w' (some g)) {j : Nat} {u : Value} : w.grownBy (w'.setCell ⟨g, j, none⟩ u) (some g) :=
  ⟨h.os, h.tape, h.output, by simpa using h.size, fun k hk hne => by rw [heap_setCell_other w' ⟨g, j, none⟩ k u (fun e => hne (by simp [e]))]; exact h.block k hk hne⟩
abbrev zero2 : Value := .agg #[.int .i64 0, .int .i64 0]
theorem grown_of_alloc {w w' : World} {o : Obj} {row : Option Nat} (h : (w.alloc o).grownBy w' row) : w.grownBy w' row :=
  ⟨h.os, h.tape, h.output, by have := h.size; simp at this; omega, fun k hk hne => (h.block k (by simp; omega) hne).trans (heap_alloc_old w o hk)⟩
/-- append(out, x), x a struct of two ints, out a slice of the call's own. -/
theorem wpList_app2 {P : Program} (w : World) {ops : Array Oper} {rest : List Oper} {o : Oper} {a : Act} {Q : Exit → Act → World → Prop} (hgd : o.guard = none) (s x : Operand) (t : TypeId)
    (ho : o.op = .call { callee := .builtin .append, args := #[s, x], argTypes := #[t, t] }) (base : Nat) (e : TypeId) (hu : P.underlying t = some (.slice e))
    (hinfo : (P.info? e).map (fun i => (i.zero, i.size, i.bytes)) = some (some zero2, 2, 16)) (v : Value) (ps : List P2) (hs : a.eval s = v) (hown : w.ownsRow base e 2 v ps.length (enc2 ps))
    (p1 p2 : Int) (T : TypeId) (c : Nat) (hx : a.eval x = .slice (some ⟨w.heap.size, 0, none⟩) 1 c) (hn : ps.length ≤ 1099511627776) (hb : base ≤ w.heap.size)
    (h : ∀ v' w' qs, Hid (qs = ps ++ [(p1, p2)]) → qs.length ≤ ps.length + 1 → w'.ownsRow base e 2 v' qs.length (enc2 qs) → w.grownBy w' v.ownBlock → wpList P ops Q rest (a.put o.dst v') w') :
    wpList P ops Q (o :: rest) a (w.alloc (.cells #[.int .i64 p1, .int .i64 p2] T)) := by
  obtain ⟨i0, hi, hz0, hz1, hz2⟩ := info_parts hinfo
  refine wpList_append_own _ hgd s x t ho base e i0 zero2 2 16 hu hi hz0 hz1 hz2 rfl (by decide) v ps.length (enc2 ps) hs (hown.alloc _) ⟨w.heap.size, 0, none⟩ 1 c [.int .i64 p1, .int .i64 p2] hx rfl ?_ ?_ ?_ ?_ ?_ ?_
  · intro j u hj
    match j, hj with
    | 0, hj => simp at hj; subst hj; simp [Addr.add]
    | 1, hj => simp at hj; subst hj; simp [Addr.add]
  · intro u hu; simp at hu; rcases hu with rfl | rfl <;> rfl
  · unfold maxLen; omega
  · omega
  · simp; omega
  · intro v' w' h1 h2 _
    refine h v' w' _ rfl (by simp) ?_ (grown_of_alloc h2)
    rw [List.length_append, enc2_snoc]
    exact h1
/-- append(out, x), x an int, out a slice of the call's own. -/
theorem wpList_app1 {P : Program} (w : World) {ops : Array Oper} {rest : List Oper} {o : Oper} {a : Act} {Q : Exit → Act → World → Prop} (hgd : o.guard = none) (s x : Operand) (t : TypeId)
    (ho : o.op = .call { callee := .builtin .append, args := #[s, x], argTypes := #[t, t] }) (base : Nat) (e : TypeId) (hu : P.underlying t = some (.slice e))
    (hinfo : (P.info? e).map (fun i => (i.zero, i.size, i.bytes)) = some (some (.int .i64 0), 1, 8)) (v : Value) (ps : List Int) (hs : a.eval s = v) (hown : w.ownsRow base e 1 v ps.length (enc1 ps))
    (p1 : Int) (T : TypeId) (c : Nat) (hx : a.eval x = .slice (some ⟨w.heap.size, 0, none⟩) 1 c) (hn : ps.length ≤ 1099511627776) (hb : base ≤ w.heap.size)
    (h : ∀ v' w' qs, Hid (qs = ps ++ [p1]) → qs.length ≤ ps.length + 1 → w'.ownsRow base e 1 v' qs.length (enc1 qs) → w.grownBy w' v.ownBlock → wpList P ops Q rest (a.put o.dst v') w') :
    wpList P ops Q (o :: rest) a (w.alloc (.cells #[.int .i64 p1] T)) := by
  obtain ⟨i0, hi, hz0, hz1, hz2⟩ := info_parts hinfo
  refine wpList_append_own _ hgd s x t ho base e i0 (.int .i64 0) 1 8 hu hi hz0 hz1 hz2 rfl (by decide) v ps.length (enc1 ps) hs (hown.alloc _) ⟨w.heap.size, 0, none⟩ 1 c [.int .i64 p1] hx rfl ?_ ?_ ?_ ?_ ?_ ?_
  · intro j u hj
    match j, hj with
    | 0, hj => simp at hj; subst hj; simp [Addr.add]
  · intro u hu; simp at hu; subst hu; rfl
  · unfold maxLen; omega
  · omega
  · simp; omega
  · intro v' w' h1 h2 _
    refine h v' w' _ rfl (by simp) ?_ (grown_of_alloc h2)
    rw [List.length_append, enc1_snoc]
    exact h1
/-- an empty slice literal -/
theorem own_empty (w : World) (base : Nat) (e : TypeId) (sz : Nat) (hb : base ≤ w.heap.size) : (w.alloc (.cells #[] e)).ownsRow base e sz (.slice (some ⟨w.heap.size, 0, none⟩) 0 0) 0 [] :=
  World.ownsRow_made w #[] 0 hb (by simp [maxLen]) (by simp)
/-- A slice value as Go's own: nil, or at an address. -/
def Sl (v : Value) : Prop := v = .slice none 0 0 ∨ ∃ b off n cap, v = .slice (some ⟨b, off, none⟩) n cap
theorem Sl.of_own {w : World} {base : Nat} {e : TypeId} {sz : Nat} {v : Value} {n : Nat} {xs : List Value} (h : w.ownsRow base e sz v n xs) : Sl v := by
  rcases own_cases h with ⟨rfl, -⟩ | ⟨g, cap, rfl, -⟩
  · exact .inl rfl
  · exact .inr ⟨_, _, _, _, rfl⟩
/-- append(out, xs...), elements of two ints, out a slice of the call's own. -/
theorem wpList_apps2 {P : Program} (w : World) {ops : Array Oper} {rest : List Oper} {o : Oper} {a : Act} {Q : Exit → Act → World → Prop} (hgd : o.guard = none) (s x : Operand) (t : TypeId)
    (ho : o.op = .call { callee := .builtin .append, args := #[s, x], argTypes := #[t, t] }) (base : Nat) (e : TypeId) (hu : P.underlying t = some (.slice e))
    (hinfo : (P.info? e).map (fun i => (i.zero, i.size, i.bytes)) = some (some zero2, 2, 16)) (v : Value) (ps : List P2) (hs : a.eval s = v) (hown : w.ownsRow base e 2 v ps.length (enc2 ps))
    (xv : Value) (qs : List P2) (hx : a.eval x = xv) (hsl : Sl xv) (hrd : Rd 2 w xv qs.length (enc2 qs)) (hn : ps.length + qs.length ≤ 1099511627776) (hb : base ≤ w.heap.size)
    (h : ∀ v' w' rs, Hid (rs = ps ++ qs) → rs.length ≤ ps.length + qs.length → w'.ownsRow base e 2 v' rs.length (enc2 rs) → w.grownBy w' v.ownBlock → wpList P ops Q rest (a.put o.dst v') w') :
    wpList P ops Q (o :: rest) a w := by
  obtain ⟨i0, hi, hz0, hz1, hz2⟩ := info_parts hinfo
  rcases hsl with rfl | ⟨b, off, n, cap, rfl⟩
  · have hq : qs = [] := by
      obtain ⟨-, a2, c2, e2, -⟩ := hrd
      simp at e2
      exact List.eq_nil_of_length_eq_zero e2.2.1.symm
    subst hq
    refine wpList_append_own_none hgd s x t ho base e i0 2 hu hi v ps.length (enc2 ps) hs hown hx ?_
    exact h v w (ps ++ []) rfl (by simp) (by simpa using hown) (World.grownBy.refl _ _)
  · obtain ⟨hl, a2, c2, e2, h1, h2, h3⟩ := hrd
    simp at e2
    obtain ⟨rfl, rfl, rfl⟩ := e2
    refine wpList_append_own _ hgd s x t ho base e i0 zero2 2 16 hu hi hz0 hz1 hz2 rfl (by decide) v ps.length (enc2 ps) hs hown ⟨b, off, none⟩ qs.length cap (enc2 qs) hx (enc2_len qs) ?_ (enc2_one qs) ?_ ?_ hb ?_
    · intro j u hj
      have hne : qs.length ≠ 0 := by
        intro h0
        rw [List.eq_nil_of_length_eq_zero h0] at hj
        simp [enc2] at hj
      obtain ⟨b', off', ha, hc⟩ := h3 hne
      simp at ha
      obtain ⟨rfl, rfl⟩ := ha
      have hadd : (⟨b, off, none⟩ : Addr).add j = ⟨b, off + j, none⟩ := by unfold Addr.add; split <;> simp_all
      rw [hadd]
      exact hc j u hj
    · unfold maxLen; omega
    · omega
    · intro v' w' g1 g2 _
      refine h v' w' _ rfl (by simp) ?_ g2
      rw [List.length_append, enc2_app]
      exact g1
end Go.Proofs.Ytbjndbaljenlgaa
