/- How the entries of all writers that came in read. No condition. -/
import Derived.Test.YthnepmhkeceadaaRows
import Derived.Test.YthnepmhkeceadaaFd
import Derived.ProofKit
import Derived.OpenShut
import Derived.ShutString
import Derived.ChangeOld
import Derived.Deep.Slices
import Derived.Deep.Strs
namespace Go.Proofs.Ythnepmhkeceadaa
open Go.ChangeShapes Go.WideShapes Go.ChangeAt Go.RowKit
section
variable {H : Type} {enc : TypeId × Value → H} {P : Program} {W : World}
theorem add_offF (b off j : Nat) : (⟨b, off, none⟩ : Addr).add j = ⟨b, off + j, none⟩ := by unfold Addr.add; split <;> simp_all
theorem openInts {T E : TypeId} (hT : P.underlying T = some (.slice E)) (hE : P.underlying E = some (.int .i64)) (hc : P.cellsOf E = 1) {fuel : Nat} {cs : List Value} {x : DataW H × List MemPlace}
    (h : DataW.trod enc P W 0 (fun _ => true) true fuel T cs = some x) : ∃ (v : Value) (xs : List Int), cs = [v] ∧ RdS All 1 W v xs.length (enc1 xs) := by
  rcases Go.Deep.open_slice1 hT hc h with ⟨rfl, _⟩ | ⟨a, len, cap, m, n, V, D, Pl, rfl, _, hl, hm, hmm, _, hx⟩
  · exact ⟨_, [], rfl, rfl, .inl rfl, none, 0, rfl, Nat.le_refl _, by simp [maxLen], fun h => absurd rfl h⟩
  · have hm' : m = cap := by simpa using hmm
    subst hm'
    have elem : ∀ i, i < len → ∃ p : Int, W.cell? (a.add i) = some (.int .i64 p) := by
      intro i hi
      obtain ⟨h1, h2⟩ := hx i (by omega)
      obtain ⟨p, hp, _⟩ := DataW.trod_int hE h2
      simp at hp
      exact ⟨p, by rw [h1, hp]⟩
    by_cases hl0 : len = 0
    · subst hl0
      exact ⟨_, [], rfl, rfl, .inr ⟨_, _, _, rfl⟩, _, _, rfl, hl, hm, fun h => absurd rfl h⟩
    · obtain ⟨b, off, spot⟩ := a
      obtain ⟨p0, e0⟩ := elem 0 (by omega)
      have hspot : spot = none := by simpa [Addr.add] using World.cell?_spot e0
      subst hspot
      have build : ∀ n, n ≤ len → ∃ xs : List Int, xs.length = n ∧ ∀ j u, (enc1 xs)[j]? = some u → W.cell? ⟨b, off + j, none⟩ = some u := by
        intro n
        induction n with
        | zero => intro _; exact ⟨[], rfl, fun j u h => by simp [enc1] at h⟩
        | succ n ih =>
          intro hn
          obtain ⟨xs, hxl, hxs⟩ := ih (by omega)
          obtain ⟨p, e1⟩ := elem n (by omega)
          rw [add_offF] at e1
          refine ⟨xs ++ [p], by simp [hxl], fun j u hj => ?_⟩
          rw [enc1_snoc] at hj
          by_cases hj1 : j < (enc1 xs).length
          · rw [List.getElem?_append_left hj1] at hj; exact hxs j u hj
          · rw [List.getElem?_append_right (by omega)] at hj
            rw [enc1_len, hxl] at hj hj1
            obtain ⟨r, hr⟩ : ∃ r, j = n * 1 + r := ⟨j - n * 1, by omega⟩
            subst hr
            rw [show n * 1 + r - n * 1 = r from by omega] at hj
            match r, hj with
            | 0, hj => simp at hj; subst hj; simpa using e1
      obtain ⟨xs, hxl, hxs⟩ := build len (Nat.le_refl _)
      subst hxl
      exact ⟨_, xs, rfl, enc1_len xs, .inr ⟨_, _, _, rfl⟩, _, _, rfl, hl, hm, fun _ => ⟨b, off, rfl, fun j u hj => ⟨trivial, hxs j u hj⟩⟩⟩
theorem openRow {T E I : TypeId} {f0 f1 f2 : Field} (hT : P.underlying T = some (.slice E)) (hE : P.underlying E = some (.struct #[f0, f1, f2])) (hc : P.cellsOf E = 3)
    (o0 : f0.offset = 0) (o1 : f1.offset = 1) (o2 : f2.offset = 2) (i0 : P.underlying f0.type = some (.slice I)) (i1 : P.underlying f1.type = some (.int .i64)) (i2 : P.underlying f2.type = some (.int .i64))
    (c0 : P.cellsOf f0.type = 1) (c1 : P.cellsOf f1.type = 1) (c2 : P.cellsOf f2.type = 1) (hI : P.underlying I = some (.int .i64)) (hcI : P.cellsOf I = 1)
    {fuel : Nat} {cs : List Value} {x : DataW H × List MemPlace} (h : DataW.trod enc P W 0 (fun _ => true) true fuel T cs = some x) : ∃ (v : Value) (es : List Ent), cs = [v] ∧ RdR All W v es := by
  rcases Go.Deep.open_slice hT h with ⟨rfl, _⟩ | ⟨a, len, cap, m, n, D, Pl, rfl, _, hl, hm, hmm, _, hx⟩
  · exact ⟨_, [], rfl, .inl rfl, none, 0, rfl, Nat.le_refl _, by simp [maxLen], fun h => absurd rfl h⟩
  · have hm' : m = cap := by simpa using hmm
    subst hm'
    have elem : ∀ i, i < len → ∃ (cv : Value) (en : Ent), W.cell? (a.add (i * 3)) = some cv ∧ RdS All 1 W cv en.1.length (enc1 en.1) ∧ W.cell? ((a.add (i * 3)).add 1) = some (.int .i64 en.2.1) ∧ W.cell? ((a.add (i * 3)).add 2) = some (.int .i64 en.2.2) := by
      intro i hi
      obtain ⟨cs', h1, h2⟩ := hx i (by omega)
      rw [hc] at h1
      obtain ⟨_, hlen, hcell⟩ := World.cells?_some h1
      obtain ⟨y0, y1, y2, n', _, _, ht0, ht1, ht2⟩ := Go.Deep.trod_struct3 hE h2
      rw [o0, c0] at ht0
      rw [o1, c1] at ht1
      rw [o2, c2] at ht2
      obtain ⟨cv, xs, hcv, hrd⟩ := openInts i0 hI hcI ht0
      obtain ⟨p, hp, _⟩ := DataW.trod_int i1 ht1
      obtain ⟨q, hq, _⟩ := DataW.trod_int i2 ht2
      match cs', hlen with
      | [u, v, z], _ =>
        simp at hcv hp hq
        subst hcv
        subst hp
        subst hq
        have e0 := hcell 0 (by omega)
        have e1 := hcell 1 (by omega)
        have e2 := hcell 2 (by omega)
        have z0 : (a.add (i * 3)).add 0 = a.add (i * 3) := by unfold Addr.add; simp
        rw [z0] at e0
        exact ⟨u, (xs, p, q), by simpa using e0, hrd, by simpa using e1, by simpa using e2⟩
    by_cases hl0 : len = 0
    · subst hl0
      exact ⟨_, [], rfl, .inr ⟨_, _, _, rfl⟩, _, _, rfl, hl, hm, fun h => absurd rfl h⟩
    · obtain ⟨b, off, spot⟩ := a
      obtain ⟨cv0, en0, e0, _⟩ := elem 0 (by omega)
      have hspot : spot = none := by simpa [Addr.add] using World.cell?_spot e0
      subst hspot
      obtain ⟨f, hf⟩ := Go.Deep.choose_lt (α := Ent) (n := len) (p := fun i en => ∃ cv : Value, W.cell? ((⟨b, off, none⟩ : Addr).add (i * 3)) = some cv ∧ RdS All 1 W cv en.1.length (enc1 en.1) ∧ W.cell? (((⟨b, off, none⟩ : Addr).add (i * 3)).add 1) = some (.int .i64 en.2.1) ∧ W.cell? (((⟨b, off, none⟩ : Addr).add (i * 3)).add 2) = some (.int .i64 en.2.2))
        (fun i hi => by obtain ⟨cv, en, g⟩ := elem i hi; exact ⟨en, cv, g⟩)
      obtain ⟨es, hes⟩ : ∃ es : List Ent, es = (List.range len).map f := ⟨_, rfl⟩
      have hel : es.length = len := by rw [hes]; simp
      have hat : ∀ i, i < len → es.getD i Proofs.Ythnepmhkeceadaa.e0 = f i := fun i hi => by rw [hes]; simp [List.getD, hi]
      subst hel
      refine ⟨_, es, rfl, .inr ⟨_, _, _, rfl⟩, _, _, rfl, hl, hm, fun _ => ⟨b, off, rfl, fun i hi => ?_⟩⟩
      rw [hat i hi]
      obtain ⟨cv, g1, g2, g3, g4⟩ := hf i hi
      rw [add_offF] at g1 g3 g4
      rw [add_offF] at g3 g4
      exact ⟨cv, ⟨trivial, g1⟩, g2, ⟨trivial, g3⟩, trivial, g4⟩
theorem openFd {TT T E I : TypeId} {f0 f1 f2 : Field} (hTT : P.underlying TT = some (.slice T)) (hcT : P.cellsOf T = 1) (hT : P.underlying T = some (.slice E)) (hE : P.underlying E = some (.struct #[f0, f1, f2])) (hc : P.cellsOf E = 3)
    (o0 : f0.offset = 0) (o1 : f1.offset = 1) (o2 : f2.offset = 2) (i0 : P.underlying f0.type = some (.slice I)) (i1 : P.underlying f1.type = some (.int .i64)) (i2 : P.underlying f2.type = some (.int .i64))
    (c0 : P.cellsOf f0.type = 1) (c1 : P.cellsOf f1.type = 1) (c2 : P.cellsOf f2.type = 1) (hI : P.underlying I = some (.int .i64)) (hcI : P.cellsOf I = 1)
    {d : DataW H} {ps : List MemPlace} {a : Option Addr} {len cap : Nat} (h : DataW.Trod enc P W 0 (fun _ => true) true TT (Value.slice a len cap) d ps) : ∃ F : Fd, RdF All W (.slice a len cap) F := by
  obtain ⟨fuel, hf⟩ := h
  rcases Go.Deep.open_slice1 hTT hcT hf with ⟨hcs, _⟩ | ⟨x, l, c, m, n, V, D, Pl, hcs, _, hl, hm, hmm, _, hx⟩
  · simp [Value.cells] at hcs
    obtain ⟨rfl, rfl, rfl⟩ := hcs
    exact ⟨[], .inl rfl, none, 0, rfl, Nat.le_refl _, by simp [maxLen], fun h => absurd rfl h⟩
  · simp [Value.cells] at hcs
    obtain ⟨rfl, rfl, rfl⟩ := hcs
    have hm' : m = cap := by simpa using hmm
    subst hm'
    have elem : ∀ i, i < len → ∃ es : List Ent, W.cell? (x.add i) = some (V i) ∧ RdR All W (V i) es := by
      intro i hi
      obtain ⟨h1, h2⟩ := hx i (by omega)
      obtain ⟨v', es, hv, hr⟩ := openRow hT hE hc o0 o1 o2 i0 i1 i2 c0 c1 c2 hI hcI h2
      simp at hv
      subst hv
      exact ⟨es, h1, hr⟩
    by_cases hl0 : len = 0
    · subst hl0
      exact ⟨[], .inr ⟨_, _, _, rfl⟩, _, _, rfl, hl, hm, fun h => absurd rfl h⟩
    · obtain ⟨b, off, spot⟩ := x
      obtain ⟨es0, e0, _⟩ := elem 0 (by omega)
      have hspot : spot = none := by simpa [Addr.add] using World.cell?_spot e0
      subst hspot
      obtain ⟨f, hf⟩ := Go.Deep.choose_lt (α := List Ent) (n := len) (p := fun i es => W.cell? ((⟨b, off, none⟩ : Addr).add i) = some (V i) ∧ RdR All W (V i) es) elem
      obtain ⟨F, hF⟩ : ∃ F : Fd, F = (List.range len).map f := ⟨_, rfl⟩
      have hel : F.length = len := by rw [hF]; simp
      have hat : ∀ i, i < len → F.getD i [] = f i := fun i hi => by rw [hF]; simp [List.getD, hi]
      subst hel
      refine ⟨F, .inr ⟨_, _, _, rfl⟩, _, _, rfl, hl, hm, fun _ => ⟨b, off, rfl, fun i hi => ?_⟩⟩
      rw [hat i hi]
      obtain ⟨g1, g2⟩ := hf i hi
      rw [add_offF] at g1
      exact ⟨V i, ⟨trivial, g1⟩, g2⟩
end
end Go.Proofs.Ythnepmhkeceadaa
