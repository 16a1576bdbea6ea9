/- How a slice of structs of two ints that came in reads. No condition. -/
import Derived.Test.YtonahamnkbjipaaRows
import Derived.Test.YtonahamnkbjipaaBase
import Derived.ProofKit
import Derived.OpenShut
import Derived.ShutString
import Derived.ChangeOld
import Derived.Deep.Slices
namespace Go.Proofs.Ytonahamnkbjipaa
open Go.ChangeShapes Go.WideShapes Go.ChangeAt Go.RowKit
theorem add_off (b off j : Nat) : (⟨b, off, none⟩ : Addr).add j = ⟨b, off + j, none⟩ := by unfold Addr.add; split <;> simp_all
theorem rd2_open {H : Type} {enc : TypeId × Value → H} {P : Program} {W : World} (T E : TypeId) {f0 f1 : Field} (hT : P.underlying T = some (.slice E)) (hE : P.underlying E = some (.struct #[f0, f1])) (hc : P.cellsOf E = 2)
    (o0 : f0.offset = 0) (o1 : f1.offset = 1) (i0 : P.underlying f0.type = some (.int .i64)) (i1 : P.underlying f1.type = some (.int .i64)) (c0 : P.cellsOf f0.type = 1) (c1 : P.cellsOf f1.type = 1)
    {a : Option Addr} {len cap : Nat} {d : DataW H} {ps : List MemPlace} (h : DataW.Trod enc P W 0 (fun _ => true) true T (Value.slice a len cap) d ps) :
    ∃ xs : List P2, xs.length = len ∧ Rd 2 W (.slice a len cap) len (enc2 xs) := by
  obtain ⟨fuel, hf⟩ := h
  rcases Go.Deep.open_slice hT hf with ⟨hcs, _⟩ | ⟨x, l, c, m, n, D, Pl, hcs, _, hl, hm, hmm, _, hx⟩
  · simp [Value.cells] at hcs
    obtain ⟨rfl, rfl, rfl⟩ := hcs
    exact ⟨[], rfl, rfl, none, 0, rfl, Nat.le_refl _, by simp [maxLen], fun h => absurd rfl h⟩
  · simp [Value.cells] at hcs
    obtain ⟨rfl, rfl, rfl⟩ := hcs
    have hm' : m = cap := by simpa using hmm
    subst hm'
    have elem : ∀ i, i < m → ∃ p q : Int, W.cell? (x.add (i * 2)) = some (.int .i64 p) ∧ W.cell? ((x.add (i * 2)).add 1) = some (.int .i64 q) := by
      intro i hi
      obtain ⟨cs', h1, h2⟩ := hx i hi
      rw [hc] at h1
      obtain ⟨_, hlen, hcell⟩ := World.cells?_some h1
      obtain ⟨y0, y1, n', _, _, ht0, ht1⟩ := trod_struct2 hE h2
      rw [o0, c0] at ht0
      rw [o1, c1] at ht1
      obtain ⟨p, hp, _⟩ := DataW.trod_int i0 ht0
      obtain ⟨q, hq, _⟩ := DataW.trod_int i1 ht1
      match cs', hlen with
      | [u, v], _ =>
        simp at hp hq
        subst hp
        subst hq
        have e0 := hcell 0 (by omega)
        have e1 := hcell 1 (by omega)
        refine ⟨p, q, ?_, by simpa using e1⟩
        have z : (x.add (i * 2)).add 0 = x.add (i * 2) := by unfold Addr.add; simp
        rw [z] at e0
        simpa using e0
    by_cases hl0 : len = 0
    · subst hl0
      exact ⟨[], rfl, rfl, _, _, rfl, hl, hm, fun h => absurd rfl h⟩
    · obtain ⟨b, off, spot⟩ := x
      obtain ⟨p0, q0, e0, _⟩ := elem 0 (by omega)
      have hspot : spot = none := by simpa [Addr.add] using World.cell?_spot e0
      subst hspot
      have build : ∀ n, n ≤ len → ∃ xs : List P2, xs.length = n ∧ ∀ j u, (enc2 xs)[j]? = some u → W.cell? ⟨b, off + j, none⟩ = some u := by
        intro n
        induction n with
        | zero => intro _; exact ⟨[], rfl, fun j u h => by simp [enc2] at h⟩
        | succ n ih =>
          intro hn
          obtain ⟨xs, hxl, hxs⟩ := ih (by omega)
          obtain ⟨p, q, e0, e1⟩ := elem n (by omega)
          rw [add_off] at e0 e1
          rw [add_off] at e1
          refine ⟨xs ++ [(p, q)], by simp [hxl], fun j u hj => ?_⟩
          rw [enc2_snoc] at hj
          by_cases hj1 : j < (enc2 xs).length
          · rw [List.getElem?_append_left hj1] at hj; exact hxs j u hj
          · rw [List.getElem?_append_right (by omega)] at hj
            rw [enc2_len, hxl] at hj hj1
            obtain ⟨r, hr⟩ : ∃ r, j = n * 2 + r := ⟨j - n * 2, by omega⟩
            subst hr
            rw [show n * 2 + r - n * 2 = r from by omega] at hj
            match r, hj with
            | 0, hj => simp at hj; subst hj; exact e0
            | 1, hj => simp at hj; subst hj; rw [← Nat.add_assoc]; exact e1
      obtain ⟨xs, hxl, hxs⟩ := build len (Nat.le_refl _)
      exact ⟨xs, hxl, by rw [enc2_len, hxl], _, _, rfl, hl, hm, fun _ => ⟨b, off, rfl, hxs⟩⟩
end Go.Proofs.Ytonahamnkbjipaa
