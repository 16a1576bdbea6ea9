/- How a feed that came in by value reads. No condition. -/
import Derived.Test.YtbjndbaljenlgaaRows
import Derived.Test.YtbjndbaljenlgaaEf
import Derived.ProofKit
import Derived.OpenShut
import Derived.ShutString
import Derived.ChangeOld
import Derived.Deep.Slices
import Derived.Deep.Strs
import Derived.Lib.SmallJoins
namespace Go.Proofs.Ytbjndbaljenlgaa
open Go.ChangeShapes Go.WideShapes Go.ChangeAt Go.RowKit
section
variable {H : Type} {enc : TypeId × Value → H} {P : Program} {W : World}
theorem add_offG (b off j : Nat) : (⟨b, off, none⟩ : Addr).add j = ⟨b, off + j, none⟩ := by unfold Addr.add; split <;> simp_all
theorem getD_range {α : Type} (f : Nat → α) (n i : Nat) (d : α) (h : i < n) : ((List.range n).map f).getD i d = f i := by simp [List.getD, h]
theorem openStrs {T E : TypeId} (hT : P.underlying T = some (.slice E)) (hE : P.underlying E = some .string) (hc : P.cellsOf E = 1) {fuel : Nat} {cs : List Value} {x : DataW H × List MemPlace}
    (h : DataW.trod enc P W 0 (fun _ => true) true fuel T cs = some x) : ∃ (v : Value) (xs : List ByteArray), cs = [v] ∧ Rd 1 W v xs.length (encS xs) ∧ Fits xs := by
  rcases Go.Deep.open_strs hT hE hc h with ⟨rfl, _⟩ | ⟨a, len, cap, m, Sx, rfl, _, hl, hm, hmm, _, hx⟩
  · exact ⟨_, [], rfl, ⟨rfl, none, 0, rfl, Nat.le_refl _, by simp [maxLen], fun h => absurd rfl h⟩, fun i hi => absurd hi (Nat.not_lt_zero _)⟩
  · have hm' : m = cap := by simpa using hmm
    subst hm'
    obtain ⟨xs, hxs⟩ : ∃ xs, xs = (List.range len).map Sx := ⟨_, rfl⟩
    have hxl : xs.length = len := by rw [hxs]; simp
    have hat : ∀ i, i < len → xs.getD i ByteArray.empty = Sx i := fun i hi => by rw [hxs]; exact getD_range _ _ _ _ hi
    subst hxl
    refine ⟨_, xs, rfl, ⟨by rw [encS_len, Nat.mul_one], _, _, rfl, hl, hm, fun hn => ?_⟩, fun i hi => by rw [hat i hi]; exact (hx i (by omega)).2⟩
    obtain ⟨b, off, spot⟩ := a
    have h0 := (hx 0 (by omega)).1
    have hspot : spot = none := by simpa [Addr.add] using World.cell?_spot h0
    subst hspot
    refine ⟨b, off, rfl, fun j u hj => ?_⟩
    have hjl : j < xs.length := by have := (List.getElem?_eq_some_iff.1 hj).1; rwa [encS_len] at this
    rw [encS_at xs j hjl, hat j hjl] at hj
    have h1 := (hx j (by omega)).1
    rw [add_offG] at h1
    rw [h1, ← hj]
theorem openBools {T E : TypeId} (hT : P.underlying T = some (.slice E)) (hE : P.underlying E = some .bool) (hc : P.cellsOf E = 1) {fuel : Nat} {cs : List Value} {x : DataW H × List MemPlace}
    (h : DataW.trod enc P W 0 (fun _ => true) true fuel T cs = some x) : ∃ (v : Value) (xs : List Bool), cs = [v] ∧ Rd 1 W v xs.length (encB xs) := by
  rcases Go.Deep.open_slice1 hT hc h with ⟨rfl, _⟩ | ⟨a, len, cap, m, n, V, D, Pl, rfl, _, hl, hm, hmm, _, hx⟩
  · exact ⟨_, [], rfl, rfl, none, 0, rfl, Nat.le_refl _, by simp [maxLen], fun h => absurd rfl h⟩
  · have hm' : m = cap := by simpa using hmm
    subst hm'
    have elem : ∀ i, i < len → ∃ p : Bool, W.cell? (a.add i) = some (.bool p) := by
      intro i hi
      obtain ⟨h1, h2⟩ := hx i (by omega)
      obtain ⟨p, hp, _⟩ := DataW.trod_bool hE h2
      simp at hp
      exact ⟨p, by rw [h1, hp]⟩
    obtain ⟨f, hf⟩ := Go.Deep.choose_lt (α := Bool) (n := len) (p := fun i p => W.cell? (a.add i) = some (.bool p)) elem
    obtain ⟨xs, hxs⟩ : ∃ xs, xs = (List.range len).map f := ⟨_, rfl⟩
    have hxl : xs.length = len := by rw [hxs]; simp
    have hat : ∀ i, i < len → xs.getD i false = f i := fun i hi => by rw [hxs]; exact getD_range _ _ _ _ hi
    subst hxl
    refine ⟨_, xs, rfl, by rw [encB_len, Nat.mul_one], _, _, rfl, hl, hm, fun hn => ?_⟩
    obtain ⟨b, off, spot⟩ := a
    have h0 := hf 0 (by omega)
    have hspot : spot = none := by simpa [Addr.add] using World.cell?_spot h0
    subst hspot
    refine ⟨b, off, rfl, fun j u hj => ?_⟩
    have hjl : j < xs.length := by have := (List.getElem?_eq_some_iff.1 hj).1; rwa [encB_len] at this
    rw [encB_at xs j hjl, hat j hjl] at hj
    have h1 := hf j hjl
    rw [add_offG] at h1
    rw [h1, ← hj]
theorem array6 {α : Type} {cs : Array α} (h : cs.size = 6) : ∃ c0 c1 c2 c3 c4 c5, cs = #[c0, c1, c2, c3, c4, c5] := by
  obtain ⟨l⟩ := cs
  match l, h with
  | [c0, c1, c2, c3, c4, c5], _ => exact ⟨c0, c1, c2, c3, c4, c5, rfl⟩
theorem cellsF : Try.prog.cellsOf 57 = 6 := by kernel_rfl
theorem cellsH : Try.prog.cellsOf 55 = 3 := by kernel_rfl
theorem cellsI : Try.prog.cellsOf 3 = 1 := by kernel_rfl
theorem cellsSS : Try.prog.cellsOf 36 = 1 := by kernel_rfl
theorem cellsBS : Try.prog.cellsOf 37 = 1 := by kernel_rfl
set_option maxRecDepth 100000 in
theorem openFeed {r : Reach} {b0 : Nat} {v : Value} {d : DataW H} {ps : List MemPlace} (hv : Value.okWide Try.prog W r b0 57 v) (h : DataW.Trod enc Try.prog W 0 (fun _ => true) true 57 v d ps) :
    ∃ (f : FeedV) (vb vh : Value), v = .agg #[.int .i64 f.pub, .int .i64 f.len, .int .i64 f.dig, .int .i64 f.sign, vb, vh] ∧ Rd 1 W vb f.bs.length (encS f.bs) ∧ Rd 1 W vh f.hv.length (encB f.hv) ∧ Fits f.bs := by
  obtain ⟨cs, rfl, hsz⟩ := okWide_struct Try.underlying57 hv
  rw [cellsF] at hsz
  obtain ⟨c0, c1, c2, c3, c4, c5, rfl⟩ := array6 hsz
  obtain ⟨fuel, hf⟩ := h
  obtain ⟨y0, y1, y2, y3, n, -, -, h0, h1, h2, h3⟩ := Joins.trod_struct4 Try.underlying57 hf
  simp only [cellsI, cellsH, cellsSS, cellsBS, Value.cells] at h0 h1 h2 h3
  obtain ⟨z0, z1, z2, m, -, -, g0, g1, g2⟩ := Go.Deep.trod_struct3 Try.underlying55 h1
  simp only [cellsI] at g0 g1 g2
  obtain ⟨p, ep, -⟩ := DataW.trod_int Try.underlying3 h0
  obtain ⟨len, el, -⟩ := DataW.trod_int Try.underlying3 g0
  obtain ⟨dig, ed, -⟩ := DataW.trod_int Try.underlying3 g1
  obtain ⟨sign, es, -⟩ := DataW.trod_int Try.underlying3 g2
  obtain ⟨vb, bs, eb, rb, fb⟩ := openStrs Try.underlying36 Try.underlying9 (by kernel_rfl) h2
  obtain ⟨vh, hs, eh, rh⟩ := openBools Try.underlying37 Try.underlying4 (by kernel_rfl) h3
  simp at ep el ed es eb eh
  subst ep el ed es eb eh
  exact ⟨⟨p, len, dig, sign, bs, hs⟩, _, _, rfl, rb, rh, fb⟩
end
end Go.Proofs.Ytbjndbaljenlgaa
