/- Plain laws of feeds: a block forgotten, two honest readers, a fork seen from both sides. -/
import Derived.Test.YtbjndbaljenlgaaFk
namespace Go.Proofs.Ytbjndbaljenlgaa
open Go.RowKit
def forgot (f : FeedV) (k : Nat) : FeedV := ⟨f.pub, f.len, f.dig, f.sign, f.bs.set k ByteArray.empty, f.hv.set k false⟩
theorem getD_set {α : Type} (l : List α) (k i : Nat) (a d : α) (hk : k < l.length) : (l.set k a).getD i d = if i = k then a else l.getD i d := by
  rw [List.getD_eq_getElem?_getD, List.getD_eq_getElem?_getD, List.getElem?_set]
  by_cases e : k = i
  · subst e; simp [hk]
  · rw [if_neg e, if_neg (Ne.symm e)]
theorem forgot_fv {f : FeedV} {k : Nat} (hk : k < f.bs.length) (h : fv f = true) : fv (forgot f k) = true := by
  obtain ⟨h1, h2, h3, h4, h5, h6⟩ := fv_iff.1 h
  have hk2 : k < f.hv.length := by omega
  refine fv_t ⟨h1, h2, by simpa [forgot] using h3, by simpa [forgot] using h4, fun i hi => ?_, .inr (.inl ?_)⟩
  · have := h5 i (by simpa [forgot] using hi)
    unfold Bok forgot at *
    dsimp only
    rw [getD_set _ _ _ _ _ hk, getD_set _ _ _ _ _ hk2]
    by_cases e : i = k
    · rw [if_pos e, if_pos e]; exact ⟨by simp, fun _ => rfl⟩
    · rw [if_neg e, if_neg e]; exact this
  · have hm : false ∈ f.hv.set k false := List.mem_set hk2 false
    unfold cnt forgot
    dsimp only
    intro e
    have := List.count_eq_length.1 e false hm
    cases this
theorem honest {f g : FeedV} (zf : f.len = 0 → f.sign = 0) (zg : g.len = 0 → g.sign = 0) (hf : fv f = true) (hg : fv g = true) (hp : f.pub = g.pub) : fm f g = ((f.len == g.len) && (f.dig != g.dig)) := by
  have F := fv_iff.1 hf
  have G := fv_iff.1 hg
  have key : ∀ {x : FeedV}, (x.len = 0 → x.sign = 0) → FV x → Hz x.len x.dig x.sign ∨ (hok x.pub x.len x.dig x.sign = true ∧ x.len ≠ 0) := fun {x} zx X => by
    rcases X.2.1 with h | h
    · exact .inl h
    · refine .inr ⟨hok_t h, fun e => ?_⟩
      have h0 := zx e
      have := h.2.2.2.2.1.1
      omega
  unfold fm fc
  rw [hf, hg, hp, beq_self_eq_true]
  simp only [Bool.true_and]
  rcases key zf F with h | ⟨h, h0⟩
  · rcases key zg G with k | ⟨k, k0⟩
    · rw [h.1, h.2.1, k.1, k.2.1]; simp
    · have hne : (f.len == g.len) = false := by rw [beq_eq_false_iff_ne]; rw [h.1]; exact Ne.symm k0
      rw [hne]; simp
  · rcases key zg G with k | ⟨k, k0⟩
    · have hne : (f.len == g.len) = false := by rw [beq_eq_false_iff_ne]; rw [k.1]; exact h0
      rw [hne]; simp
    · rw [← hp, h, hp, k]; simp
theorem fm_both {f g : FeedV} (h : fm f g = true) : fm g f = true ∧ fc f.pub f.len f.dig f.sign g.len g.dig g.sign = true ∧ f.pub = g.pub := by
  unfold fm fc at *
  simp only [Bool.and_eq_true, beq_iff_eq, bne_iff_ne] at *
  obtain ⟨⟨⟨h1, h2⟩, h3⟩, ⟨⟨h4, h5⟩, h6⟩, h7⟩ := h
  exact ⟨⟨⟨⟨h2, h1⟩, h3.symm⟩, ⟨⟨h3 ▸ h5, h3 ▸ h4⟩, h6.symm⟩, fun e => h7 e.symm⟩, ⟨⟨⟨h4, h5⟩, h6⟩, h7⟩, h3⟩
end Go.Proofs.Ytbjndbaljenlgaa
