/- The plain laws of DirectoryPut. No condition. -/
import Derived.Test.YtonahamnkbjipaaLSweep
namespace Go.Proofs.Ytonahamnkbjipaa
open Go.RowKit
theorem sorted_tm {ps : List P2} (h : ps.Pairwise (fun a b => a.1 < b.1)) {p : P2} (hp : p ∈ ps) : tm p.1 ps = p.2 := by
  obtain ⟨k, hk, rfl⟩ := List.getElem_of_mem hp
  have e : ps.getD k (0, 0) = ps[k] := by rw [List.getD_eq_getElem?_getD, List.getElem?_eq_getElem hk]; rfl
  rw [List.pairwise_iff_getElem] at h
  rw [← e]
  refine tm_at k hk rfl fun j hj => ?_
  have := h j k (by omega) hk hj
  rw [e, List.getD_eq_getElem?_getD, List.getElem?_eq_getElem (show j < ps.length by omega)]
  simp only [Option.getD_some]
  omega
theorem room_dv {now : Int} {ps : List P2} (h : DV ps) : DV (room now ps) := by
  unfold room; split
  · exact dv_sw h
  · exact h
theorem room_mem {now : Int} {ps : List P2} {p : P2} (h : p ∈ room now ps) : p ∈ ps := by
  unfold room at h; split at h
  · exact (List.mem_filter.1 h).1
  · exact h
theorem lbd_lt {node : Int} {ps : List P2} {p : P2} (h : p ∈ ps.take (lbd node ps)) : p.1 < node := by
  obtain ⟨j, hj, rfl⟩ := List.getElem_of_mem h
  rw [List.length_take] at hj
  rw [List.getElem_take]
  have := List.not_of_lt_findIdx (show j < lbd node ps by omega)
  simpa using this
theorem lbd_ge {node : Int} {ps : List P2} (hs : ps.Pairwise (fun a b => a.1 < b.1)) {p : P2} (h : p ∈ ps.drop (lbd node ps)) : node ≤ p.1 := by
  obtain ⟨j, hj, rfl⟩ := List.getElem_of_mem h
  rw [List.length_drop] at hj
  rw [List.getElem_drop]
  have hk : lbd node ps < ps.length := by omega
  have h0 : node ≤ (ps[lbd node ps]).1 := by
    exact of_decide_eq_true (@List.findIdx_getElem _ (fun p : P2 => decide (node ≤ p.1)) ps hk)
  rw [List.pairwise_iff_getElem] at hs
  by_cases e : j = 0
  · subst e; exact h0
  · have := hs (lbd node ps) (lbd node ps + j) hk (by omega) (by omega)
    omega
theorem ins_dv {node now : Int} {qs : List P2} (h : DV qs) (h8 : qs.length < 8) (hn : 0 ≤ node ∧ node ≤ 99) (hw : 0 ≤ now ∧ now ≤ 999) (hne : ∀ p ∈ qs, p.1 ≠ node) : DV (ins node now qs) := by
  rw [dv_iff] at h ⊢
  obtain ⟨-, h2, h3⟩ := h
  refine ⟨by rw [ins_len]; omega, ?_, ?_⟩
  · intro p hp
    unfold ins at hp
    rcases List.mem_append.1 hp with h | h
    · exact h2 p (List.mem_of_mem_take h)
    · rcases List.mem_append.1 h with h | h
      · rw [List.mem_singleton] at h; subst h; exact ⟨hn.1, hn.2, hw.1, hw.2⟩
      · exact h2 p (List.mem_of_mem_drop h)
  · unfold ins
    rw [List.pairwise_append]
    refine ⟨h3.sublist (List.take_sublist _ _), ?_, ?_⟩
    · rw [List.singleton_append, List.pairwise_cons]
      refine ⟨fun p hp => ?_, h3.sublist (List.drop_sublist _ _)⟩
      have h1 := lbd_ge h3 hp
      have h2 := hne p (List.mem_of_mem_drop hp)
      show node < p.1
      omega
    · intro a ha b hb
      have h1 := lbd_lt ha
      rw [List.singleton_append] at hb
      rcases List.mem_cons.1 hb with rfl | hb
      · exact h1
      · have := lbd_ge h3 hb; omega
theorem mem_ins {node now : Int} {qs : List P2} {p : P2} : p ∈ ins node now qs ↔ p = (node, now) ∨ p ∈ qs := by
  unfold ins
  have e : p ∈ qs ↔ p ∈ qs.take (lbd node qs) ∨ p ∈ qs.drop (lbd node qs) := by rw [← List.mem_append, List.take_append_drop]
  rw [List.mem_append, List.mem_append, List.mem_singleton, e]
  constructor
  · rintro (h | h | h)
    · exact .inr (.inl h)
    · exact .inl h
    · exact .inr (.inr h)
  · rintro (h | h | h)
    · exact .inr (.inl h)
    · exact .inl h
    · exact .inr (.inr h)
theorem upd_dv {now : Int} {i : Nat} {ps : List P2} (h : DV ps) (hi : i < ps.length) (hw : 0 ≤ now ∧ now ≤ 999) : DV (upd now i ps) := by
  have hl : (upd now i ps).length = ps.length := by simp [upd]
  have h1 : ∀ k, k < ps.length → ((upd now i ps).getD k (0, 0)).1 = (ps.getD k (0, 0)).1 ∧ 0 ≤ ((upd now i ps).getD k (0, 0)).2 ∧ ((upd now i ps).getD k (0, 0)).2 ≤ 999 := by
    intro k hk
    have hr := h.2 k hk
    have hri := h.2 i hi
    unfold dvAt at hr hri
    unfold upd
    by_cases e : i = k
    · subst e
      rw [show (ps.set i ((ps.getD i (0, 0)).1, max (ps.getD i (0, 0)).2 now)).getD i (0, 0) = ((ps.getD i (0, 0)).1, max (ps.getD i (0, 0)).2 now) by simp [List.getD, hi]]
      exact ⟨rfl, by simp only []; omega, by simp only []; omega⟩
    · rw [show (ps.set i ((ps.getD i (0, 0)).1, max (ps.getD i (0, 0)).2 now)).getD k (0, 0) = ps.getD k (0, 0) by simp [List.getD, List.getElem?_set_ne e]]
      exact ⟨rfl, hr.2.2.1, hr.2.2.2.1⟩
  refine ⟨by rw [hl]; exact h.1, fun k hk => ?_⟩
  rw [hl] at hk
  have a := h1 k hk
  have hr := h.2 k hk
  refine ⟨by rw [a.1]; exact hr.1, by rw [a.1]; exact hr.2.1, a.2.1, a.2.2, fun hk0 => ?_⟩
  rw [a.1, (h1 (k - 1) (by omega)).1]
  exact hr.2.2.2.2 hk0
/-- the three ways of a put whose arguments are valid -/
theorem put_cases {ps : List P2} {node now : Int} (h : PutArgs ps node now) :
    (∃ i, i < ps.length ∧ (ps.getD i (0, 0)).1 = node ∧ (∀ j, j < i → (ps.getD j (0, 0)).1 ≠ node) ∧ dput ps node now = (upd now i ps, true)) ∨
    ((∀ p ∈ ps, p.1 ≠ node) ∧ 8 ≤ (room now ps).length ∧ dput ps node now = (room now ps, false)) ∨
    ((∀ p ∈ ps, p.1 ≠ node) ∧ (room now ps).length < 8 ∧ dput ps node now = (ins node now (room now ps), true)) := by
  by_cases he : ∃ i, i < ps.length ∧ (ps.getD i (0, 0)).1 = node
  · left
    obtain ⟨i, hi, hk⟩ := he
    have hn : ∀ j, j < i → (ps.getD j (0, 0)).1 ≠ node := fun j hj => by have := dv_lt h.1 j i hj hi; omega
    exact ⟨i, hi, hk, hn, dput_at h i hi hk hn⟩
  · right
    have hn : ∀ j, j < ps.length → (ps.getD j (0, 0)).1 ≠ node := fun j hj e => he ⟨j, hj, e⟩
    have hm : ∀ p ∈ ps, p.1 ≠ node := by
      intro p hp
      obtain ⟨j, hj, rfl⟩ := List.getElem_of_mem hp
      have := hn j hj
      rwa [List.getD_eq_getElem?_getD, List.getElem?_eq_getElem hj] at this
    have hd := dput_none h hn
    by_cases h8 : 8 ≤ (room now ps).length
    · rw [if_pos h8] at hd; exact .inl ⟨hm, h8, hd⟩
    · rw [if_neg h8] at hd; exact .inr ⟨hm, by omega, hd⟩
theorem put_true {ps : List P2} {node now : Int} (h : (dput ps node now).2 = true) : PutArgs ps node now := by
  by_cases hp : PutArgs ps node now
  · exact hp
  · rw [dput_no hp] at h; cases h
theorem put_ne {ps : List P2} {node now : Int} (h : (dput ps node now).1 ≠ []) : PutArgs ps node now := by
  by_cases hp : PutArgs ps node now
  · exact hp
  · rw [dput_no hp] at h; exact absurd rfl h
theorem put_size {ps R : List P2} {node now : Int} (h : dput ps node now = (R, true)) : R.length ≤ 8 ∧ R.length ≤ ps.length + 1 := by
  have hp := put_true (by rw [h])
  have h8 := hp.1.1
  have hr := room_len now ps
  rcases put_cases hp with ⟨i, hi, hk, hn, e⟩ | ⟨hm, h1, e⟩ | ⟨hm, h1, e⟩
  · rw [h] at e; cases e; simp [upd]; omega
  · rw [h] at e; cases e
  · rw [h] at e; cases e; rw [ins_len]; omega
theorem put_dv {ps R : List P2} {node now : Int} (h : dput ps node now = (R, true)) : DV R ∧ ∃ t, (node, t) ∈ R ∧ now ≤ t ∧ tm node ps ≤ t := by
  have hp := put_true (by rw [h])
  rcases put_cases hp with ⟨i, hi, hk, hn, e⟩ | ⟨hm, h1, e⟩ | ⟨hm, h1, e⟩
  · rw [h] at e; cases e
    refine ⟨upd_dv hp.1 hi hp.2.2, max (ps.getD i (0, 0)).2 now, ?_, by omega, ?_⟩
    · have hl : i < (upd now i ps).length := by simp [upd]; exact hi
      have : (upd now i ps)[i] = (node, max (ps.getD i (0, 0)).2 now) := by simp only [upd, List.getElem_set_self]; rw [hk]
      rw [← this]
      exact List.getElem_mem hl
    · rw [tm_at i hi hk hn]; omega
  · rw [h] at e; cases e
  · rw [h] at e; cases e
    refine ⟨ins_dv (room_dv hp.1) h1 hp.2.1 hp.2.2 (fun p hq => hm p (room_mem hq)), now, mem_ins.2 (.inl rfl), Int.le_refl _, ?_⟩
    rw [tm_none]
    · have := hp.2.2.1; omega
    · intro j hj
      have hme := getD_mem hj
      exact hm _ hme
theorem put_time {ps R : List P2} {node now : Int} (h : dput ps node now = (R, true)) : now ≤ tm node R ∧ tm node ps ≤ tm node R := by
  obtain ⟨hd, t, hm, h1, h2⟩ := put_dv h
  have := sorted_tm ((dv_iff R).1 hd).2.2 hm
  simp only [] at this
  rw [this]
  exact ⟨h1, h2⟩
theorem put_twice {ps R : List P2} {node now : Int} (h : dput ps node now = (R, true)) : dput R node now = (R, true) := by
  have hp := put_true (by rw [h])
  obtain ⟨hd, t, hm, h1, -⟩ := put_dv h
  have hpR : PutArgs R node now := ⟨hd, hp.2⟩
  obtain ⟨k, hk, e⟩ := List.getElem_of_mem hm
  have e' : R.getD k (0, 0) = (node, t) := by rw [List.getD_eq_getElem?_getD, List.getElem?_eq_getElem hk]; exact e
  rw [dput_at hpR k hk (by rw [e']) (fun j hj => by have := dv_lt hd j k hj hk; rw [e'] at this; omega)]
  unfold upd
  rw [e']
  simp only [Int.max_eq_left h1]
  rw [← e, List.set_getElem_self hk]
theorem put_full {ps R : List P2} {node now : Int} (h : dput ps node now = (R, false)) (hR : R ≠ []) : R = ps ∧ ps.length = 8 ∧ ∀ k, k < ps.length → now ≤ (ps.getD k (0, 0)).2 + 10 ∧ (ps.getD k (0, 0)).1 ≠ node ∧ 0 ≤ (ps.getD k (0, 0)).2 ∧ (ps.getD k (0, 0)).2 ≤ 999 := by
  have hp := put_ne (ps := ps) (node := node) (now := now) (by rw [h]; exact hR)
  have h8 := hp.1.1
  have hr := room_len now ps
  rcases put_cases hp with ⟨i, hi, hk, hn, e⟩ | ⟨hm, h1, e⟩ | ⟨hm, h1, e⟩
  · rw [h] at e; cases e
  · rw [h] at e; cases e
    have hl : ps.length = 8 := by omega
    have e1 : room now ps = sw now ps := by unfold room; rw [if_pos (by omega)]
    have e2 : sw now ps = ps := by
      unfold sw
      rw [e1] at h1
      exact List.filter_eq_self.2 (List.length_filter_eq_length_iff.1 (by unfold sw at h1; have := List.length_filter_le (keepB now) ps; omega))
    refine ⟨by rw [e1, e2], hl, fun k hk => ⟨?_, hm _ (getD_mem hk), (hp.1.2 k hk).2.2.1, (hp.1.2 k hk).2.2.2.1⟩⟩
    have hmem : ps.getD k (0, 0) ∈ sw now ps := by rw [e2]; exact getD_mem hk
    have := (List.mem_filter.1 hmem).2
    unfold keepB at this
    simpa using this
  · rw [h] at e; cases e
theorem put_others {ps R : List P2} {node now : Int} {b : Bool} (h : dput ps node now = (R, b)) (hR : R ≠ []) (k : Nat) (hk : k < ps.length) (hf : now ≤ (ps.getD k (0, 0)).2 + 10) (hne : (ps.getD k (0, 0)).1 ≠ node) : tm (ps.getD k (0, 0)).1 R = (ps.getD k (0, 0)).2 := by
  have hp := put_ne (ps := ps) (node := node) (now := now) (by rw [h]; exact hR)
  have hme := getD_mem hk
  have hroom : ps.getD k (0, 0) ∈ room now ps := by
    unfold room; split
    · exact List.mem_filter.2 ⟨hme, by unfold keepB; simpa using hf⟩
    · exact hme
  rcases put_cases hp with ⟨i, hi, hki, hn, e⟩ | ⟨hm, h1, e⟩ | ⟨hm, h1, e⟩
  · rw [h] at e; cases e
    refine sorted_tm ((dv_iff _).1 (upd_dv hp.1 hi hp.2.2)).2.2 ?_
    have hik : i ≠ k := fun e => by subst e; exact hne hki
    have hl : k < (upd now i ps).length := by simp [upd]; exact hk
    have : (upd now i ps)[k] = ps.getD k (0, 0) := by
      have e0 : ps.getD k (0, 0) = ps[k] := by rw [List.getD_eq_getElem?_getD, List.getElem?_eq_getElem hk]; rfl
      rw [e0]
      simp only [upd, List.getElem_set_ne hik]
    rw [← this]
    exact List.getElem_mem hl
  · rw [h] at e; cases e
    exact sorted_tm ((dv_iff _).1 (room_dv hp.1)).2.2 hroom
  · rw [h] at e; cases e
    exact sorted_tm ((dv_iff _).1 (ins_dv (room_dv hp.1) h1 hp.2.1 hp.2.2 (fun p hq => hm p (room_mem hq)))).2.2 (mem_ins.2 (.inr hroom))
end Go.Proofs.Ytonahamnkbjipaa
