/- The plain words and laws of joined feeds: when entries are valid, their order, what is stable. No condition. -/
namespace Go.Proofs.Ytbjndbaljenlgaa
/-- an entry: clock, (key, value) -/
abbrev Ent := List Int × Int × Int
abbrev Fd := List (List Ent)
def ent (F : Fd) (w i : Nat) : Ent := (F.getD w []).getD i ([], 0, 0)
def ln (F : Fd) (w : Nat) : Nat := (F.getD w []).length
def ck (F : Fd) (w i v : Nat) : Int := (ent F w i).1.getD v 0
def EntOk (F : Fd) (w i : Nat) : Prop :=
  (ent F w i).1.length = 3 ∧ ck F w i w = (i : Int) + 1 ∧ (0 ≤ (ent F w i).2.1 ∧ (ent F w i).2.1 ≤ 9) ∧ (0 ≤ (ent F w i).2.2 ∧ (ent F w i).2.2 ≤ 99) ∧ ∀ v, v < 3 → 0 ≤ ck F w i v ∧ ck F w i v ≤ (ln F v : Int)
def PairOk (F : Fd) (w i v k : Nat) : Prop :=
  (w = v ∧ i = k) ∨ ck F w i v ≤ (k : Int) ∨ ((∀ x, x < 3 → ck F v k x ≤ ck F w i x) ∧ ck F v k w ≤ (i : Int))
def JV (F : Fd) : Prop :=
  F.length = 3 ∧ (∀ w, w < 3 → ln F w ≤ 8) ∧ (∀ w, w < 3 → ∀ i, i < ln F w → EntOk F w i) ∧
    ∀ w, w < 3 → ∀ i, i < ln F w → ∀ v, v < 3 → ∀ k, k < ln F v → PairOk F w i v k
/-- what a valid entry (v, k) that (w, i) knows, itself included, is to it -/
theorem JV.up {F : Fd} (h : JV F) {w i v k x : Nat} (hw : w < 3) (hi : i < ln F w) (hv : v < 3) (hk : (k : Int) < ck F w i v) (hx : x < 3) : k < ln F v ∧ ck F v k x ≤ ck F w i x := by
  have hl := ((h.2.2.1 w hw i hi).2.2.2.2 v hv).2
  have hkl : k < ln F v := by omega
  refine ⟨hkl, ?_⟩
  rcases h.2.2.2 w hw i hi v hv k hkl with ⟨rfl, rfl⟩ | h1 | ⟨h1, -⟩
  · exact Int.le_refl _
  · omega
  · exact h1 x hx
theorem JV.anti {F : Fd} (h : JV F) {w i v k : Nat} (hw : w < 3) (hi : i < ln F w) (hv : v < 3) (hk : (k : Int) < ck F w i v) (hne : v ≠ w) : ck F v k w ≤ (i : Int) := by
  have hl := ((h.2.2.1 w hw i hi).2.2.2.2 v hv).2
  have hkl : k < ln F v := by omega
  rcases h.2.2.2 w hw i hi v hv k hkl with ⟨rfl, rfl⟩ | h1 | ⟨-, h1⟩
  · exact absurd rfl hne
  · omega
  · exact h1
theorem JV.own {F : Fd} (h : JV F) {w i : Nat} (hw : w < 3) (hi : i < ln F w) : ck F w i w = (i : Int) + 1 := (h.2.2.1 w hw i hi).2.1
theorem JV.rng {F : Fd} (h : JV F) {w i v : Nat} (hw : w < 3) (hi : i < ln F w) (hv : v < 3) : 0 ≤ ck F w i v ∧ ck F w i v ≤ (ln F v : Int) := (h.2.2.1 w hw i hi).2.2.2.2 v hv
/-- the next entry of a writer is ready -/
def Rdy (F : Fd) (p : Nat → Nat) (w : Nat) : Prop := p w < ln F w ∧ ∀ v, v < 3 → v = w ∨ ck F w (p w) v ≤ (p v : Int)
open Classical in
noncomputable def nxt (F : Fd) (p : Nat → Nat) : Option Nat := if Rdy F p 0 then some 0 else if Rdy F p 1 then some 1 else if Rdy F p 2 then some 2 else none
def inc (p : Nat → Nat) (w : Nat) : Nat → Nat := fun v => if v = w then p v + 1 else p v
noncomputable def pst (F : Fd) : Nat → Nat → Nat
  | 0 => fun _ => 0
  | k + 1 => match nxt F (pst F k) with
    | some w => inc (pst F k) w
    | none => pst F k
noncomputable def wk (F : Fd) (k : Nat) : Nat := (nxt F (pst F k)).getD 0
noncomputable def rf (F : Fd) (k : Nat) : Int × Int := ((wk F k : Int), (pst F k (wk F k) : Int))
def tot (F : Fd) : Nat := ln F 0 + ln F 1 + ln F 2
noncomputable def ordv (F : Fd) : List (Int × Int) := (List.range (tot F)).map (rf F)
theorem nxt_some {F : Fd} {p : Nat → Nat} {w : Nat} (h : nxt F p = some w) : w < 3 ∧ Rdy F p w ∧ ∀ v, v < w → ¬ Rdy F p v := by
  unfold nxt at h
  by_cases h0 : Rdy F p 0
  · rw [if_pos h0] at h; cases h; exact ⟨by omega, h0, fun v hv => by omega⟩
  · rw [if_neg h0] at h
    by_cases h1 : Rdy F p 1
    · rw [if_pos h1] at h; cases h; exact ⟨by omega, h1, fun v hv => by obtain rfl : v = 0 := (by omega); exact h0⟩
    · rw [if_neg h1] at h
      by_cases h2 : Rdy F p 2
      · rw [if_pos h2] at h; cases h
        refine ⟨by omega, h2, fun v hv => ?_⟩
        obtain rfl | rfl : v = 0 ∨ v = 1 := by omega
        · exact h0
        · exact h1
      · rw [if_neg h2] at h; cases h
theorem nxt_none {F : Fd} {p : Nat → Nat} (h : nxt F p = none) : ∀ v, v < 3 → ¬ Rdy F p v := by
  unfold nxt at h
  by_cases h0 : Rdy F p 0
  · rw [if_pos h0] at h; cases h
  · rw [if_neg h0] at h
    by_cases h1 : Rdy F p 1
    · rw [if_pos h1] at h; cases h
    · rw [if_neg h1] at h
      by_cases h2 : Rdy F p 2
      · rw [if_pos h2] at h; cases h
      · intro v hv
        obtain rfl | rfl | rfl : v = 0 ∨ v = 1 ∨ v = 2 := by omega
        · exact h0
        · exact h1
        · exact h2
theorem nxt_first {F : Fd} {p : Nat → Nat} {w : Nat} (hw : w < 3) (h : Rdy F p w) (hs : ∀ v, v < w → ¬ Rdy F p v) : nxt F p = some w := by
  unfold nxt
  obtain rfl | rfl | rfl : w = 0 ∨ w = 1 ∨ w = 2 := by omega
  · rw [if_pos h]
  · rw [if_neg (hs 0 (by omega)), if_pos h]
  · rw [if_neg (hs 0 (by omega)), if_neg (hs 1 (by omega)), if_pos h]
theorem not_rdy {F : Fd} {p : Nat → Nat} {w : Nat} (hl : p w < ln F w) (h : ¬ Rdy F p w) : ∃ v, v < 3 ∧ v ≠ w ∧ (p v : Int) < ck F w (p w) v := by
  by_cases he : ∃ v, v < 3 ∧ v ≠ w ∧ (p v : Int) < ck F w (p w) v
  · exact he
  · refine absurd ⟨hl, fun v hv => ?_⟩ h
    by_cases hvw : v = w
    · exact .inl hvw
    · refine .inr (Int.not_lt.1 fun hlt => he ⟨v, hv, hvw, hlt⟩)
/-- In valid entries some writer is ready as long as an entry is left. -/
theorem progress {F : Fd} (h : JV F) {p : Nat → Nat} {w : Nat} (hw : w < 3) (hl : p w < ln F w) : nxt F p ≠ none := by
  intro hn
  have hr := nxt_none hn
  -- a head that is not ready knows another head, which is there
  have step : ∀ a, a < 3 → p a < ln F a → ∃ b, b < 3 ∧ b ≠ a ∧ (p b : Int) < ck F a (p a) b ∧ p b < ln F b := by
    intro a ha hla
    obtain ⟨b, hb, hba, hlt⟩ := not_rdy hla (hr a ha)
    have := (h.rng ha hla hb).2
    exact ⟨b, hb, hba, hlt, by omega⟩
  obtain ⟨b, hb, hba, h1, hlb⟩ := step w hw hl
  obtain ⟨c, hc, hcb, h2, hlc⟩ := step b hb hlb
  have a1 := h.anti hw hl hb h1 hba
  by_cases hcw : c = w
  · subst hcw; omega
  · obtain ⟨d, hd, hdc, h3, hld⟩ := step c hc hlc
    have a2 := h.anti hb hlb hc h2 hcb
    by_cases hdb : d = b
    · subst hdb; omega
    · obtain rfl : d = w := by omega
      have u := (h.up hw hl hb h1 hc).2
      have a3 := h.anti hw hl hc (k := p c) (by omega) hcw
      omega
theorem pst_succ {F : Fd} {k w : Nat} (h : nxt F (pst F k) = some w) : pst F (k + 1) = inc (pst F k) w := by
  rw [pst, h]
theorem pst_le (F : Fd) (k : Nat) : ∀ v, pst F k v ≤ ln F v := by
  induction k with
  | zero => intro v; exact Nat.zero_le _
  | succ k ih =>
    intro v
    rw [pst]
    cases h : nxt F (pst F k) with
    | none => exact ih v
    | some w =>
      have := (nxt_some h).2.1.1
      show inc (pst F k) w v ≤ _
      unfold inc
      split
      · rename_i e; subst e; omega
      · exact ih v
theorem pst_mono (F : Fd) (k v : Nat) : pst F k v ≤ pst F (k + 1) v := by
  rw [pst]
  cases h : nxt F (pst F k) with
  | none => exact Nat.le_refl _
  | some w => show _ ≤ inc (pst F k) w v; unfold inc; split <;> omega
theorem pst_le_le (F : Fd) {j k : Nat} (h : j ≤ k) (v : Nat) : pst F j v ≤ pst F k v := by
  induction k with
  | zero => obtain rfl : j = 0 := (by omega); exact Nat.le_refl _
  | succ k ih =>
    by_cases e : j = k + 1
    · subst e; exact Nat.le_refl _
    · exact Nat.le_trans (ih (by omega)) (pst_mono F k v)
def sm (p : Nat → Nat) : Nat := p 0 + p 1 + p 2
theorem sm_inc (p : Nat → Nat) {w : Nat} (hw : w < 3) : sm (inc p w) = sm p + 1 := by
  obtain rfl | rfl | rfl : w = 0 ∨ w = 1 ∨ w = 2 := by omega
  all_goals simp [sm, inc]
  all_goals omega
theorem left {F : Fd} (h : JV F) {k : Nat} (hs : sm (pst F k) < tot F) : ∃ w, nxt F (pst F k) = some w := by
  have hl := pst_le F k
  have : ∃ w, w < 3 ∧ pst F k w < ln F w := by
    by_cases h0 : pst F k 0 < ln F 0
    · exact ⟨0, by omega, h0⟩
    · by_cases h1 : pst F k 1 < ln F 1
      · exact ⟨1, by omega, h1⟩
      · refine ⟨2, by omega, ?_⟩
        have h2 := hl 0; have h3 := hl 1
        unfold sm tot at hs
        omega
  obtain ⟨w, hw, hlt⟩ := this
  cases hn : nxt F (pst F k) with
  | none => exact absurd hn (progress h hw hlt)
  | some w => exact ⟨w, rfl⟩
theorem sm_pst {F : Fd} (h : JV F) (k : Nat) (hk : k ≤ tot F) : sm (pst F k) = k := by
  induction k with
  | zero => rfl
  | succ k ih =>
    have e := ih (by omega)
    obtain ⟨w, hw⟩ := left h (k := k) (by omega)
    rw [pst_succ hw, sm_inc _ (nxt_some hw).1, e]
theorem wk_nxt {F : Fd} (h : JV F) {k : Nat} (hk : k < tot F) : nxt F (pst F k) = some (wk F k) := by
  obtain ⟨w, hw⟩ := left h (k := k) (by rw [sm_pst h k (by omega)]; exact hk)
  unfold wk
  rw [hw]; rfl
theorem wk_lt {F : Fd} (h : JV F) {k : Nat} (hk : k < tot F) : wk F k < 3 := (nxt_some (wk_nxt h hk)).1
theorem wk_rdy {F : Fd} (h : JV F) {k : Nat} (hk : k < tot F) : Rdy F (pst F k) (wk F k) := (nxt_some (wk_nxt h hk)).2.1
theorem pst_next {F : Fd} (h : JV F) {k : Nat} (hk : k < tot F) : pst F (k + 1) = inc (pst F k) (wk F k) := pst_succ (wk_nxt h hk)
theorem pst_end {F : Fd} (h : JV F) (v : Nat) (hv : v < 3) : pst F (tot F) v = ln F v := by
  have e := sm_pst h (tot F) (Nat.le_refl _)
  have hl := pst_le F (tot F)
  have h0 := hl 0; have h1 := hl 1; have h2 := hl 2
  unfold sm at e
  unfold tot at e h0 h1 h2 ⊢
  obtain rfl | rfl | rfl : v = 0 ∨ v = 1 ∨ v = 2 := by omega
  all_goals omega
theorem ordv_len (F : Fd) : (ordv F).length = tot F := by simp [ordv]
theorem ordv_at (F : Fd) {k : Nat} (hk : k < tot F) (d : Int × Int) : (ordv F).getD k d = rf F k := by
  simp [ordv, List.getD, hk]
/-- Every entry has its place. -/
theorem place_ex {F : Fd} (h : JV F) {w : Nat} (_hw : w < 3) : ∀ k, k ≤ tot F → ∀ i, i < pst F k w → ∃ j, j < k ∧ wk F j = w ∧ pst F j w = i := by
  intro k
  induction k with
  | zero => intro _ i hi; exact absurd hi (Nat.not_lt_zero _)
  | succ k ih =>
    intro hk i hi
    by_cases hlt : i < pst F k w
    · obtain ⟨j, hj, e⟩ := ih (by omega) i hlt
      exact ⟨j, by omega, e⟩
    · rw [pst_next h (show k < tot F by omega)] at hi
      unfold inc at hi
      split at hi
      · rename_i e; exact ⟨k, by omega, e.symm, by omega⟩
      · omega
/-- An entry does not see a later one of the order. -/
theorem no_later {F : Fd} (h : JV F) {i k : Nat} (hik : i < k) (hk : k < tot F) : ck F (wk F i) (pst F i (wk F i)) (wk F k) ≤ (pst F k (wk F k) : Int) := by
  have hi : i < tot F := by omega
  have hr := wk_rdy h hi
  have hm := pst_le_le F (show i + 1 ≤ k from hik) (wk F k)
  have hp := congrFun (pst_next h hi) (wk F k)
  by_cases e : wk F k = wk F i
  · rw [e] at hm hp ⊢
    rw [h.own (wk_lt h hi) hr.1]
    unfold inc at hp
    rw [if_pos rfl] at hp
    omega
  · rcases hr.2 (wk F k) (wk_lt h hk) with e' | h1
    · exact absurd e' e
    · unfold inc at hp
      rw [if_neg e] at hp
      omega
/-- of two neighbours in the order that do not see each other the first is of the smaller writer -/
theorem small {F : Fd} (h : JV F) {k : Nat} (hk : k + 1 < tot F) (hs : ck F (wk F (k + 1)) (pst F (k + 1) (wk F (k + 1))) (wk F k) ≤ (pst F k (wk F k) : Int)) : wk F k < wk F (k + 1) := by
  have hk0 : k < tot F := by omega
  have hr := wk_rdy h hk0
  have hr1 := wk_rdy h hk
  have hp := pst_next h hk0
  have n0 := nxt_some (wk_nxt h hk0)
  by_cases e : wk F (k + 1) = wk F k
  · rw [e] at hr1 hs
    have ho := h.own (wk_lt h hk0) hr1.1
    have := congrFun hp (wk F k)
    unfold inc at this
    rw [if_pos rfl] at this
    omega
  · rcases Nat.lt_or_ge (wk F k) (wk F (k + 1)) with hlt | hge
    · exact hlt
    · refine absurd ?_ (n0.2.2 (wk F (k + 1)) (by omega))
      have e1 : pst F (k + 1) (wk F (k + 1)) = pst F k (wk F (k + 1)) := by
        rw [hp]; unfold inc; rw [if_neg e]
      obtain ⟨r1, r2⟩ := hr1
      rw [e1] at r1 r2 hs
      refine ⟨r1, fun v hv => ?_⟩
      by_cases ev : v = wk F k
      · subst ev; exact .inr hs
      · rcases r2 v hv with h1 | h1
        · exact .inl h1
        · refine .inr ?_
          rw [hp] at h1
          unfold inc at h1
          rw [if_neg ev] at h1
          exact h1
theorem ck_mono {F : Fd} (h : JV F) {v k k' x : Nat} (hv : v < 3) (hk : k ≤ k') (hk' : k' < ln F v) (hx : x < 3) : ck F v k x ≤ ck F v k' x := by
  have := h.own hv hk'
  exact (h.up hv hk' hv (by omega) hx).2
theorem same_upto {F G : Fd} (m : Nat) (H : ∀ k, k < m → nxt G (pst F k) = nxt F (pst F k)) : ∀ k, k ≤ m → pst G k = pst F k := by
  intro k
  induction k with
  | zero => intro _; rfl
  | succ k ih =>
    intro hk
    have e := ih (by omega)
    rw [pst, pst, e, H k (by omega)]
theorem same_rf {F G : Fd} (m : Nat) (H : ∀ k, k < m → nxt G (pst F k) = nxt F (pst F k)) (k : Nat) (hk : k < m) : rf G k = rf F k := by
  have e := same_upto m H k (by omega)
  have ew : wk G k = wk F k := by unfold wk; rw [e, H k hk]
  unfold rf
  rw [ew, e]
theorem take_ordv {F G : Fd} (m : Nat) (hF : m ≤ tot F) (hG : m ≤ tot G) (H : ∀ k, k < m → rf G k = rf F k) : (ordv G).take m = (ordv F).take m := by
  unfold ordv
  rw [← List.map_take, ← List.map_take, List.take_range, List.take_range, Nat.min_eq_left hF, Nat.min_eq_left hG]
  exact List.map_congr_left fun k hk => H k (List.mem_range.1 hk)
/-- G has all entries of F, and more perhaps. -/
def Grw (F G : Fd) : Prop := JV F ∧ JV G ∧ ∀ w, w < 3 → ln F w ≤ ln G w ∧ ∀ i, i < ln F w → ent G w i = ent F w i
theorem Grw.ck {F G : Fd} (h : Grw F G) {w i : Nat} (hw : w < 3) (hi : i < ln F w) (v : Nat) : ck G w i v = ck F w i v := by
  unfold Proofs.Ytbjndbaljenlgaa.ck
  rw [(h.2.2 w hw).2 i hi]
theorem Grw.tot {F G : Fd} (h : Grw F G) : tot F ≤ tot G := by
  have h0 := (h.2.2 0 (by omega)).1
  have h1 := (h.2.2 1 (by omega)).1
  have h2 := (h.2.2 2 (by omega)).1
  unfold Proofs.Ytbjndbaljenlgaa.tot
  omega
theorem nxt_congr {F G : Fd} {p : Nat → Nat} (h : ∀ v, v < 3 → (Rdy G p v ↔ Rdy F p v)) : nxt G p = nxt F p := by
  have h0 := h 0 (by omega)
  have h1 := h 1 (by omega)
  have h2 := h 2 (by omega)
  unfold nxt
  by_cases a0 : Rdy F p 0
  · rw [if_pos (h0.2 a0), if_pos a0]
  · rw [if_neg (fun e => a0 (h0.1 e)), if_neg a0]
    by_cases a1 : Rdy F p 1
    · rw [if_pos (h1.2 a1), if_pos a1]
    · rw [if_neg (fun e => a1 (h1.1 e)), if_neg a1]
      by_cases a2 : Rdy F p 2
      · rw [if_pos (h2.2 a2), if_pos a2]
      · rw [if_neg (fun e => a2 (h2.1 e)), if_neg a2]
/-- An entry is stable: each other writer's last entry knows it. -/
def Stb (F : Fd) (w i : Nat) : Prop := ∀ v, v < 3 → 0 < ln F v ∧ (v = w ∨ (i : Int) < ck F v (ln F v - 1) w)
open Classical in
noncomputable def stN (F : Fd) : Nat → Nat
  | 0 => 0
  | k + 1 => if Stb F (wk F k) (pst F k (wk F k)) then k + 1 else stN F k
noncomputable def stv (F : Fd) : Nat := stN F (tot F)
theorem stN_le (F : Fd) (k : Nat) : stN F k ≤ k := by
  induction k with
  | zero => exact Nat.le_refl _
  | succ k ih => unfold stN; split <;> omega
theorem stN_at {F : Fd} {k m : Nat} (h : stN F k = m + 1) : m < k ∧ Stb F (wk F m) (pst F m (wk F m)) := by
  induction k with
  | zero => cases h
  | succ k ih =>
    unfold stN at h
    split at h
    · rename_i hs; obtain rfl : k = m := by omega
      exact ⟨by omega, hs⟩
    · have := ih h; exact ⟨by omega, this.2⟩
theorem stN_ge {F : Fd} {k j : Nat} (hj : j < k) (hs : Stb F (wk F j) (pst F j (wk F j))) : j + 1 ≤ stN F k := by
  induction k with
  | zero => omega
  | succ k ih =>
    unfold stN
    split
    · omega
    · rename_i hn
      by_cases e : j = k
      · subst e; exact absurd hs hn
      · exact ih (by omega)
/-- A new entry sees whatever was stable before. -/
theorem new_sees {F G : Fd} (h : Grw F G) {w i v : Nat} (hw : w < 3) (hs : Stb F w i) (hv : v < 3) (hvw : v ≠ w) {j : Nat} (hj : ln F v ≤ j + 1) (hjG : j < ln G v) : (i : Int) < ck G v j w := by
  obtain ⟨h0, h1⟩ := hs v hv
  rcases h1 with h1 | h1
  · exact absurd h1 hvw
  · have e := h.ck hv (show ln F v - 1 < ln F v by omega) w
    have := ck_mono h.2.1 (x := w) hv (show ln F v - 1 ≤ j by omega) hjG hw
    omega
theorem stable_same {F G : Fd} (h : Grw F G) {m : Nat} (hm : m < tot F) (hs : Stb F (wk F m) (pst F m (wk F m))) : ∀ k, k < m + 1 → nxt G (pst F k) = nxt F (pst F k) := by
  intro k hk
  have hw := wk_lt h.1 hm
  have hi := (wk_rdy h.1 hm).1
  have hle := pst_le_le F (show k ≤ m by omega) (wk F m)
  refine nxt_congr fun v hv => ?_
  have hl := pst_le F k v
  have hg := (h.2.2 v hv).1
  by_cases hlt : pst F k v < ln F v
  · have e : ∀ x, ck G v (pst F k v) x = ck F v (pst F k v) x := h.ck hv hlt
    constructor
    · rintro ⟨-, h2⟩; exact ⟨hlt, fun x hx => by rw [← e x]; exact h2 x hx⟩
    · rintro ⟨-, h2⟩; exact ⟨by omega, fun x hx => by rw [e x]; exact h2 x hx⟩
  · constructor
    · rintro ⟨g1, g2⟩
      exfalso
      by_cases e : v = wk F m
      · subst e; omega
      · have := new_sees h hw hs hv e (j := pst F k v) (by omega) g1
        rcases g2 (wk F m) hw with g3 | g3
        · exact e g3.symm
        · omega
    · rintro ⟨g1, -⟩; exact absurd g1 hlt
theorem stv_le (F : Fd) : stv F ≤ tot F := stN_le F _
/-- Stable entries never change their places. -/
theorem kept {F G : Fd} (h : Grw F G) : ∀ k, k < stv F → rf G k = rf F k := by
  intro k hk
  cases hn : stv F with
  | zero => omega
  | succ m =>
    obtain ⟨hm, hs⟩ := stN_at hn
    exact same_rf (m + 1) (stable_same h hm hs) k (by omega)
theorem stable_up {F G : Fd} (h : Grw F G) : stv F ≤ stv G := by
  cases hn : stv F with
  | zero => exact Nat.zero_le _
  | succ m =>
    obtain ⟨hm, hs⟩ := stN_at hn
    have hw := wk_lt h.1 hm
    have hH := stable_same h hm hs
    have ep := same_upto (m + 1) hH m (by omega)
    have ew : wk G m = wk F m := by unfold wk; rw [ep, hH m (by omega)]
    have ht := h.tot
    refine stN_ge (F := G) (k := tot G) (j := m) (by omega) ?_
    rw [ew, ep]
    intro v hv
    obtain ⟨h0, -⟩ := hs v hv
    have hg := (h.2.2 v hv).1
    refine ⟨by omega, ?_⟩
    by_cases e : v = wk F m
    · exact .inl e
    · exact .inr (new_sees h hw hs hv e (by omega) (by omega))
/-- feeds with one more entry -/
def app (F : Fd) (w : Nat) (e : Ent) : Fd := F.set w (F.getD w [] ++ [e])
theorem app_row {F : Fd} {w : Nat} {e : Ent} (hw : w < F.length) (v : Nat) : (app F w e).getD v [] = if v = w then F.getD w [] ++ [e] else F.getD v [] := by
  unfold app
  by_cases h : v = w
  · subst h; simp [List.getD, hw]
  · rw [if_neg h]
    simp [List.getD, Ne.symm h]
theorem app_ln {F : Fd} {w : Nat} {e : Ent} (hw : w < F.length) (v : Nat) : ln (app F w e) v = if v = w then ln F w + 1 else ln F v := by
  unfold ln
  rw [app_row hw]
  split <;> simp
theorem app_old {F : Fd} {w : Nat} {e : Ent} (hw : w < F.length) {v k : Nat} (hk : k < ln F v) : ent (app F w e) v k = ent F v k := by
  unfold ent
  rw [app_row hw]
  split
  · rename_i h; subst h
    unfold ln at hk
    rw [List.getD_eq_getElem?_getD, List.getElem?_append_left hk, ← List.getD_eq_getElem?_getD]
  · rfl
theorem app_new {F : Fd} {w : Nat} {e : Ent} (hw : w < F.length) : ent (app F w e) w (ln F w) = e := by
  unfold ent ln
  rw [app_row hw, if_pos rfl, List.getD_eq_getElem?_getD, List.getElem?_append_right (Nat.le_refl _)]
  simp
/-- what makes a further entry valid -/
def AppOk (F : Fd) (w : Nat) (e : Ent) : Prop :=
  e.1.length = 3 ∧ e.1.getD w 0 = (ln F w : Int) + 1 ∧ (0 ≤ e.2.1 ∧ e.2.1 ≤ 9) ∧ (0 ≤ e.2.2 ∧ e.2.2 ≤ 99) ∧
    (∀ v, v < 3 → v ≠ w → 0 ≤ e.1.getD v 0 ∧ e.1.getD v 0 ≤ (ln F v : Int)) ∧
    ∀ v, v < 3 → ∀ k, k < ln F v → (k : Int) < e.1.getD v 0 → ∀ x, x < 3 → ck F v k x ≤ e.1.getD x 0
theorem JV_app {F : Fd} (h : JV F) {w : Nat} (hw : w < 3) (h8 : ln F w < 8) {e : Ent} (ha : AppOk F w e) : JV (app F w e) := by
  have hwl : w < F.length := by rw [h.1]; exact hw
  have hl := fun v => app_ln (e := e) hwl v
  have ho : ∀ {v k}, k < ln F v → ent (app F w e) v k = ent F v k := fun hk => app_old hwl hk
  have hc : ∀ {v k}, k < ln F v → ∀ x, ck (app F w e) v k x = ck F v k x := fun hk x => by unfold ck; rw [ho hk]
  have hn : ent (app F w e) w (ln F w) = e := app_new hwl
  have hcn : ∀ x, ck (app F w e) w (ln F w) x = e.1.getD x 0 := fun x => by unfold ck; rw [hn]
  obtain ⟨a1, a2, a3, a4, a5, a6⟩ := ha
  have split : ∀ v k, k < ln (app F w e) v → k < ln F v ∨ (v = w ∧ k = ln F w) := by
    intro v k hk
    rw [hl v] at hk
    split at hk
    · rename_i e; subst e
      rcases Nat.lt_or_ge k (ln F v) with h1 | h1
      · exact .inl h1
      · exact .inr ⟨rfl, by omega⟩
    · exact .inl hk
  have hge : ∀ v, ln F v ≤ ln (app F w e) v := fun v => by
    rw [hl v]
    split
    · rename_i e; subst e; omega
    · omega
  refine ⟨by unfold app; rw [List.length_set]; exact h.1, fun v hv => ?_, fun v hv k hk => ?_, fun v hv k hk u hu j hj => ?_⟩
  · rw [hl v]
    have := h.2.1 v hv
    split <;> omega
  · rcases split v k hk with h1 | ⟨rfl, rfl⟩
    · obtain ⟨b1, b2, b3, b4, b5⟩ := h.2.2.1 v hv k h1
      refine ⟨by rw [ho h1]; exact b1, by rw [hc h1]; exact b2, by rw [ho h1]; exact b3, by rw [ho h1]; exact b4, fun x hx => ?_⟩
      have := b5 x hx
      have := hge x
      rw [hc h1]
      omega
    · refine ⟨by rw [hn]; exact a1, by rw [hcn]; exact a2, by rw [hn]; exact a3, by rw [hn]; exact a4, fun x hx => ?_⟩
      rw [hcn]
      by_cases e : x = v
      · subst e
        rw [a2, hl x, if_pos rfl]
        omega
      · have := a5 x hx e
        have := hge x
        omega
  · rcases split v k hk with h1 | ⟨rfl, rfl⟩
    · rcases split u j hj with h2 | ⟨rfl, rfl⟩
      · rcases h.2.2.2 v hv k h1 u hu j h2 with g | g | ⟨g1, g2⟩
        · exact .inl g
        · exact .inr (.inl (by rw [hc h1]; exact g))
        · exact .inr (.inr ⟨fun x hx => by rw [hc h1, hc h2]; exact g1 x hx, by rw [hc h2]; exact g2⟩)
      · refine .inr (.inl ?_)
        rw [hc h1]
        exact (h.rng hv h1 hu).2
    · rcases split u j hj with h2 | ⟨rfl, rfl⟩
      · rcases Int.lt_or_le (j : Int) (e.1.getD u 0) with g | g
        · refine .inr (.inr ⟨fun x hx => by rw [hcn, hc h2]; exact a6 u hu j h2 g x hx, ?_⟩)
          rw [hc h2]
          exact (h.rng hu h2 hv).2
        · exact .inr (.inl (by rw [hcn]; exact g))
      · exact .inl ⟨rfl, rfl⟩
theorem Grw_app {F : Fd} (h : JV F) {w : Nat} (hw : w < 3) (h8 : ln F w < 8) {e : Ent} (ha : AppOk F w e) : Grw F (app F w e) := by
  have hwl : w < F.length := by rw [h.1]; exact hw
  refine ⟨h, JV_app h hw h8 ha, fun v _ => ⟨?_, fun k hk => app_old hwl hk⟩⟩
  rw [app_ln hwl]
  split
  · rename_i e; subst e; omega
  · exact Nat.le_refl _
theorem tot_app {F : Fd} {w : Nat} {e : Ent} (hF : F.length = 3) (hw : w < 3) : tot (app F w e) = tot F + 1 := by
  have hl := fun v => app_ln (e := e) (F := F) (w := w) (by omega) v
  unfold tot
  rw [hl 0, hl 1, hl 2]
  obtain rfl | rfl | rfl : w = 0 ∨ w = 1 ∨ w = 2 := by omega
  all_goals simp
  all_goals omega
/-- An entry that knows all others comes last. -/
theorem all_last {F : Fd} (h : JV F) {w : Nat} (hw : w < 3) (h8 : ln F w < 8) {e : Ent} (ha : AppOk F w e) (hk : ∀ v, v < 3 → v ≠ w → e.1.getD v 0 = (ln F v : Int)) :
    (∀ k, k < tot F → rf (app F w e) k = rf F k) ∧ rf (app F w e) (tot F) = ((w : Int), (ln F w : Int)) := by
  have hwl : w < F.length := by rw [h.1]; exact hw
  have hg := Grw_app h hw h8 ha
  have hcn : ∀ x, ck (app F w e) w (ln F w) x = e.1.getD x 0 := fun x => by unfold ck; rw [app_new hwl]
  have H : ∀ k, k < tot F → nxt (app F w e) (pst F k) = nxt F (pst F k) := by
    intro k hkt
    refine nxt_congr fun v hv => ?_
    have hl := pst_le F k v
    have hg1 := (hg.2.2 v hv).1
    by_cases hlt : pst F k v < ln F v
    · have e : ∀ x, ck (app F w e) v (pst F k v) x = ck F v (pst F k v) x := hg.ck hv hlt
      constructor
      · rintro ⟨-, h2⟩; exact ⟨hlt, fun x hx => by rw [← e x]; exact h2 x hx⟩
      · rintro ⟨-, h2⟩; exact ⟨by omega, fun x hx => by rw [e x]; exact h2 x hx⟩
    · constructor
      · rintro ⟨g1, g2⟩
        exfalso
        have e1 := app_ln (e := e) hwl v
        by_cases ev : v = w
        · subst ev
          have ep : pst F k v = ln F v := by omega
          rw [ep] at g2
          have hs := sm_pst h k (by omega)
          have hall : ∀ x, x < 3 → ln F x ≤ pst F k x := by
            intro x hx
            by_cases ex : x = v
            · subst ex; omega
            · rcases g2 x hx with g3 | g3
              · exact absurd g3 ex
              · rw [hcn, hk x hx ex] at g3; omega
          have q0 := hall 0 (by omega); have q1 := hall 1 (by omega); have q2 := hall 2 (by omega)
          unfold sm at hs
          unfold tot at hkt
          omega
        · rw [if_neg ev] at e1; omega
      · rintro ⟨g1, -⟩; exact absurd g1 hlt
  refine ⟨fun k hk => same_rf (tot F) H k hk, ?_⟩
  have ep := same_upto (tot F) H (tot F) (Nat.le_refl _)
  have ht := tot_app (e := e) h.1 hw
  have hr := wk_rdy hg.2.1 (k := tot F) (by omega)
  have hw3 := wk_lt hg.2.1 (k := tot F) (by omega)
  have ew : wk (app F w e) (tot F) = w := by
    have h1 := hr.1
    rw [ep, app_ln hwl, pst_end h _ hw3] at h1
    split at h1
    · assumption
    · omega
  unfold rf
  rw [ew, ep, pst_end h w hw]
/-- The last entry of the order can be missing. -/
theorem part {F X : Fd} (h : JV F) {n : Nat} (hn : tot F = n + 1) (hX3 : X.length = 3) (hl : ∀ v, v < 3 → ln X v = if v = wk F n then ln F v - 1 else ln F v) (he : ∀ v, v < 3 → ∀ k, k < ln X v → ent X v k = ent F v k) :
    JV X ∧ tot X = n ∧ ∀ k, k < n → rf X k = rf F k := by
  have hw := wk_lt h (k := n) (by omega)
  have hr := (wk_rdy h (k := n) (by omega)).1
  have hle : ∀ v, v < 3 → ln X v ≤ ln F v := fun v hv => by rw [hl v hv]; split <;> omega
  have hc : ∀ v, v < 3 → ∀ k, k < ln X v → ∀ x, ck X v k x = ck F v k x := fun v hv k hk x => by unfold ck; rw [he v hv k hk]
  -- the last place holds the last entry of its writer
  have hlast : pst F n (wk F n) = ln F (wk F n) - 1 := by
    have h1 := pst_end h (wk F n) hw
    rw [hn, pst_next h (by omega)] at h1
    unfold inc at h1
    rw [if_pos rfl] at h1
    omega
  -- no other entry knows it
  have hno : ∀ v, v < 3 → ∀ k, k < ln X v → ck F v k (wk F n) ≤ (ln F (wk F n) : Int) - 1 := by
    intro v hv k hk
    have hkF : k < ln F v := by have := hle v hv; omega
    obtain ⟨j, hj, e1, e2⟩ := place_ex h hv (tot F) (Nat.le_refl _) k (by rw [pst_end h v hv]; exact hkF)
    have hjn : j < n := by
      rcases Nat.lt_or_ge j n with h1 | h1
      · exact h1
      · obtain rfl : j = n := by omega
        have := hl v hv
        rw [← e1, if_pos rfl] at this
        rw [e1] at this
        rw [e1] at hlast
        omega
    have := no_later h hjn (show n < tot F by omega)
    rw [e1, e2] at this
    omega
  have hJ : JV X := by
    refine ⟨hX3, fun v hv => Nat.le_trans (hle v hv) (h.2.1 v hv), fun v hv k hk => ?_, fun v hv k hk u hu j hj => ?_⟩
    · have hkF : k < ln F v := by have := hle v hv; omega
      obtain ⟨b1, b2, b3, b4, b5⟩ := h.2.2.1 v hv k hkF
      refine ⟨by rw [he v hv k hk]; exact b1, by rw [hc v hv k hk]; exact b2, by rw [he v hv k hk]; exact b3, by rw [he v hv k hk]; exact b4, fun x hx => ?_⟩
      have := b5 x hx
      rw [hc v hv k hk, hl x hx]
      split
      · rename_i e; subst e
        have := hno v hv k hk
        omega
      · exact this
    · have hkF : k < ln F v := by have := hle v hv; omega
      have hjF : j < ln F u := by have := hle u hu; omega
      rcases h.2.2.2 v hv k hkF u hu j hjF with g | g | ⟨g1, g2⟩
      · exact .inl g
      · exact .inr (.inl (by rw [hc v hv k hk]; exact g))
      · exact .inr (.inr ⟨fun x hx => by rw [hc v hv k hk, hc u hu j hj]; exact g1 x hx, by rw [hc u hu j hj]; exact g2⟩)
  have ht : tot X = n := by
    have h0 := hl 0 (by omega); have h1 := hl 1 (by omega); have h2 := hl 2 (by omega)
    unfold tot at hn ⊢
    obtain e | e | e : wk F n = 0 ∨ wk F n = 1 ∨ wk F n = 2 := by omega
    all_goals
      rw [e] at h0 h1 h2 hr hlast
      simp at h0 h1 h2
      omega
  refine ⟨hJ, ht, fun k hk => same_rf n (fun j hj => ?_) k hk⟩
  have hjn := wk_nxt h (k := j) (by omega)
  have hm := pst_le_le F (show j + 1 ≤ n from hj) (wk F n)
  have hpj := pst_next h (k := j) (by omega)
  obtain ⟨n1, n2, n3⟩ := nxt_some hjn
  have sub : ∀ v, v < 3 → Rdy X (pst F j) v → Rdy F (pst F j) v := by
    rintro v hv ⟨g1, g2⟩
    exact ⟨by have := hle v hv; omega, fun x hx => by rw [← hc v hv _ g1]; exact g2 x hx⟩
  rw [hjn]
  refine nxt_first n1 ⟨?_, ?_⟩ (fun v hv hx => n3 v hv (sub v (by omega) hx))
  · rw [hl _ n1]
    split
    · rename_i e
      have := congrFun hpj (wk F n)
      unfold inc at this
      rw [if_pos e.symm] at this
      rw [e]
      omega
    · exact n2.1
  · intro x hx
    have hlt : pst F j (wk F j) < ln X (wk F j) := by
      rw [hl _ n1]
      split
      · rename_i e
        have := congrFun hpj (wk F n)
        unfold inc at this
        rw [if_pos e.symm] at this
        rw [e]
        omega
      · exact n2.1
    rw [hc _ n1 _ hlt]
    exact n2.2 x hx
end Go.Proofs.Ytbjndbaljenlgaa
