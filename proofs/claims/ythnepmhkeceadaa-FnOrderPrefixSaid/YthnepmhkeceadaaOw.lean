/- Entries that lie in memory of the call's own: rows and clocks in blocks apart (OwnF). No condition. -/
import Derived.Test.YthnepmhkeceadaaFd
namespace Go.Proofs.Ythnepmhkeceadaa
open Go.RowKit
theorem Chg.setC {T : Nat → Prop} {w w' : World} {g j : Nat} {u : Value} (h : Chg T w w') (hg : T g) : Chg T w (w'.setCell ⟨g, j, none⟩ u) :=
  h.trans ⟨rfl, rfl, rfl, by simp, fun k _ hk => heap_setCell_other w' ⟨g, j, none⟩ k u (fun e => hk (by rw [e]; exact hg))⟩
theorem Chg.allocC {T : Nat → Prop} {w w' : World} {o : Obj} (h : Chg T w w') : Chg T w (w'.alloc o) := h.trans (Chg.of_below ((Below.refl _ _).alloc (Nat.le_refl _) o) T)
theorem Chg.drewC {T : Nat → Prop} {w w' : World} (h : Chg T w w') : Chg T w w'.drew := h.trans (Chg.of_below (Below.refl _ _).drew T)
theorem own_chg {T : Nat → Prop} {w w' : World} {base : Nat} {e : TypeId} {sz : Nat} {v : Value} {n : Nat} {xs : List Value} (h : w.ownsRow base e sz v n xs) (hc : Chg T w w') (hn : ∀ k, v.ownBlock = some k → ¬ T k) : w'.ownsRow base e sz v n xs := by
  refine ⟨h.1, ?_⟩
  have hlt := fun k => h.lt k
  rcases h.2 with h' | ⟨g, cap, cur, rfl, hb, hh, r⟩
  · exact .inl h'
  · exact .inr ⟨g, cap, cur, rfl, hb, (hc.block g (hlt g rfl).2 (hn g rfl)).trans hh, r⟩
theorem own_zero {w : World} {base : Nat} {e : TypeId} {sz : Nat} {v : Value} {n : Nat} {xs : List Value} (h : w.ownsRow base e sz v n xs) : w.ownsRow 0 e sz v n xs := own_base h (Nat.zero_le _)
/-- the cells of a row of entries whose clocks are the slices cvs -/
def encE : List Value → List Ent → List Value
  | cv :: cvs, e :: es => cv :: .int .i64 e.2.1 :: .int .i64 e.2.2 :: encE cvs es
  | _, _ => []
theorem encE_len : ∀ (cvs : List Value) (es : List Ent), cvs.length = es.length → (encE cvs es).length = es.length * 3
  | [], [], _ => rfl
  | cv :: cvs, e :: es, h => by
    have := encE_len cvs es (by simpa using h)
    simp only [encE, List.length_cons, this]
    omega
theorem encE_snoc : ∀ (cvs : List Value) (es : List Ent), cvs.length = es.length → ∀ cv e, encE (cvs ++ [cv]) (es ++ [e]) = encE cvs es ++ [cv, .int .i64 e.2.1, .int .i64 e.2.2]
  | [], [], _, cv, e => rfl
  | c :: cvs, x :: es, h, cv, e => by
    have := encE_snoc cvs es (by simpa using h) cv e
    simp only [encE, List.cons_append, this]
theorem encE_at : ∀ (cvs : List Value) (es : List Ent), cvs.length = es.length → ∀ k, k < es.length →
    (encE cvs es)[k * 3]? = some (cvs.getD k undef) ∧ (encE cvs es)[k * 3 + 1]? = some (.int .i64 (es.getD k e0).2.1) ∧ (encE cvs es)[k * 3 + 2]? = some (.int .i64 (es.getD k e0).2.2)
  | [], [], _, _, hk => by simp at hk
  | [], _ :: _, h, _, _ => by simp at h
  | _ :: _, [], h, _, _ => by simp at h
  | c :: cvs, x :: es, h, 0, _ => by simp [encE]
  | c :: cvs, x :: es, h, k + 1, hk => by
    have := encE_at cvs es (by simpa using h) k (by simpa using hk)
    have e1 : (k + 1) * 3 = k * 3 + 1 + 1 + 1 := by omega
    rw [e1]
    simpa [encE] using this
/-- A row of entries of the call's own: all its blocks are in S, and apart. -/
def OwnR (S : Nat → Prop) (w : World) (v : Value) (es : List Ent) : Prop :=
  ∃ (lab : Nat → Nat) (cvs : List Value), cvs.length = es.length ∧ w.ownsRow 0 32 3 v es.length (encE cvs es) ∧ (∀ b, v.ownBlock = some b → S b ∧ lab b = 0) ∧
    ∀ i, i < es.length → w.ownsRow 0 3 1 (cvs.getD i undef) (es.getD i e0).1.length (enc1 (es.getD i e0).1) ∧ ∀ b, (cvs.getD i undef).ownBlock = some b → S b ∧ lab b = i + 1
/-- The entries of all writers, of the call's own. -/
def OwnF (S : Nat → Prop) (w : World) (v : Value) (F : Fd) : Prop :=
  ∃ (lab : Nat → Nat) (rvs : List Value), rvs.length = F.length ∧ w.ownsRow 0 30 1 v F.length rvs ∧ (∀ b, v.ownBlock = some b → S b ∧ lab b = 0) ∧
    ∀ j, j < F.length → OwnR (fun b => S b ∧ lab b = j + 1) w (rvs.getD j undef) (F.getD j [])
theorem OwnR.chg {S T : Nat → Prop} {w w' : World} {v : Value} {es : List Ent} (h : OwnR S w v es) (hc : Chg T w w') (hd : ∀ k, S k → ¬ T k) : OwnR S w' v es := by
  obtain ⟨lab, cvs, h1, h2, h3, h4⟩ := h
  exact ⟨lab, cvs, h1, own_chg h2 hc (fun k hk => hd k (h3 k hk).1), h3, fun i hi => ⟨own_chg (h4 i hi).1 hc (fun k hk => hd k ((h4 i hi).2 k hk).1), (h4 i hi).2⟩⟩
theorem OwnF.chg {S T : Nat → Prop} {w w' : World} {v : Value} {F : Fd} (h : OwnF S w v F) (hc : Chg T w w') (hd : ∀ k, S k → ¬ T k) : OwnF S w' v F := by
  obtain ⟨lab, rvs, h1, h2, h3, h4⟩ := h
  exact ⟨lab, rvs, h1, own_chg h2 hc (fun k hk => hd k (h3 k hk).1), h3, fun j hj => (h4 j hj).chg hc (fun k hk => hd k hk.1)⟩
theorem OwnR.below {S : Nat → Prop} {w w' : World} {v : Value} {es : List Ent} (h : OwnR S w v es) (hb : Below w.heap.size w w') : OwnR S w' v es := h.chg (Chg.of_below hb (fun _ => False)) (fun _ _ h => h)
theorem OwnF.below {S : Nat → Prop} {w w' : World} {v : Value} {F : Fd} (h : OwnF S w v F) (hb : Below w.heap.size w w') : OwnF S w' v F := h.chg (Chg.of_below hb (fun _ => False)) (fun _ _ h => h)
theorem OwnR.sub {S S' : Nat → Prop} {w : World} {v : Value} {es : List Ent} (h : OwnR S w v es) (hs : ∀ k, k < w.heap.size → S k → S' k) : OwnR S' w v es := by
  obtain ⟨lab, cvs, h1, h2, h3, h4⟩ := h
  exact ⟨lab, cvs, h1, h2, fun b hb => ⟨hs b (h2.lt b hb).2 (h3 b hb).1, (h3 b hb).2⟩, fun i hi => ⟨(h4 i hi).1, fun b hb => ⟨hs b ((h4 i hi).1.lt b hb).2 ((h4 i hi).2 b hb).1, ((h4 i hi).2 b hb).2⟩⟩⟩
theorem OwnF.sub {S S' : Nat → Prop} {w : World} {v : Value} {F : Fd} (h : OwnF S w v F) (hs : ∀ k, k < w.heap.size → S k → S' k) : OwnF S' w v F := by
  obtain ⟨lab, rvs, h1, h2, h3, h4⟩ := h
  exact ⟨lab, rvs, h1, h2, fun b hb => ⟨hs b (h2.lt b hb).2 (h3 b hb).1, (h3 b hb).2⟩, fun j hj => (h4 j hj).sub fun k hk hh => ⟨hs k hk hh.1, hh.2⟩⟩
theorem OwnR.rd {S : Nat → Prop} {w : World} {v : Value} {es : List Ent} (h : OwnR S w v es) : RdR S w v es := by
  obtain ⟨lab, cvs, h1, h2, h3, h4⟩ := h
  refine ⟨Sl0.of_own h2, ?_⟩
  have hcells := fun g => h2.cells (g := g)
  rcases h2.2 with ⟨rfl, hn⟩ | ⟨g, cap, cur, rfl, hb, hh, hn, hm, hs, ht⟩
  · exact ⟨none, 0, by rw [hn], by omega, by simp [maxLen], fun h => absurd hn h⟩
  · refine ⟨_, cap, rfl, hn, hm, fun _ => ⟨g, 0, rfl, fun i hi => ?_⟩⟩
    have hS := (h3 g rfl).1
    have hc : ∀ j u, (encE cvs es)[j]? = some u → w.cell? ⟨g, 0 + j, none⟩ = some u := fun j u hj => by
      have := hcells g rfl j u hj
      have hadd : (⟨g, 0, none⟩ : Addr).add j = ⟨g, 0 + j, none⟩ := by unfold Addr.add; split <;> simp_all
      rwa [hadd] at this
    obtain ⟨c1, c2, c3⟩ := encE_at cvs es h1 i hi
    refine ⟨cvs.getD i undef, ⟨hS, hc _ _ c1⟩, ?_, ⟨hS, ?_⟩, hS, ?_⟩
    · exact (RdS.of_own (h4 i hi).1).move fun a u hx hh => ⟨((h4 i hi).2 a.block hh).1, hx⟩
    · have := hc _ _ c2; rwa [← Nat.add_assoc] at this
    · have := hc _ _ c3; rwa [← Nat.add_assoc] at this
theorem OwnF.rd {S : Nat → Prop} {w : World} {v : Value} {F : Fd} (h : OwnF S w v F) : RdF S w v F := by
  obtain ⟨lab, rvs, h1, h2, h3, h4⟩ := h
  refine ⟨Sl0.of_own h2, ?_⟩
  have hcells := fun g => h2.cells (g := g)
  rcases h2.2 with ⟨rfl, hn⟩ | ⟨g, cap, cur, rfl, hb, hh, hn, hm, hs, ht⟩
  · exact ⟨none, 0, by rw [hn], by omega, by simp [maxLen], fun h => absurd hn h⟩
  · refine ⟨_, cap, rfl, hn, hm, fun _ => ⟨g, 0, rfl, fun j hj => ?_⟩⟩
    have hS := (h3 g rfl).1
    have hc : ∀ j u, rvs[j]? = some u → w.cell? ⟨g, 0 + j, none⟩ = some u := fun j u hj => by
      have := hcells g rfl j u hj
      have hadd : (⟨g, 0, none⟩ : Addr).add j = ⟨g, 0 + j, none⟩ := by unfold Addr.add; split <;> simp_all
      rwa [hadd] at this
    refine ⟨rvs.getD j undef, ⟨hS, hc _ _ ?_⟩, (h4 j hj).rd.sub fun k _ hk => hk.1⟩
    rw [List.getD_eq_getElem?_getD, List.getElem?_eq_getElem (by omega)]
    rfl
end Go.Proofs.Ythnepmhkeceadaa
