/- How the entries of all writers lie in memory: to be read (RdF), within a set of blocks. No condition. -/
import Derived.Test.YtbjndbaljenlgaaBase
import Derived.Test.YtbjndbaljenlgaaJn2
namespace Go.Proofs.Ytbjndbaljenlgaa
open Go.RowKit
/-- What was there is there, but for the blocks of a set. -/
structure Chg (T : Nat → Prop) (w w' : World) : Prop where
  os : w'.os = w.os
  tape : w'.tape = w.tape
  output : w'.output = w.output
  size : w.heap.size ≤ w'.heap.size
  block : ∀ k, k < w.heap.size → ¬ T k → w'.heap[k]? = w.heap[k]?
theorem Chg.refl (T : Nat → Prop) (w : World) : Chg T w w := ⟨rfl, rfl, rfl, Nat.le_refl _, fun _ _ _ => rfl⟩
theorem Chg.trans {T : Nat → Prop} {a b c : World} (h : Chg T a b) (k : Chg T b c) : Chg T a c :=
  ⟨k.os.trans h.os, k.tape.trans h.tape, k.output.trans h.output, Nat.le_trans h.size k.size, fun i hi hn => (k.block i (Nat.lt_of_lt_of_le hi h.size) hn).trans (h.block i hi hn)⟩
theorem Chg.mono {T T' : Nat → Prop} {w w' : World} (h : Chg T w w') (ht : ∀ k, k < w.heap.size → T k → T' k) : Chg T' w w' := ⟨h.os, h.tape, h.output, h.size, fun i hi hn => h.block i hi (fun e => hn (ht i hi e))⟩
theorem Chg.of_grown {w w' : World} {row : Option Nat} (h : w.grownBy w' row) : Chg (fun k => row = some k) w w' := ⟨h.os, h.tape, h.output, h.size, fun i hi hn => h.block i hi (fun e => hn e.symm)⟩
theorem Chg.of_below {w w' : World} (h : Below w.heap.size w w') (T : Nat → Prop) : Chg T w w' := ⟨h.os, h.tape, h.output, h.size, fun i hi _ => h.block i hi⟩
theorem Chg.below {T : Nat → Prop} {w w' : World} {B : Nat} (h : Chg T w w') (hB : B ≤ w.heap.size) (ht : ∀ k, T k → B ≤ k) : Below B w w' :=
  ⟨h.os, h.tape, h.output, h.size, fun k hk => h.block k (by omega) (fun e => by have := ht k e; omega)⟩
theorem Chg.cell {T : Nat → Prop} {w w' : World} (h : Chg T w w') {a : Addr} {u : Value} (hc : w.cell? a = some u) (hn : ¬ T a.block) : w'.cell? a = some u :=
  (World.cell?_of_block (h.block a.block (World.block_lt_of_cell? w a hc) hn)).trans hc
/-- nil, or at an address -/
def Sl0 (v : Value) : Prop := v = .slice none 0 0 ∨ ∃ ad n cap, v = .slice (some ad) n cap
theorem Sl0.of_own {w : World} {base : Nat} {e : TypeId} {sz : Nat} {v : Value} {n : Nat} {xs : List Value} (h : w.ownsRow base e sz v n xs) : Sl0 v := by
  rcases own_cases h with ⟨rfl, -⟩ | ⟨g, cap, rfl, -⟩
  · exact .inl rfl
  · exact .inr ⟨_, _, _, rfl⟩
/-- A slice of n elements of sz cells that lies in a block of a set. -/
def RdS (S : Nat → Prop) (sz : Nat) (w : World) (v : Value) (n : Nat) (flat : List Value) : Prop :=
  flat.length = n * sz ∧ Sl0 v ∧ ∃ a cap, v = .slice a n cap ∧ n ≤ cap ∧ cap ≤ maxLen ∧
    (n ≠ 0 → ∃ b off, a = some ⟨b, off, none⟩ ∧ ∀ j u, flat[j]? = some u → S b ∧ w.cell? ⟨b, off + j, none⟩ = some u)
theorem RdS.rd {S : Nat → Prop} {sz : Nat} {w : World} {v : Value} {n : Nat} {flat : List Value} (h : RdS S sz w v n flat) : Rd sz w v n flat := by
  obtain ⟨h0, -, a, cap, h1, h2, h3, h4⟩ := h
  refine ⟨h0, a, cap, h1, h2, h3, fun hn => ?_⟩
  obtain ⟨b, off, e1, e2⟩ := h4 hn
  exact ⟨b, off, e1, fun j u hj => (e2 j u hj).2⟩
theorem RdS.move {S S' : Nat → Prop} {sz : Nat} {w w' : World} {v : Value} {n : Nat} {flat : List Value} (h : RdS S sz w v n flat) (hc : ∀ a u, w.cell? a = some u → S a.block → S' a.block ∧ w'.cell? a = some u) : RdS S' sz w' v n flat := by
  obtain ⟨h0, hs, a, cap, h1, h2, h3, h4⟩ := h
  refine ⟨h0, hs, a, cap, h1, h2, h3, fun hn => ?_⟩
  obtain ⟨b, off, e1, e2⟩ := h4 hn
  exact ⟨b, off, e1, fun j u hj => let ⟨g1, g2⟩ := e2 j u hj; hc ⟨b, off + j, none⟩ u g2 g1⟩
theorem RdS.of_own {w : World} {base : Nat} {e : TypeId} {sz : Nat} {v : Value} {n : Nat} {xs : List Value} (h : w.ownsRow base e sz v n xs) : RdS (fun k => v.ownBlock = some k) sz w v n xs := by
  refine ⟨h.1, Sl0.of_own h, ?_⟩
  have hcells := fun g => h.cells (g := g)
  rcases h.2 with ⟨rfl, rfl⟩ | ⟨g, cap, cur, rfl, hb, hh, hn, hm, hs, ht⟩
  · exact ⟨none, 0, rfl, Nat.le_refl _, by simp [maxLen], fun h => absurd rfl h⟩
  · refine ⟨_, cap, rfl, hn, hm, fun _ => ⟨g, 0, rfl, fun j u hj => ⟨rfl, ?_⟩⟩⟩
    have := hcells g rfl j u hj
    have hadd : (⟨g, 0, none⟩ : Addr).add j = ⟨g, 0 + j, none⟩ := by unfold Addr.add; split <;> simp_all
    rwa [hadd] at this
abbrev e0 : Ent := ([], 0, 0)
/-- an entry's three cells -/
def RdE (S : Nat → Prop) (w : World) (b off : Nat) (e : Ent) : Prop :=
  ∃ cv, (S b ∧ w.cell? ⟨b, off, none⟩ = some cv) ∧ RdS S 1 w cv e.1.length (enc1 e.1) ∧ (S b ∧ w.cell? ⟨b, off + 1, none⟩ = some (.int .i64 e.2.1)) ∧ S b ∧ w.cell? ⟨b, off + 2, none⟩ = some (.int .i64 e.2.2)
/-- the entries of one writer -/
def RdR (S : Nat → Prop) (w : World) (v : Value) (es : List Ent) : Prop :=
  Sl0 v ∧ ∃ a cap, v = .slice a es.length cap ∧ es.length ≤ cap ∧ cap ≤ maxLen ∧ (es.length ≠ 0 → ∃ b off, a = some ⟨b, off, none⟩ ∧ ∀ i, i < es.length → RdE S w b (off + i * 3) (es.getD i e0))
/-- the entries of all writers -/
def RdF (S : Nat → Prop) (w : World) (v : Value) (F : Fd) : Prop :=
  Sl0 v ∧ ∃ a cap, v = .slice a F.length cap ∧ F.length ≤ cap ∧ cap ≤ maxLen ∧ (F.length ≠ 0 → ∃ b off, a = some ⟨b, off, none⟩ ∧ ∀ j, j < F.length → ∃ rv, (S b ∧ w.cell? ⟨b, off + j, none⟩ = some rv) ∧ RdR S w rv (F.getD j []))
theorem RdE.move {S S' : Nat → Prop} {w w' : World} {b off : Nat} {e : Ent} (h : RdE S w b off e) (hc : ∀ a u, w.cell? a = some u → S a.block → S' a.block ∧ w'.cell? a = some u) : RdE S' w' b off e := by
  obtain ⟨cv, ⟨s1, c1⟩, h1, ⟨s2, c2⟩, s3, c3⟩ := h
  exact ⟨cv, hc _ _ c1 s1, h1.move hc, hc _ _ c2 s2, hc _ _ c3 s3⟩
theorem RdR.move {S S' : Nat → Prop} {w w' : World} {v : Value} {es : List Ent} (h : RdR S w v es) (hc : ∀ a u, w.cell? a = some u → S a.block → S' a.block ∧ w'.cell? a = some u) : RdR S' w' v es := by
  obtain ⟨hs, a, cap, h1, h2, h3, h4⟩ := h
  refine ⟨hs, a, cap, h1, h2, h3, fun hn => ?_⟩
  obtain ⟨b, off, e1, e2⟩ := h4 hn
  exact ⟨b, off, e1, fun i hi => (e2 i hi).move hc⟩
theorem RdF.move {S S' : Nat → Prop} {w w' : World} {v : Value} {F : Fd} (h : RdF S w v F) (hc : ∀ a u, w.cell? a = some u → S a.block → S' a.block ∧ w'.cell? a = some u) : RdF S' w' v F := by
  obtain ⟨hs, a, cap, h1, h2, h3, h4⟩ := h
  refine ⟨hs, a, cap, h1, h2, h3, fun hn => ?_⟩
  obtain ⟨b, off, e1, e2⟩ := h4 hn
  refine ⟨b, off, e1, fun j hj => ?_⟩
  obtain ⟨rv, ⟨s1, c1⟩, h5⟩ := e2 j hj
  exact ⟨rv, hc _ _ c1 s1, h5.move hc⟩
/-- every block -/
def All : Nat → Prop := fun _ => True
theorem RdF.below {S : Nat → Prop} {w w' : World} {v : Value} {F : Fd} (h : RdF S w v F) (hb : Below w.heap.size w w') : RdF S w' v F := h.move fun _ _ hc hs => ⟨hs, cell_keep hb hc⟩
theorem RdR.below {S : Nat → Prop} {w w' : World} {v : Value} {F : List Ent} (h : RdR S w v F) (hb : Below w.heap.size w w') : RdR S w' v F := h.move fun _ _ hc hs => ⟨hs, cell_keep hb hc⟩
theorem RdF.all {S : Nat → Prop} {w : World} {v : Value} {F : Fd} (h : RdF S w v F) : RdF All w v F := h.move fun _ _ hc _ => ⟨trivial, hc⟩
theorem RdR.all {S : Nat → Prop} {w : World} {v : Value} {F : List Ent} (h : RdR S w v F) : RdR All w v F := h.move fun _ _ hc _ => ⟨trivial, hc⟩
theorem RdF.chg {S T : Nat → Prop} {w w' : World} {v : Value} {F : Fd} (h : RdF S w v F) (hc : Chg T w w') (hd : ∀ k, S k → ¬ T k) : RdF S w' v F := h.move fun _ _ hx hs => ⟨hs, hc.cell hx (hd _ hs)⟩
theorem RdR.chg {S T : Nat → Prop} {w w' : World} {v : Value} {F : List Ent} (h : RdR S w v F) (hc : Chg T w w') (hd : ∀ k, S k → ¬ T k) : RdR S w' v F := h.move fun _ _ hx hs => ⟨hs, hc.cell hx (hd _ hs)⟩
theorem RdS.chg {S T : Nat → Prop} {sz : Nat} {w w' : World} {v : Value} {n : Nat} {flat : List Value} (h : RdS S sz w v n flat) (hc : Chg T w w') (hd : ∀ k, S k → ¬ T k) : RdS S sz w' v n flat := h.move fun _ _ hx hs => ⟨hs, hc.cell hx (hd _ hs)⟩
theorem RdF.sub {S S' : Nat → Prop} {w : World} {v : Value} {F : Fd} (h : RdF S w v F) (hs : ∀ k, k < w.heap.size → S k → S' k) : RdF S' w v F := h.move fun a _ hc hx => ⟨hs _ (World.block_lt_of_cell? w a hc) hx, hc⟩
theorem RdR.sub {S S' : Nat → Prop} {w : World} {v : Value} {F : List Ent} (h : RdR S w v F) (hs : ∀ k, k < w.heap.size → S k → S' k) : RdR S' w v F := h.move fun a _ hc hx => ⟨hs _ (World.block_lt_of_cell? w a hc) hx, hc⟩
theorem RdS.sub {S S' : Nat → Prop} {sz : Nat} {w : World} {v : Value} {n : Nat} {flat : List Value} (h : RdS S sz w v n flat) (hs : ∀ k, k < w.heap.size → S k → S' k) : RdS S' sz w v n flat := h.move fun a _ hc hx => ⟨hs _ (World.block_lt_of_cell? w a hc) hx, hc⟩
/-- the row of a writer -/
theorem RdF.row {S : Nat → Prop} {w : World} {b off : Nat} {F : Fd} (h : ∀ j, j < F.length → ∃ rv, (S b ∧ w.cell? ⟨b, off + j, none⟩ = some rv) ∧ RdR S w rv (F.getD j [])) (j : Nat) (hj : j < F.length) :
    ∃ a cap, w.cell? ⟨b, off + j, none⟩ = some (.slice a (ln F j) cap) ∧ RdR S w (.slice a (ln F j) cap) (F.getD j []) := by
  obtain ⟨rv, ⟨-, c⟩, hr⟩ := h j hj
  have hr' := hr
  obtain ⟨-, a, cap, rfl, -⟩ := hr
  exact ⟨a, cap, c, hr'⟩
/-- one entry, cell by cell -/
theorem RdF.entry {S : Nat → Prop} {w : World} {v : Value} {F : Fd} (h : RdF S w v F) {j i : Nat} (hj : j < F.length) (hi : i < ln F j) :
    ∃ b off cap b2 off2 cap2 a3 cap3, v = .slice (some ⟨b, off, none⟩) F.length cap ∧ F.length ≤ cap ∧ cap ≤ maxLen ∧
      w.cell? ⟨b, off + j, none⟩ = some (.slice (some ⟨b2, off2, none⟩) (ln F j) cap2) ∧ ln F j ≤ cap2 ∧ cap2 ≤ maxLen ∧
      w.cell? ⟨b2, off2 + i * 3, none⟩ = some (.slice a3 (ent F j i).1.length cap3) ∧ w.cell? ⟨b2, off2 + i * 3 + 1, none⟩ = some (.int .i64 (ent F j i).2.1) ∧ w.cell? ⟨b2, off2 + i * 3 + 2, none⟩ = some (.int .i64 (ent F j i).2.2) ∧
      RdS S 1 w (.slice a3 (ent F j i).1.length cap3) (ent F j i).1.length (enc1 (ent F j i).1) := by
  obtain ⟨-, a, cap, rfl, h2, h3, h4⟩ := h
  obtain ⟨b, off, rfl, e2⟩ := h4 (by omega)
  obtain ⟨rv, ⟨-, c⟩, -, a2, cap2, rfl, g2, g3, g4⟩ := e2 j hj
  obtain ⟨b2, off2, rfl, e3⟩ := g4 (by unfold ln at hi; omega)
  obtain ⟨cv, ⟨-, c1⟩, hr, ⟨-, c2⟩, -, c3⟩ := e3 i hi
  have hr' := hr
  obtain ⟨-, -, a3, cap3, rfl, -⟩ := hr
  exact ⟨b, off, cap, b2, off2, cap2, a3, cap3, rfl, h2, h3, c, g2, g3, c1, c2, c3, hr'⟩
/-- the row of a writer -/
theorem RdF.feed {S : Nat → Prop} {w : World} {v : Value} {F : Fd} (h : RdF S w v F) {j : Nat} (hj : j < F.length) :
    ∃ b off cap a2 cap2, v = .slice (some ⟨b, off, none⟩) F.length cap ∧ F.length ≤ cap ∧ cap ≤ maxLen ∧
      w.cell? ⟨b, off + j, none⟩ = some (.slice a2 (ln F j) cap2) ∧ ln F j ≤ cap2 ∧ cap2 ≤ maxLen ∧ RdR S w (.slice a2 (ln F j) cap2) (F.getD j []) := by
  obtain ⟨-, a, cap, rfl, h2, h3, h4⟩ := h
  obtain ⟨b, off, rfl, e2⟩ := h4 (by omega)
  obtain ⟨rv, ⟨-, c⟩, hr⟩ := e2 j hj
  have hr' := hr
  obtain ⟨-, a2, cap2, rfl, g2, g3, g4⟩ := hr
  exact ⟨b, off, cap, a2, cap2, rfl, h2, h3, c, g2, g3, hr'⟩
theorem RdF.shape {S : Nat → Prop} {w : World} {v : Value} {F : Fd} (h : RdF S w v F) : ∃ a cap, v = .slice a F.length cap ∧ F.length ≤ cap ∧ cap ≤ maxLen := by
  obtain ⟨-, a, cap, rfl, h2, h3, -⟩ := h
  exact ⟨a, cap, rfl, h2, h3⟩
/-- a clock's number -/
theorem RdS.num {S : Nat → Prop} {w : World} {v : Value} {xs : List Int} (h : RdS S 1 w v xs.length (enc1 xs)) {k : Nat} (hk : k < xs.length) :
    ∃ b off cap z, v = .slice (some ⟨b, off, none⟩) xs.length cap ∧ xs.length ≤ cap ∧ cap ≤ maxLen ∧ w.cell? ⟨b, off + k, none⟩ = some (.int .i64 z) ∧ Hid (xs.getD k 0 = z) := by
  obtain ⟨-, -, a, cap, rfl, h2, h3, h4⟩ := h
  obtain ⟨b, off, rfl, e2⟩ := h4 (by omega)
  exact ⟨b, off, cap, _, rfl, h2, h3, (e2 k _ (enc1_at xs k 0 hk)).2, rfl⟩
theorem RdS.num' {S : Nat → Prop} {w : World} {v : Value} {xs : List Int} {n : Nat} (h : RdS S 1 w v xs.length (enc1 xs)) (hn : xs.length = n) {k : Nat} (hk : k < n) :
    ∃ b off cap z, v = .slice (some ⟨b, off, none⟩) n cap ∧ n ≤ cap ∧ cap ≤ maxLen ∧ w.cell? ⟨b, off + k, none⟩ = some (.int .i64 z) ∧ Hid (xs.getD k 0 = z) := by subst hn; exact h.num hk
theorem RdS.below {S : Nat → Prop} {sz : Nat} {w w' : World} {v : Value} {n : Nat} {flat : List Value} (h : RdS S sz w v n flat) (hb : Below w.heap.size w w') : RdS S sz w' v n flat := h.move fun _ _ hc hs => ⟨hs, cell_keep hb hc⟩
theorem ret_b {a b : Bool} (h : a = b) : Ending.returned (.bool a) = .returned (.bool b) := by rw [h]
theorem ret_n {a b : Int} (h : a = b) : Ending.returned (.int .i64 a) = .returned (.int .i64 b) := by rw [h]
theorem RdS.shape {S : Nat → Prop} {sz : Nat} {w : World} {v : Value} {n : Nat} {flat : List Value} (h : RdS S sz w v n flat) : ∃ a cap, v = .slice a n cap ∧ n ≤ cap ∧ cap ≤ maxLen := by
  obtain ⟨-, -, a, cap, rfl, h2, h3, -⟩ := h
  exact ⟨a, cap, rfl, h2, h3⟩
end Go.Proofs.Ytbjndbaljenlgaa
