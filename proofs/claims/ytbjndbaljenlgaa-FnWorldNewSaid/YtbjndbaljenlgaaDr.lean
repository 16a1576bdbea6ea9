/- A feed that a draw builds up in memory; the contract of l91Reader. -/
import Derived.Test.YtbjndbaljenlgaaDh
import Derived.Maps.AppendAt
import Derived.StillTailTactics
namespace Go.Proofs.Ytbjndbaljenlgaa
open Go.RowKit
set_option linter.unusedSimpArgs false
/-- the variable's block fb holds a feed, the result's block h a zero feed -/
structure Fr (W : World) (h fb : Nat) (p len dig sign : Int) (vb vh : Value) : Prop where
  x0 : W.cell? ⟨fb, 0, none⟩ = some (.int .i64 p)
  x1 : W.cell? ⟨fb, 1, none⟩ = some (.int .i64 len)
  x2 : W.cell? ⟨fb, 2, none⟩ = some (.int .i64 dig)
  x3 : W.cell? ⟨fb, 3, none⟩ = some (.int .i64 sign)
  x4 : W.cell? ⟨fb, 4, none⟩ = some (vb)
  x5 : W.cell? ⟨fb, 5, none⟩ = some (vh)
  fx : ∀ o, W.frozen? ⟨fb, o, none⟩ = false
  r0 : W.cell? ⟨h, 0, none⟩ = some (.int .i64 0)
  r1 : W.cell? ⟨h, 1, none⟩ = some (.int .i64 0)
  r2 : W.cell? ⟨h, 2, none⟩ = some (.int .i64 0)
  r3 : W.cell? ⟨h, 3, none⟩ = some (.int .i64 0)
  r4 : W.cell? ⟨h, 4, none⟩ = some (.slice none 0 0)
  r5 : W.cell? ⟨h, 5, none⟩ = some (.slice none 0 0)
  fr : ∀ o, W.frozen? ⟨h, o, none⟩ = false
theorem Fr.moved {W W' : World} {h fb : Nat} {p len dig sign : Int} {vb vh : Value} {row : Option Nat} (f : Fr W h fb p len dig sign vb vh) (hg : W.grownBy W' row) (h1 : some h ≠ row) (h2 : some fb ≠ row) : Fr W' h fb p len dig sign vb vh :=
  ⟨grown_cell hg f.x0 h2, grown_cell hg f.x1 h2, grown_cell hg f.x2 h2, grown_cell hg f.x3 h2, grown_cell hg f.x4 h2, grown_cell hg f.x5 h2, fun o => (grown_frozen (a := ⟨fb, o, none⟩) hg (by have := World.block_lt_of_cell? _ _ f.x0; exact this) h2).trans (f.fx o), grown_cell hg f.r0 h1, grown_cell hg f.r1 h1, grown_cell hg f.r2 h1, grown_cell hg f.r3 h1, grown_cell hg f.r4 h1, grown_cell hg f.r5 h1, fun o => (grown_frozen (a := ⟨h, o, none⟩) hg (by have := World.block_lt_of_cell? _ _ f.r0; exact this) h1).trans (f.fr o)⟩
theorem Fr.below {W W' : World} {h fb : Nat} {p len dig sign : Int} {vb vh : Value} (f : Fr W h fb p len dig sign vb vh) (hb : Below W.heap.size W W') : Fr W' h fb p len dig sign vb vh := f.moved (below_grown hb none) (by simp) (by simp)
theorem setc {w : World} {b o B j : Nat} {v u : Value} (h : w.cell? ⟨b, o, none⟩ = some v) (hne : b ≠ B ∨ o ≠ j) : (w.setCell ⟨B, j, none⟩ u).cell? ⟨b, o, none⟩ = some v := by
  rw [World.cell?_setCell_other _ _ _ _ (by intro e; injection e with e1 e2; rcases hne with hne | hne <;> simp_all)]
  exact h
theorem seto {w : World} {b o : Nat} {v u : Value} (h : w.cell? ⟨b, o, none⟩ = some v) : (w.setCell ⟨b, o, none⟩ u).cell? ⟨b, o, none⟩ = some u := World.cell?_setCell_same _ _ _ h
theorem Fr.set0 {W : World} {h fb : Nat} {p len dig sign : Int} {vb vh : Value} (f : Fr W h fb p len dig sign vb vh) (hn : h ≠ fb) (n : Int) : Fr (W.setCell ⟨fb, 0, none⟩ (.int .i64 n)) h fb n len dig sign vb vh :=
  ⟨seto f.x0, setc f.x1 (.inr (by omega)), setc f.x2 (.inr (by omega)), setc f.x3 (.inr (by omega)), setc f.x4 (.inr (by omega)), setc f.x5 (.inr (by omega)), fun o => by rw [World.frozen?_setCell]; exact f.fx o, setc f.r0 (.inl hn), setc f.r1 (.inl hn), setc f.r2 (.inl hn), setc f.r3 (.inl hn), setc f.r4 (.inl hn), setc f.r5 (.inl hn), fun o => by rw [World.frozen?_setCell]; exact f.fr o⟩
theorem Fr.set1 {W : World} {h fb : Nat} {p len dig sign : Int} {vb vh : Value} (f : Fr W h fb p len dig sign vb vh) (hn : h ≠ fb) (n : Int) : Fr (W.setCell ⟨fb, 1, none⟩ (.int .i64 n)) h fb p n dig sign vb vh :=
  ⟨setc f.x0 (.inr (by omega)), seto f.x1, setc f.x2 (.inr (by omega)), setc f.x3 (.inr (by omega)), setc f.x4 (.inr (by omega)), setc f.x5 (.inr (by omega)), fun o => by rw [World.frozen?_setCell]; exact f.fx o, setc f.r0 (.inl hn), setc f.r1 (.inl hn), setc f.r2 (.inl hn), setc f.r3 (.inl hn), setc f.r4 (.inl hn), setc f.r5 (.inl hn), fun o => by rw [World.frozen?_setCell]; exact f.fr o⟩
theorem Fr.set2 {W : World} {h fb : Nat} {p len dig sign : Int} {vb vh : Value} (f : Fr W h fb p len dig sign vb vh) (hn : h ≠ fb) (n : Int) : Fr (W.setCell ⟨fb, 2, none⟩ (.int .i64 n)) h fb p len n sign vb vh :=
  ⟨setc f.x0 (.inr (by omega)), setc f.x1 (.inr (by omega)), seto f.x2, setc f.x3 (.inr (by omega)), setc f.x4 (.inr (by omega)), setc f.x5 (.inr (by omega)), fun o => by rw [World.frozen?_setCell]; exact f.fx o, setc f.r0 (.inl hn), setc f.r1 (.inl hn), setc f.r2 (.inl hn), setc f.r3 (.inl hn), setc f.r4 (.inl hn), setc f.r5 (.inl hn), fun o => by rw [World.frozen?_setCell]; exact f.fr o⟩
theorem Fr.set3 {W : World} {h fb : Nat} {p len dig sign : Int} {vb vh : Value} (f : Fr W h fb p len dig sign vb vh) (hn : h ≠ fb) (n : Int) : Fr (W.setCell ⟨fb, 3, none⟩ (.int .i64 n)) h fb p len dig n vb vh :=
  ⟨setc f.x0 (.inr (by omega)), setc f.x1 (.inr (by omega)), setc f.x2 (.inr (by omega)), seto f.x3, setc f.x4 (.inr (by omega)), setc f.x5 (.inr (by omega)), fun o => by rw [World.frozen?_setCell]; exact f.fx o, setc f.r0 (.inl hn), setc f.r1 (.inl hn), setc f.r2 (.inl hn), setc f.r3 (.inl hn), setc f.r4 (.inl hn), setc f.r5 (.inl hn), fun o => by rw [World.frozen?_setCell]; exact f.fr o⟩
theorem Fr.set4 {W : World} {h fb : Nat} {p len dig sign : Int} {vb vh : Value} (f : Fr W h fb p len dig sign vb vh) (hn : h ≠ fb) (v : Value) : Fr (W.setCell ⟨fb, 4, none⟩ (v)) h fb p len dig sign v vh :=
  ⟨setc f.x0 (.inr (by omega)), setc f.x1 (.inr (by omega)), setc f.x2 (.inr (by omega)), setc f.x3 (.inr (by omega)), seto f.x4, setc f.x5 (.inr (by omega)), fun o => by rw [World.frozen?_setCell]; exact f.fx o, setc f.r0 (.inl hn), setc f.r1 (.inl hn), setc f.r2 (.inl hn), setc f.r3 (.inl hn), setc f.r4 (.inl hn), setc f.r5 (.inl hn), fun o => by rw [World.frozen?_setCell]; exact f.fr o⟩
theorem Fr.set5 {W : World} {h fb : Nat} {p len dig sign : Int} {vb vh : Value} (f : Fr W h fb p len dig sign vb vh) (hn : h ≠ fb) (v : Value) : Fr (W.setCell ⟨fb, 5, none⟩ (v)) h fb p len dig sign vb v :=
  ⟨setc f.x0 (.inr (by omega)), setc f.x1 (.inr (by omega)), setc f.x2 (.inr (by omega)), setc f.x3 (.inr (by omega)), setc f.x4 (.inr (by omega)), seto f.x5, fun o => by rw [World.frozen?_setCell]; exact f.fx o, setc f.r0 (.inl hn), setc f.r1 (.inl hn), setc f.r2 (.inl hn), setc f.r3 (.inl hn), setc f.r4 (.inl hn), setc f.r5 (.inl hn), fun o => by rw [World.frozen?_setCell]; exact f.fr o⟩
/-- its two slices are the call's own, apart from each other and from the variable -/
structure Ow (W : World) (base fb : Nat) (vb vh : Value) (bs : List ByteArray) (hv : List Bool) : Prop where
  b : W.ownsRow base 9 1 vb bs.length (encS bs)
  h : W.ownsRow base 4 1 vh hv.length (encB hv)
  ap : vb.ownBlock = none ∨ vb.ownBlock ≠ vh.ownBlock
  nb : vb.ownBlock ≠ some fb
  nh : vh.ownBlock ≠ some fb
theorem Ow.moved {W W' : World} {base fb : Nat} {vb vh : Value} {bs : List ByteArray} {hv : List Bool} {k : Nat} (f : Ow W base fb vb vh bs hv) (hg : W.grownBy W' (some k)) (hk : k < base ∨ k = fb) : Ow W' base fb vb vh bs hv := by
  refine ⟨f.b.kept hg ?_, f.h.kept hg ?_, f.ap, f.nb, f.nh⟩
  · rcases hw : vb.ownBlock with _ | j
    · exact .inl rfl
    · have := own_block f.b j hw
      rcases hk with hk | rfl
      · exact .inr (by simp; omega)
      · exact .inr (fun e => f.nb (hw.trans e))
  · rcases hw : vh.ownBlock with _ | j
    · exact .inl rfl
    · have := own_block f.h j hw
      rcases hk with hk | rfl
      · exact .inr (by simp; omega)
      · exact .inr (fun e => f.nh (hw.trans e))
theorem Ow.below {W W' : World} {base fb : Nat} {vb vh : Value} {bs : List ByteArray} {hv : List Bool} (f : Ow W base fb vb vh bs hv) (hb : Below W.heap.size W W') : Ow W' base fb vb vh bs hv := ⟨own_below f.b hb, own_below f.h hb, f.ap, f.nb, f.nh⟩
theorem Ow.set {W : World} {base fb j : Nat} {u : Value} {vb vh : Value} {bs : List ByteArray} {hv : List Bool} {k : Nat} (f : Ow W base fb vb vh bs hv) (hk : k < base ∨ k = fb) : Ow (W.setCell ⟨k, j, none⟩ u) base fb vb vh bs hv := f.moved (grown_set (World.grownBy.refl _ _)) hk
theorem Ow.addH {W W' : World} {base fb : Nat} {vb vh v' : Value} {bs : List ByteArray} {hv : List Bool} {u : Bool} (f : Ow W base fb vb vh bs hv) (hf : fb < W.heap.size) (ho : W'.ownsRow base 4 1 v' (hv.length + 1) (encB hv ++ [.bool u])) (hg : W.grownBy W' vh.ownBlock) (hl : v'.ownBlock = vh.ownBlock ∨ v'.ownBlock = some (W.heap.size + 1)) : Ow W' base fb vb v' bs (hv ++ [u]) := by
  refine ⟨f.b.kept hg f.ap, ?_, ?_, f.nb, ?_⟩
  · rw [encB_snoc, List.length_append]; exact ho
  · rcases hl with hl | hl
    · rw [hl]; exact f.ap
    · rcases hw : vb.ownBlock with _ | j
      · exact .inl rfl
      · have := own_block f.b j hw
        exact .inr (by rw [hl]; simp; omega)
  · rcases hl with hl | hl
    · rw [hl]; exact f.nh
    · rw [hl]; simp; omega
theorem Ow.addB {W W' : World} {base fb : Nat} {vb vh v' : Value} {bs : List ByteArray} {hv : List Bool} {u : ByteArray} (f : Ow W base fb vb vh bs hv) (hf : fb < W.heap.size) (ho : W'.ownsRow base 9 1 v' (bs.length + 1) (encS bs ++ [.string u])) (hg : W.grownBy W' vb.ownBlock) (hl : v'.ownBlock = vb.ownBlock ∨ v'.ownBlock = some (W.heap.size + 1)) : Ow W' base fb v' vh (bs ++ [u]) hv := by
  have ap' : vh.ownBlock = none ∨ vh.ownBlock ≠ vb.ownBlock := by
    rcases f.ap with h | h
    · rcases hw : vh.ownBlock with _ | j
      · exact .inl rfl
      · exact .inr (by rw [h]; simp)
    · exact .inr (Ne.symm h)
  refine ⟨?_, f.h.kept hg ap', ?_, ?_, f.nh⟩
  · rw [encS_snoc, List.length_append]; exact ho
  · rcases hl with hl | hl
    · rw [hl]; exact f.ap
    · rcases hw : vh.ownBlock with _ | j
      · exact .inr (by rw [hl]; simp)
      · have := own_block f.h j hw
        exact .inr (by rw [hl]; simp; omega)
  · rcases hl with hl | hl
    · rw [hl]; exact f.nb
    · rw [hl]; simp; omega
/-- append of one cell to a slice of the call's own; where the new slice lies -/
theorem wpList_appL {P : Program} (w : World) {ops : Array Oper} {rest : List Oper} {o : Oper} {a : Act} {Q : Exit → Act → World → Prop} (hgd : o.guard = none) (s x : Operand) (t : TypeId)
    (ho : o.op = .call { callee := .builtin .append, args := #[s, x], argTypes := #[t, t] }) (base : Nat) (e : TypeId) (hu : P.underlying t = some (.slice e)) (z : Value) (by_ : Nat)
    (hinfo : (P.info? e).map (fun i => (i.zero, i.size, i.bytes)) = some (some z, 1, by_)) (hz : z.cells.size = 1) (hby : by_ ≤ 16) (v : Value) (n : Nat) (flat : List Value) (hs : a.eval s = v) (hown : w.ownsRow base e 1 v n flat)
    (u : Value) (hu1 : u.oneCell' = true) (T : TypeId) (c : Nat) (hx : a.eval x = .slice (some ⟨w.heap.size, 0, none⟩) 1 c) (hn : n ≤ 1048576) (hb : base ≤ w.heap.size)
    (h : ∀ v' w', w'.ownsRow base e 1 v' (n + 1) (flat ++ [u]) → w.grownBy w' v.ownBlock → (v'.ownBlock = v.ownBlock ∨ v'.ownBlock = some (w.heap.size + 1)) → wpList P ops Q rest (a.put o.dst v') w') :
    wpList P ops Q (o :: rest) a (w.alloc (.cells #[u] T)) := by
  obtain ⟨i0, hi, hz0, hz1, hz2⟩ := info_parts hinfo
  refine wpList_append_own_at _ hgd s x t ho base e i0 z 1 by_ hu hi hz0 hz1 hz2 hz (by decide) v n flat hs (hown.alloc _) ⟨w.heap.size, 0, none⟩ 1 c [u] hx rfl ?_ ?_ ?_ ?_ ?_ ?_
  · intro j u' hj
    match j, hj with
    | 0, hj => simp at hj; subst hj; simp [Addr.add]
  · intro u' hu'; simp at hu'; subst hu'; exact hu1
  · unfold maxLen; omega
  · have : (n + 1) * by_ ≤ (n + 1) * 16 := Nat.mul_le_mul_left _ hby
    omega
  · simp; omega
  · intro v' w' h1 h2 _ h4
    exact h v' w' h1 (grown_of_alloc h2) (by simpa using h4)
theorem grown_setn {w w' : World} {r g j : Nat} {u : Value} (h : w.grownBy w' (some r)) (hg : w.heap.size ≤ g) : w.grownBy (w'.setCell ⟨g, j, none⟩ u) (some r) :=
  ⟨h.os, h.tape, h.output, by simpa using h.size, fun k hk hne => by rw [heap_setCell_other w' ⟨g, j, none⟩ k u (by simp; omega)]; exact h.block k hk hne⟩
/-- a drawn feed: it can be read, in memory from w on; a head of no blocks is not signed -/
def FdP (B r P : Nat) (w : World) (e : Ending) (w' : World) : Prop :=
  ∃ (f : FeedV) (vb vh : Value), e = .returned (.agg #[.int .i64 f.pub, .int .i64 f.len, .int .i64 f.dig, .int .i64 f.sign, vb, vh]) ∧ RdS (fun k => w.heap.size ≤ k) 1 w' vb f.bs.length (encS f.bs) ∧ RdS (fun k => w.heap.size ≤ k) 1 w' vh f.hv.length (encB f.hv) ∧
    f.bs.length ≤ 16 ∧ f.hv.length ≤ 1000 ∧ (f.len = 0 → f.sign = 0) ∧ Reader B w' r P ∧ w.grownBy w' (some r)
end Go.Proofs.Ytbjndbaljenlgaa
