/- Runs that are new: readers of feeds and of lists of no elements; the contracts of settingValid, HeadPublic, of the draw. -/
import Derived.Test.YtbjndbaljenlgaaDh
import Derived.Maps.AppendAt
import Derived.StillTailTactics
import Derived.OwnWalk
namespace Go.Proofs.Ytbjndbaljenlgaa
open Go.RowKit
set_option linter.unusedSimpArgs false
/-- a slice of no elements -/
def Em (v : Value) : Prop := ∃ a c, v = .slice a 0 c ∧ c ≤ maxLen
theorem Em.rd {v : Value} (h : Em v) (sz : Nat) (w : World) : Rd sz w v 0 [] := by
  obtain ⟨a, c, rfl, h⟩ := h
  exact ⟨by simp, a, c, rfl, Nat.zero_le _, h, fun h => absurd rfl h⟩
theorem Em.own {w : World} {base : Nat} {e : TypeId} {sz : Nat} {v : Value} {xs : List Value} (h : w.ownsRow base e sz v 0 xs) : Em v := by
  rcases own_cases h with ⟨rfl, -, -⟩ | ⟨g, cap, rfl, -, -, -, h5⟩
  · exact ⟨none, 0, rfl, by simp [maxLen]⟩
  · exact ⟨_, cap, rfl, h5⟩
theorem Em.nil : Em (.slice none 0 0) := ⟨none, 0, rfl, by simp [maxLen]⟩
theorem Em.one {v : Value} (h : Em v) : v.oneCell' = true := by obtain ⟨a, c, rfl, -⟩ := h; rfl
/-- n feeds of one key with no blocks -/
def FsR (w : World) (v : Value) (n : Nat) (p : Int) : Prop :=
  ∃ a cap, v = .slice a n cap ∧ n ≤ cap ∧ cap ≤ maxLen ∧ (n ≠ 0 → ∃ b off, a = some ⟨b, off, none⟩ ∧ ∀ i, i < n → ∃ vb vh, Em vb ∧ Em vh ∧ w.cell? ⟨b, off + i * 6, none⟩ = some (.int .i64 p) ∧ w.cell? ⟨b, off + i * 6 + 1, none⟩ = some (.int .i64 0) ∧
    w.cell? ⟨b, off + i * 6 + 2, none⟩ = some (.int .i64 0) ∧ w.cell? ⟨b, off + i * 6 + 3, none⟩ = some (.int .i64 0) ∧ w.cell? ⟨b, off + i * 6 + 4, none⟩ = some vb ∧ w.cell? ⟨b, off + i * 6 + 5, none⟩ = some vh)
theorem FsR.move {w w' : World} {v : Value} {n : Nat} {p : Int} (h : FsR w v n p) (hb : ∀ a u, w.cell? a = some u → w'.cell? a = some u) : FsR w' v n p := by
  obtain ⟨a, cap, rfl, h1, h2, h3⟩ := h
  refine ⟨a, cap, rfl, h1, h2, fun hn => ?_⟩
  obtain ⟨b, off, e, hc⟩ := h3 hn
  refine ⟨b, off, e, fun i hi => ?_⟩
  obtain ⟨vb, vh, e1, e2, c0, c1, c2, c3, c4, c5⟩ := hc i hi
  exact ⟨vb, vh, e1, e2, hb _ _ c0, hb _ _ c1, hb _ _ c2, hb _ _ c3, hb _ _ c4, hb _ _ c5⟩
theorem FsR.below {w w' : World} {v : Value} {n : Nat} {p : Int} (h : FsR w v n p) (hb : Below w.heap.size w w') : FsR w' v n p := h.move fun _ _ hc => cell_keep hb hc
theorem FsR.nil (w : World) (p : Int) {v : Value} (h : Em v) : FsR w v 0 p := by obtain ⟨a, c, rfl, hc⟩ := h; exact ⟨a, c, rfl, Nat.zero_le _, hc, fun h => absurd rfl h⟩
/-- n lists of no requests -/
def AsR (w : World) (v : Value) (n : Nat) : Prop :=
  ∃ a cap, v = .slice a n cap ∧ n ≤ cap ∧ cap ≤ maxLen ∧ (n ≠ 0 → ∃ b off, a = some ⟨b, off, none⟩ ∧ ∀ i, i < n → ∃ u, Em u ∧ w.cell? ⟨b, off + i, none⟩ = some u)
theorem AsR.move {w w' : World} {v : Value} {n : Nat} (h : AsR w v n) (hb : ∀ a u, w.cell? a = some u → w'.cell? a = some u) : AsR w' v n := by
  obtain ⟨a, cap, rfl, h1, h2, h3⟩ := h
  refine ⟨a, cap, rfl, h1, h2, fun hn => ?_⟩
  obtain ⟨b, off, e, hc⟩ := h3 hn
  exact ⟨b, off, e, fun i hi => let ⟨u, e1, c⟩ := hc i hi; ⟨u, e1, hb _ _ c⟩⟩
theorem AsR.below {w w' : World} {v : Value} {n : Nat} (h : AsR w v n) (hb : Below w.heap.size w w') : AsR w' v n := h.move fun _ _ hc => cell_keep hb hc
theorem AsR.nil (w : World) {v : Value} (h : Em v) : AsR w v 0 := by obtain ⟨a, c, rfl, hc⟩ := h; exact ⟨a, c, rfl, Nat.zero_le _, hc, fun h => absurd rfl h⟩
/-- the cells of feeds of one key -/
def ffl (p : Int) (l : List (Value × Value)) : List Value := l.flatMap fun x => [.int .i64 p, .int .i64 0, .int .i64 0, .int .i64 0, x.1, x.2]
theorem ffl_snoc (p : Int) (l : List (Value × Value)) (a b : Value) : ffl p (l ++ [(a, b)]) = ffl p l ++ [.int .i64 p, .int .i64 0, .int .i64 0, .int .i64 0, a, b] := by simp [ffl]
theorem ffl_at (p : Int) : ∀ (l : List (Value × Value)) (i : Nat) (h : i < l.length), (ffl p l)[i * 6]? = some (.int .i64 p) ∧ (ffl p l)[i * 6 + 1]? = some (.int .i64 0) ∧ (ffl p l)[i * 6 + 2]? = some (.int .i64 0) ∧ (ffl p l)[i * 6 + 3]? = some (.int .i64 0) ∧
    (ffl p l)[i * 6 + 4]? = some l[i].1 ∧ (ffl p l)[i * 6 + 5]? = some l[i].2 := by
  intro l
  induction l with
  | nil => intro i h; exact absurd h (Nat.not_lt_zero _)
  | cons x r ih =>
    intro i h
    cases i with
    | zero => simp [ffl]
    | succ i =>
      have hh := ih i (by simpa using h)
      have e : ∀ j, (ffl p (x :: r))[(i + 1) * 6 + j]? = (ffl p r)[i * 6 + j]? := fun j => by
        rw [show (i + 1) * 6 + j = i * 6 + j + 6 by omega]
        simp [ffl]
      have e0 := e 0
      rw [Nat.add_zero, Nat.add_zero] at e0
      rw [e0, e 1, e 2, e 3, e 4, e 5]
      exact hh
theorem FsR.of_own {w : World} {base : Nat} {e : TypeId} {v : Value} {p : Int} {l : List (Value × Value)} (h : w.ownsRow base e 6 v l.length (ffl p l)) (hl : ∀ x ∈ l, Em x.1 ∧ Em x.2) : FsR w v l.length p := by
  obtain ⟨-, a, cap, rfl, h1, h2, h3⟩ := Rd.of_own h
  refine ⟨a, cap, rfl, h1, h2, fun hn => ?_⟩
  obtain ⟨b, off, e, hc⟩ := h3 hn
  refine ⟨b, off, e, fun i hi => ?_⟩
  obtain ⟨g0, g1, g2, g3, g4, g5⟩ := ffl_at p l i hi
  have hm := hl _ (List.getElem_mem hi)
  exact ⟨_, _, hm.1, hm.2, hc _ _ g0, hc _ _ g1, hc _ _ g2, hc _ _ g3, hc _ _ g4, hc _ _ g5⟩
theorem AsR.of_own {w : World} {base : Nat} {e : TypeId} {v : Value} {l : List Value} (h : w.ownsRow base e 1 v l.length l) (hl : ∀ x ∈ l, Em x) : AsR w v l.length := by
  obtain ⟨-, a, cap, rfl, h1, h2, h3⟩ := Rd.of_own h
  refine ⟨a, cap, rfl, h1, h2, fun hn => ?_⟩
  obtain ⟨b, off, e, hc⟩ := h3 hn
  exact ⟨b, off, e, fun i hi => ⟨l[i], hl _ (List.getElem_mem hi), hc i _ (List.getElem?_eq_getElem hi)⟩⟩
def zeroF : Value := .agg #[.int .i64 0, .int .i64 0, .int .i64 0, .int .i64 0, .slice none 0 0, .slice none 0 0]
theorem info_feedI : (Try.prog.info? 39).map (fun i => (i.zero, i.size, i.bytes)) = some (some zeroF, 6, 80) := by kernel_rfl
theorem info_asks : (Try.prog.info? 80).map (fun i => (i.zero, i.size, i.bytes)) = some (some (.slice none 0 0), 1, 24) := by kernel_rfl
/-- append of a feed to a slice of the call's own; where the new slice lies -/
theorem wpList_appF (w : World) {ops : Array Oper} {rest : List Oper} {o : Oper} {a : Act} {Q : Exit → Act → World → Prop} (hgd : o.guard = none) (s x : Operand) (t : TypeId)
    (ho : o.op = .call { callee := .builtin .append, args := #[s, x], argTypes := #[t, t] }) (hu : Try.prog.underlying t = some (.slice 39)) (base : Nat) (v : Value) (p : Int) (l : List (Value × Value)) (n : Nat) (hs : a.eval s = v) (hown : w.ownsRow base 39 6 v n (ffl p l))
    (va vb : Value) (ha : Em va) (hb : Em vb) (T : TypeId) (c : Nat) (hx : a.eval x = .slice (some ⟨w.heap.size, 0, none⟩) 1 c) (hn : n ≤ 1000) (hbase : base ≤ w.heap.size)
    (h : ∀ v' w', w'.ownsRow base 39 6 v' (n + 1) (ffl p (l ++ [(va, vb)])) → w.grownBy w' v.ownBlock → (v'.ownBlock = v.ownBlock ∨ v'.ownBlock = some (w.heap.size + 1)) → wpList Try.prog ops Q rest (a.put o.dst v') w') :
    wpList Try.prog ops Q (o :: rest) a (w.alloc (.cells #[.int .i64 p, .int .i64 0, .int .i64 0, .int .i64 0, va, vb] T)) := by
  obtain ⟨i0, hi, hz0, hz1, hz2⟩ := info_parts info_feedI
  refine wpList_append_own_at _ hgd s x t ho base 39 i0 zeroF 6 80 hu hi hz0 hz1 hz2 rfl (by decide) v n (ffl p l) hs (hown.alloc _) ⟨w.heap.size, 0, none⟩ 1 c [.int .i64 p, .int .i64 0, .int .i64 0, .int .i64 0, va, vb] hx rfl ?_ ?_ ?_ ?_ ?_ ?_
  · intro j u' hj
    have hadd : (⟨w.heap.size, 0, none⟩ : Addr).add j = ⟨w.heap.size, j, none⟩ := by unfold Addr.add; split <;> simp_all
    rw [hadd]
    exact cell_new rfl (by simpa using hj)
  · intro u' hu'
    simp at hu'
    rcases hu' with rfl | rfl | rfl | rfl
    · rfl
    · rfl
    · exact ha.one
    · exact hb.one
  · unfold maxLen; omega
  · omega
  · simp; omega
  · intro v' w' h1 h2 _ h4
    exact h v' w' (by rw [ffl_snoc]; exact h1) (grown_of_alloc h2) (by simpa using h4)
/-- whether a setting is valid -/
def sv (s p b : Int) : Bool := inB 1 996 s && (inB 1 6 p && ((b == -1) || inB 1 (p - 1) b))
theorem hpub_in {s : Int} (h : inB 1 996 s = true) : inB 1 996 (hpub s) = true := by
  have h1 := inB_iff.1 h
  unfold hpub
  rw [if_pos h]
  exact inB_t (by omega) (by omega)
theorem impPub_c (n : Int) (w : World) : Calls Try.prog 17 #[.int .i64 n] w fun e w' => e = .returned (.int .i64 (hpub n)) ∧ w = w' := by
  have K := Lib.hid (fun W => isKey_c n W)
  have HE := Lib.hid (show hpub n = if inB 1 996 n = true then n * 5 % 997 else 0 from rfl)
  generalize hpub n = m at *
  cases hk : inB 1 996 n
  · rw [hk] at K HE
    clear hk
    go_enter Try.func17, Try.ntmps17
    go_wp2_with fail
    refine (K.out _).mono ?_
    rintro e w' ⟨rfl, rfl⟩
    go_wp2
    go_ret
    exact ⟨ret_i (by rw [HE.out]; rfl), rfl⟩
  · have h1 := inB_iff.1 hk
    rw [hk] at K HE
    clear hk
    have e2 : IntKind.i64.wrap (n * 5) = n * 5 := IntWalk.i64_in _ (by omega)
    have e4 : (n * 5).tmod 997 = n * 5 % 997 := Int.tmod_eq_emod_of_nonneg (by omega)
    go_enter Try.func17, Try.ntmps17
    go_wp2_with fail
    refine (K.out _).mono ?_
    rintro e w' ⟨rfl, rfl⟩
    go_wp2
    go_ret
    exact ⟨ret_i (by rw [HE.out]; simp [e4]), rfl⟩
theorem setting_c (s p b : Int) (w : World) (hp0 : -1 ≤ p) (hp1 : p ≤ 100) : Calls Try.prog 46 #[.int .i64 s, .int .i64 p, .int .i64 b] w fun e w' => e = .returned (.bool (sv s p b)) ∧ w = w' := by
  have K1 := Lib.hid (fun W => isKey_c s W)
  have K2 := Lib.hid (fun W => within_c p 1 6 W)
  have K3 := Lib.hid (fun W => within_c b 1 (p - 1) W)
  have HE := Lib.hid (show sv s p b = (inB 1 996 s && (inB 1 6 p && ((b == -1) || inB 1 (p - 1) b))) from rfl)
  generalize sv s p b = r at *
  generalize inB 1 996 s = q1 at *
  generalize inB 1 6 p = q2 at *
  generalize inB 1 (p - 1) b = q3 at *
  go_enter Try.func46, Try.ntmps46
  go_wp2_with fail
  refine (K1.out _).mono ?_
  rintro e w' ⟨rfl, rfl⟩
  cases q1
  · go_wp2
    go_ret
    exact ⟨ret_bb (by rw [HE.out]; rfl), rfl⟩
  · go_wp2_with fail
    refine (K2.out _).mono ?_
    rintro e w' ⟨rfl, rfl⟩
    cases q2
    · go_wp2
      go_ret
      exact ⟨ret_bb (by rw [HE.out]; rfl), rfl⟩
    · cases hb : (b == -1)
      · rw [hb] at HE
        go_wp2_with fail
        refine (K3.out _).mono ?_
        rintro e w' ⟨rfl, rfl⟩
        go_wp2
        go_ret
        exact ⟨ret_bb (by rw [HE.out]; simp), rfl⟩
      · rw [hb] at HE
        go_wp2
        go_ret
        exact ⟨ret_bb (by rw [HE.out]; simp), rfl⟩
theorem drawWorld_c (v : Value) (n : Nat) (w : World) (h : RdB w v n) : Calls Try.prog 13 #[v] w fun e w' => ∃ s p b, e = .returned (.tuple #[.int .i64 s, .int .i64 p, .int .i64 b]) ∧ -1 ≤ p ∧ p ≤ 7 ∧ Below w.heap.size w w' := by
  go_enter Try.func13, Try.ntmps13
  go_wp2_with fail
  refine (l6Open_c _ n _ h).mono ?_
  rintro e w1 ⟨r, rfl, hr, hR1, hb1⟩
  have HB1 := Lib.hid hb1
  clear h hb1
  go_wp2_with fail
  refine (secret_c _ r _ _ hR1 (by omega)).mono ?_
  rintro e w2 ⟨s, rfl, -, -, hR2, hg2⟩
  have HB2 := below_r HB1.out hg2 hr
  clear hg2 hR1
  go_wp2_with fail
  refine (pick_c _ r _ 9 _ hR2 (by omega)).mono ?_
  rintro e w3 ⟨a, rfl, ha0, ha1, hR3, hg3⟩
  have ha1 := ha1 (by omega)
  have HB3 := below_r HB2 hg3 hr
  clear HB2 hR2 hg3
  go_wp2_with fail
  refine (pick_c _ r _ 8 _ hR3 (by omega)).mono ?_
  rintro e w4 ⟨b, rfl, hb0, hb1, hR4, hg4⟩
  have hb1 := hb1 (by omega)
  have HB4 := Lib.hid (below_r HB3 hg4 hr)
  clear HB3 hR3 hg4 hR4
  go_wp2
  go_ret3
  exact ⟨_, _, _, rfl, by omega, by omega, HB4.out⟩
end Go.Proofs.Ytbjndbaljenlgaa
