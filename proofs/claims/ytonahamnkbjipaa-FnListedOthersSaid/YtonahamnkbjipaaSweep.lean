/- Contracts: the sweeps of the program and of the reference keep the same nodes. -/
import Derived.Test.YtonahamnkbjipaaDir
namespace Go.Proofs.Ytonahamnkbjipaa
open Go.RowKit
theorem info_listed : (Try.prog.info? 30).map (fun i => (i.zero, i.size, i.bytes)) = some (some zero2, 2, 16) := by kernel_rfl
def keepB (now : Int) (p : P2) : Bool := decide (now ≤ p.2 + 10)
def sw (now : Int) (ps : List P2) : List P2 := ps.filter (keepB now)
theorem sw_snoc (now : Int) (ps : List P2) (p : P2) : sw now (ps ++ [p]) = sw now ps ++ (if keepB now p then [p] else []) := by
  unfold sw; rw [List.filter_append]; by_cases h : keepB now p <;> simp [h]
theorem sw_le (now : Int) (ps : List P2) : (sw now ps).length ≤ ps.length := List.length_filter_le _ _
def timesOk (ps : List P2) : Prop := ∀ k, k < ps.length → 0 ≤ (ps.getD k (0, 0)).2 ∧ (ps.getD k (0, 0)).2 ≤ 999
theorem DV.times {ps : List P2} (h : DV ps) : timesOk ps := fun k hk => ⟨(h.2 k hk).2.2.1, (h.2 k hk).2.2.2.1⟩
theorem fresh_t (x y now : Int) (w : World) (h1 : 0 ≤ y) (h2 : y ≤ 999) (h : now ≤ y + 10) : Calls Try.prog 38 #[.agg #[.int .i64 x, .int .i64 y], .int .i64 now] w fun e w' => e = .returned (.bool true) ∧ Below w.heap.size w w' := by
  go_enter Try.func38, Try.ntmps38
  go_wp2
  go_ret
  exact ⟨ret_bool (by simp), by (repeat' (first | exact Below.refl _ _ | assumption | refine Below.drew ?_ | refine below_drewN ?_ _ | refine Below.alloc ?_ (by omega) _ | refine Below.alloc ?_ (by simp; omega) _ | refine Below.alloc ?_ (by simp) _ | refine Below.setCell ?_ (by omega) _ | refine Below.setCell ?_ (by simp; omega) _ | refine Below.setCell ?_ (by simp) _))⟩
theorem fresh_f (x y now : Int) (w : World) (h1 : 0 ≤ y) (h2 : y ≤ 999) (h : y + 10 < now) : Calls Try.prog 38 #[.agg #[.int .i64 x, .int .i64 y], .int .i64 now] w fun e w' => e = .returned (.bool false) ∧ Below w.heap.size w w' := by
  go_enter Try.func38, Try.ntmps38
  go_wp2
  go_ret
  exact ⟨ret_bool (by simp [h]), by (repeat' (first | exact Below.refl _ _ | assumption | refine Below.drew ?_ | refine below_drewN ?_ _ | refine Below.alloc ?_ (by omega) _ | refine Below.alloc ?_ (by simp; omega) _ | refine Below.alloc ?_ (by simp) _ | refine Below.setCell ?_ (by omega) _ | refine Below.setCell ?_ (by simp; omega) _ | refine Below.setCell ?_ (by simp) _))⟩
set_option maxHeartbeats 1600000 in
theorem specSweep0_c (v : Value) (ps : List P2) (now : Int) (w : World) (h : Rd 2 w v ps.length (enc2 ps)) (ht : timesOk ps) (hn : ps.length ≤ 1048576) :
    Calls Try.prog 31 #[v, .int .i64 now] w (RetOwn 30 2 (sw now ps).length (enc2 (sw now ps)) w) := by
  obtain ⟨-, a1, c1, rfl, h1, m1, k1⟩ := h
  unfold maxLen at m1
  have HT := Lib.hid ht
  clear ht
  go_enter Try.func31, Try.ntmps31
  go_wp2
  have hown0 := own_empty w w.heap.size 30 2 (Nat.le_refl _)
  go_loopw [5, 6] (fun o i wr => ∃ (k : Nat) (qs : List P2), k ≤ ps.length ∧ i = .int .i64 k ∧ wr.ownsRow w.heap.size 30 2 o qs.length (enc2 qs) ∧ Below w.heap.size w wr ∧ qs.length ≤ k ∧ Hid (qs = sw now (ps.take k))) (fun _ i _ => ps.length - (intOf i).toNat)
  case atStart => exact ⟨0, [], Nat.zero_le _, rfl, hown0, (Below.refl _ _).alloc (Nat.le_refl _) _, Nat.le_refl _, rfl⟩
  case round =>
    clear hown0
    obtain ⟨k, qs, hk, rfl, hown, hb, hql, HQ⟩ := hrel
    have hsz := hb.size
    by_cases hlt : k < ps.length
    · obtain ⟨b1, o1, rfl, g1⟩ := k1 (by omega)
      obtain ⟨x, y, e1, u1, u2⟩ := at2 hb g1 k hlt
      have hy := HT.out k hlt
      rw [e1] at hy
      obtain ⟨hy1, hy2⟩ := hy
      have hs := take_snoc_getD ps k (0, 0) hlt
      rw [e1] at hs
      have HS := Lib.hid hs
      clear e1 k1 g1 hs
      by_cases hf : now ≤ y + 10
      · go_wp2_with fail
        refine (fresh_t x y now _ hy1 hy2 hf).mono ?_
        rintro e w3 ⟨rfl, hb3⟩
        have u1 := cell_keep hb3 u1
        have u2 := cell_keep hb3 u2
        have hown := own_below hown hb3
        have hb := hb.trans (hb3.mono hsz)
        have hsz := hb.size
        clear hb3
        go_wp2_with (at_builtin; refine wpList_app2 _ rfl _ _ 23 rfl w.heap.size 30 Try.underlying23 info_listed _ qs rfl hown _ _ _ _ rfl (by omega) hsz ?_)
        intro v' w4 rs hrs hrl hown4 hg4
        have hb4 := hb.grown hg4 hsz (fun k hk => (hown.lt k hk).1)
        clear hown hb hg4
        go_wp2
        go_roundw
        case rel => exact ⟨k + 1, rs, by omega, by go_num, hown4, hb4, by omega, by rw [hrs.out, HQ.out, HS.out, sw_snoc, if_pos (by simp [keepB, hf])]; rfl⟩
        case measure => simp [intOf]; omega
      · have hf' : y + 10 < now := by omega
        go_wp2_with fail
        refine (fresh_f x y now _ hy1 hy2 hf').mono ?_
        rintro e w3 ⟨rfl, hb3⟩
        have hown := own_below hown hb3
        have hb := hb.trans (hb3.mono hsz)
        clear hb3 hsz
        go_wp2
        go_roundw
        case rel => exact ⟨k + 1, qs, by omega, by go_num, hown, hb, by omega, by rw [HQ.out, HS.out, sw_snoc, if_neg (by simp [keepB]; omega), List.append_nil]; rfl⟩
        case measure => simp [intOf]; omega
    · obtain rfl : k = ps.length := by omega
      clear k1
      go_wp2
      go_ret
      refine ⟨_, rfl, ?_, hb⟩
      have e := HQ.out
      rw [List.take_of_length_le (Nat.le_refl _)] at e
      rw [← e]
      exact hown
set_option maxHeartbeats 800000 in
theorem cloneListed_c (v : Value) (ps : List P2) (w : World) (h : Rd 2 w v ps.length (enc2 ps)) (hs : Sl v) (hn : ps.length ≤ 1048576) :
    Calls Try.prog 25 #[v] w (RetOwn 30 2 ps.length (enc2 ps) w) := by
  have HR := h
  obtain ⟨-, a1, c1, rfl, h1, m1, k1⟩ := h
  unfold maxLen at m1
  clear k1
  obtain ⟨i0, hi, hz0, hz1, hz2⟩ := info_parts info_listed
  go_enter Try.func25, Try.ntmps25
  go_wp2_with (at_make; refine wpList_make_own _ rfl _ _ 23 rfl w.heap.size 30 i0 zero2 2 Try.underlying23 hi hz0 hz1 .i64 .i64 _ ps.length rfl rfl rfl ?c1 ?c2 ?c3 ?_)
  case c1 => rw [hz2]; omega
  case c2 => unfold maxLen; omega
  case c3 => simp
  intro w1 hown hgrow
  have hb1 := grown_below hgrow (Nat.le_refl _) (fun k hk => by cases hk)
  have hsz := hb1.size
  have HR1 := HR.below hb1
  clear hz0 hz1 hz2 hi HR
  go_wp2_with (at_builtin; refine wpList_apps2 _ rfl _ _ 23 rfl w.heap.size 30 Try.underlying23 info_listed _ [] rfl hown _ ps rfl hs HR1 (by simp; omega) hsz ?_)
  intro v' w4 rs hrs hrl hown4 hg4
  have hb4 := hb1.grown hg4 hsz (fun k hk => (hown.lt k hk).1)
  clear hown hb1 hg4
  go_wp2
  go_ret
  refine ⟨_, rfl, ?_, hb4⟩
  have e := hrs.out
  rw [← e]
  exact hown4
theorem young1_t (x y now : Int) (bn : Nat) (w : World) (hc : w.cell? ⟨bn, 0, none⟩ = some (.int .i64 now)) (h1 : 0 ≤ y) (h2 : y ≤ 999) (h : y + 10 < now) : Calls Try.prog 35 #[.agg #[.int .i64 x, .int .i64 y], .pointer (some ⟨bn, 0, none⟩)] w fun e w' => e = .returned (.bool true) ∧ Below w.heap.size w w' := by
  have hlt : bn < w.heap.size := World.block_lt_of_cell? w _ hc
  go_enter Try.func35, Try.ntmps35
  go_wp2
  go_ret
  exact ⟨ret_bool (by simp), by (repeat' (first | exact Below.refl _ _ | assumption | refine Below.drew ?_ | refine below_drewN ?_ _ | refine Below.alloc ?_ (by omega) _ | refine Below.alloc ?_ (by simp; omega) _ | refine Below.alloc ?_ (by simp) _ | refine Below.setCell ?_ (by omega) _ | refine Below.setCell ?_ (by simp; omega) _ | refine Below.setCell ?_ (by simp) _))⟩
theorem young1_f (x y now : Int) (bn : Nat) (w : World) (hc : w.cell? ⟨bn, 0, none⟩ = some (.int .i64 now)) (h1 : 0 ≤ y) (h2 : y ≤ 999) (h : now ≤ y + 10) : Calls Try.prog 35 #[.agg #[.int .i64 x, .int .i64 y], .pointer (some ⟨bn, 0, none⟩)] w fun e w' => e = .returned (.bool false) ∧ Below w.heap.size w w' := by
  have hlt : bn < w.heap.size := World.block_lt_of_cell? w _ hc
  go_enter Try.func35, Try.ntmps35
  go_wp2
  go_ret
  exact ⟨ret_bool (by simp [h]), by (repeat' (first | exact Below.refl _ _ | assumption | refine Below.drew ?_ | refine below_drewN ?_ _ | refine Below.alloc ?_ (by omega) _ | refine Below.alloc ?_ (by simp; omega) _ | refine Below.alloc ?_ (by simp) _ | refine Below.setCell ?_ (by omega) _ | refine Below.setCell ?_ (by simp; omega) _ | refine Below.setCell ?_ (by simp) _))⟩
theorem sw_all {now : Int} {ps : List P2} (h : ∀ k, k < ps.length → keepB now (ps.getD k (0, 0)) = true) : sw now ps = ps := by
  unfold sw
  rw [List.filter_eq_self]
  intro p hp
  obtain ⟨k, hk, rfl⟩ := List.getElem_of_mem hp
  have := h k hk
  rwa [List.getD_eq_getElem?_getD, List.getElem?_eq_getElem hk] at this
def IdxPost (now : Int) (ps : List P2) (w : World) (e : Ending) (w' : World) : Prop :=
  ∃ i : Int, e = .returned (.int .i64 i) ∧ Below w.heap.size w w' ∧ ((i = -1 ∧ sw now ps = ps) ∨ ∃ m : Nat, i = (m : Int) ∧ m < ps.length ∧ keepB now (ps.getD m (0, 0)) = false ∧ sw now (ps.take m) = ps.take m)
set_option maxHeartbeats 800000 in
theorem indexOld_c (v : Value) (ps : List P2) (now : Int) (bn : Nat) (w : World) (h : Rd 2 w v ps.length (enc2 ps)) (ht : timesOk ps) (hc : w.cell? ⟨bn, 0, none⟩ = some (.int .i64 now)) :
    Calls Try.prog 39 #[v, .func (.func 35) #[] #[.pointer (some ⟨bn, 0, none⟩)]] w (IdxPost now ps w) := by
  obtain ⟨-, a1, c1, rfl, h1, m1, k1⟩ := h
  unfold maxLen at m1
  have HT := Lib.hid (And.intro ht hc)
  clear ht hc
  go_enter Try.func39, Try.ntmps39
  go_wp2
  go_loopw [8] (fun i wr => ∃ k : Nat, k ≤ ps.length ∧ i = .int .i64 k ∧ Below w.heap.size w wr ∧ Hid (sw now (ps.take k) = ps.take k)) (fun i _ => ps.length - (intOf i).toNat)
  case atStart => exact ⟨0, Nat.zero_le _, rfl, Below.refl _ _, rfl⟩
  case round =>
    obtain ⟨k, hk, rfl, hb, HK⟩ := hrel
    have hsz := hb.size
    by_cases hlt : k < ps.length
    · obtain ⟨b1, o1, rfl, g1⟩ := k1 (by omega)
      obtain ⟨x, y, e1, u1, u2⟩ := at2 hb g1 k hlt
      have hy := HT.out.1 k hlt
      rw [e1] at hy
      obtain ⟨hy1, hy2⟩ := hy
      have hs := take_snoc_getD ps k (0, 0) hlt
      rw [e1] at hs
      have HC := Lib.hid (cell_keep hb HT.out.2)
      have HS := Lib.hid (And.intro hs e1)
      clear e1 k1 g1 hs
      by_cases hf : now ≤ y + 10
      · go_wp2_with fail
        refine (young1_f x y now bn _ HC.out hy1 hy2 hf).mono ?_
        rintro e w3 ⟨rfl, hb3⟩
        have hb := hb.trans (hb3.mono hsz)
        clear hb3 hsz
        go_wp2
        go_roundw
        case rel => exact ⟨k + 1, by omega, by go_num, hb, by rw [HS.out.1, sw_snoc, if_pos (by simp [keepB, hf]), HK.out]; rfl⟩
        case measure => simp [intOf]; omega
      · have hf' : y + 10 < now := by omega
        go_wp2_with fail
        refine (young1_t x y now bn _ HC.out hy1 hy2 hf').mono ?_
        rintro e w3 ⟨rfl, hb3⟩
        have hb := hb.trans (hb3.mono hsz)
        clear hb3 hsz
        go_wp2
        go_ret
        exact ⟨k, rfl, hb, .inr ⟨k, rfl, hlt, by rw [HS.out.2]; simp [keepB]; omega, HK.out⟩⟩
    · obtain rfl : k = ps.length := by omega
      have e := HK.out
      rw [List.take_of_length_le (Nat.le_refl _)] at e
      have HE := Lib.hid e
      clear k1 e
      go_wp2
      go_ret
      exact ⟨-1, rfl, hb, .inl ⟨rfl, HE.out⟩⟩
theorem enc2_set (xs : List P2) : ∀ (c : Nat) (p : P2), enc2 (xs.set c p) = ((enc2 xs).set (c * 2) (.int .i64 p.1)).set (c * 2 + 1) (.int .i64 p.2) := by
  induction xs with
  | nil => intro c p; rfl
  | cons q r ih =>
    intro c p
    cases c with
    | zero => rfl
    | succ c =>
      have e1 : (c + 1) * 2 = c * 2 + 1 + 1 := by omega
      rw [e1]
      simp only [List.set_cons_succ, enc2, ih c p]
theorem enc2_take (xs : List P2) : ∀ c : Nat, enc2 (xs.take c) = (enc2 xs).take (c * 2) := by
  induction xs with
  | nil => intro c; simp [enc2]
  | cons q r ih =>
    intro c
    cases c with
    | zero => simp [enc2]
    | succ c =>
      have e1 : (c + 1) * 2 = c * 2 + 1 + 1 := by omega
      rw [e1]
      simp only [List.take_succ_cons, enc2, ih c]
/-- clear(s[m:]) of a slice of the call's own: the first m elements stand. -/
theorem clear_own {P : Program} (w : World) (t e sz base g n cap m : Nat) (z : Value) (xs : List Value) (ht : P.underlying t = some (.slice e)) (hv : ∀ w, (zeroValue e).run P w = .ok z w) (hzs : z.cells.size = sz) (h1 : ∀ u ∈ z.cells.toList, u.oneCell' = true)
    (hown : w.ownsRow base e sz (.slice (some ⟨g, 0, none⟩) n cap) n xs) (hm : m < n) (c : Nat) :
    ∃ w', (∀ ty, (Builtin.clear_ #[t] ty #[.slice (some ⟨g, m * sz, none⟩) (n - m) c]).run P w = .ok (.tuple #[]) w') ∧ w'.ownsRow base e sz (.slice (some ⟨g, 0, none⟩) m cap) m (xs.take (m * sz)) ∧ w.grownBy w' (some g) := by
  obtain ⟨hl, h2⟩ := hown
  rcases h2 with ⟨h', _⟩ | ⟨g', cap', cur, h', hb, hg, hnc, hcm, hcs, htake⟩
  · simp at h'
  · simp only [Value.slice.injEq, Option.some.injEq, Addr.mk.injEq, and_true, true_and] at h'
    obtain ⟨rfl, rfl⟩ := h'
    obtain ⟨k, hk⟩ : ∃ k, n - m = k + 1 := ⟨n - m - 1, by omega⟩
    have hkn : m + (k + 1) = n := by omega
    rw [hk]
    have hzl : (Builtin.zeroCells z.cells (k + 1)).toList.length = (k + 1) * sz := by simp [Builtin.zeroCells, hzs]
    have hz1 : ∀ u ∈ (Builtin.zeroCells z.cells (k + 1)).toList, u.oneCell' = true := by
      intro u hu
      simp [Builtin.zeroCells] at hu
      obtain ⟨i, hi, rfl⟩ := hu
      refine h1 _ ?_
      have hpos : 0 < z.cells.size := by
        rcases Nat.eq_zero_or_pos z.cells.size with h0 | h0
        · rw [h0] at hi; simp at hi
        · exact h0
      rw [Array.getElem!_eq_getD, Array.getD, dif_pos (Nat.mod_lt _ hpos)]
      exact Array.mem_toList_iff.2 (Array.getElem_mem _)
    have hfit : m * sz + 0 + (Builtin.zeroCells z.cells (k + 1)).toList.length ≤ cur.size := by
      rw [hzl, hcs, Nat.add_zero, ← Nat.add_mul]
      exact Nat.mul_le_mul_right _ (by omega)
    have hst := run_storeCells_at P g (m * sz) e _ 0 cur w hg hfit hz1
    rw [hzl, Nat.add_zero] at hfit
    have hms : m * sz ≤ cur.size := by omega
    simp only [Nat.add_zero] at hst
    obtain ⟨w5, hw5⟩ : ∃ w5, w5 = w.setRow g (cur.toList.take (m * sz) ++ (Builtin.zeroCells z.cells (k + 1)).toList ++ cur.toList.drop (m * sz + (Builtin.zeroCells z.cells (k + 1)).toList.length)).toArray := ⟨_, rfl⟩
    rw [← hw5] at hst
    refine ⟨w5, fun ty => by simp [Builtin.clear_, run_underlying ht, hv, hst], ?_⟩
    subst hw5
    refine ⟨⟨?_, .inr ⟨g, cap, _, rfl, hb, setRow_heap w g cur _ e _ hg, by omega, hcm, ?_, ?_⟩⟩, ⟨rfl, rfl, rfl, by simp, fun k _ hk => setRow_other w g k _ (fun e => hk (by simp [e]))⟩⟩
    · rw [List.length_take, hl]; exact Nat.min_eq_left (Nat.mul_le_mul_right _ (by omega))
    · simp only [List.size_toArray, List.length_append, List.length_take, List.length_drop, hzl, Array.length_toList]
      omega
    · simp only [List.append_assoc]
      rw [List.take_append_of_le_length (by rw [List.length_take, Array.length_toList]; omega), List.take_take, Nat.min_self, ← htake, List.take_take, Nat.min_eq_left (Nat.mul_le_mul_right _ (by omega))]
theorem cell_keep_grown {w w' : World} {row : Option Nat} (hg : w.grownBy w' row) {a : Addr} {v : Value} (h : w.cell? a = some v) (hne : some a.block ≠ row) : w'.cell? a = some v := hg.cell h hne
end Go.Proofs.Ytonahamnkbjipaa
