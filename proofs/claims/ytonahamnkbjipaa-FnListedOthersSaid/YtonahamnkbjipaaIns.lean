/- slices.Insert of one pair of ints into a slice of the call's own. -/
import Derived.Test.YtonahamnkbjipaaPutS
import Derived.Lib.AppendZerosOnto
import Derived.Lib.Overlaps
import Derived.Laws.Externs
namespace Go.Proofs.Ytonahamnkbjipaa
open Go.RowKit
theorem grown_setRow (w : World) (g : Nat) (cs : Array Value) : w.grownBy (w.setRow g cs) (some g) :=
  ⟨rfl, rfl, rfl, by simp, fun k _ hne => setRow_other w g k cs (fun e => hne (by rw [e]))⟩
theorem ins_room {α : Type} (A D R L : List α) (x y : α) (hL : L = A ++ (D ++ R)) (_hR : 2 ≤ R.length) (L1 L2 : List α)
    (h1 : L1 = L.take (A.length + 2) ++ D ++ L.drop (A.length + 2 + D.length)) (h2 : L2 = L1.take A.length ++ [x, y] ++ L1.drop (A.length + 2)) :
    L2.take (A.length + 2 + D.length) = A ++ ([x, y] ++ D) := by
  have hl : L.length = A.length + (D.length + R.length) := by rw [hL]; simp
  have e1 : L1.take A.length = A := by
    rw [h1, List.append_assoc, List.take_append_of_le_length (by rw [List.length_take]; omega), List.take_take, Nat.min_eq_left (by omega), hL, List.take_left']
    rfl
  have e2 : L1.drop (A.length + 2) = D ++ L.drop (A.length + 2 + D.length) := by
    rw [h1, List.append_assoc, List.drop_left']
    rw [List.length_take]; omega
  rw [h2, e1, e2]
  rw [show A ++ [x, y] ++ (D ++ L.drop (A.length + 2 + D.length)) = (A ++ ([x, y] ++ D)) ++ L.drop (A.length + 2 + D.length) by simp]
  rw [List.take_left']
  simp; omega
theorem ins_grow {α : Type} (A D L : List α) (x y : α) (hL : L.take A.length = A) (_hR : A.length + 2 + D.length ≤ L.length) (L1 L2 : List α)
    (h1 : L1 = L.take A.length ++ [x, y] ++ L.drop (A.length + 2)) (h2 : L2 = L1.take (A.length + 2) ++ D ++ L1.drop (A.length + 2 + D.length)) :
    L2.take (A.length + 2 + D.length) = A ++ ([x, y] ++ D) := by
  have e1 : L1.take (A.length + 2) = A ++ [x, y] := by
    rw [h1, hL, List.take_left']
    simp
  rw [h2, e1, List.take_left']
  · simp
  · simp; omega
theorem copy2_ex {P : Program} (w : World) (dT sT ty e : TypeId) (g o dLen dCap : Nat) (ad : Addr) (sLen sCap m : Nat) (cur : Array Value) (t : TypeId) (cs : List Value)
    (hu : P.underlying dT = some (.slice e)) (hinfo : (P.info? e).map (fun i => (i.zero, i.size, i.bytes)) = some (some zero2, 2, 16))
    (hg : w.heap[g]? = some (.cells cur t (0, 0))) (hn : Nat.min sLen dLen = m) (hl : cs.length = m * 2)
    (hsrc : ∀ j v, cs[j]? = some v → w.cell? (ad.add j) = some v) (hfit : o + cs.length ≤ cur.size) (h1 : ∀ v ∈ cs, v.oneCell' = true) :
    ∃ v' w' cur', (Builtin.copy_ #[dT, sT] ty #[.slice (some ⟨g, o, none⟩) dLen dCap, .slice (some ad) sLen sCap]).run P w = .ok v' w' ∧
      w'.heap[g]? = some (.cells cur' t (0, 0)) ∧ Hid (cur'.toList = cur.toList.take o ++ cs ++ cur.toList.drop (o + cs.length)) ∧ w.grownBy w' (some g) := by
  have hl' := run_loadCells_list (P := P) w ad cs hsrc
  rw [hl] at hl'
  have hst := run_storeCells_at P g o t cs 0 cur w hg (by simpa using hfit) h1
  simp only [Nat.add_zero] at hst
  obtain ⟨i0, hi, hz0, hz1, hz2⟩ := info_parts hinfo
  obtain ⟨W, hW⟩ : ∃ W, W = w.setRow g (cur.toList.take o ++ cs ++ cur.toList.drop (o + cs.length)).toArray := ⟨_, rfl⟩
  rw [← hW] at hst
  refine ⟨goInt m, W, (cur.toList.take o ++ cs ++ cur.toList.drop (o + cs.length)).toArray, ?_, ?_, ?_, ?_⟩
  · simp [Builtin.copy_, run_underlying hu, Builtin.lenOf, Builtin.firstCells, sizeOf, typeInfo, hi, hz1, hn, hl', hst]
  · rw [hW]; exact setRow_heap w g cur _ t _ hg
  · show _ = _
    simp
  · rw [hW]; exact grown_setRow w g _
theorem step_copy2 {P : Program} (w : World) {ops : Array Oper} {o : Oper} {a : Act} {K : Act → World → Prop} {Q : Exit → Act → World → Prop} {E : Prop} (hgd : o.guard = none) (d s : Operand) (t : TypeId)
    (ho : o.op = .call { callee := .builtin .copy, args := #[d, s], argTypes := #[t, t] }) (e : TypeId) (hu : P.underlying t = some (.slice e))
    (hinfo : (P.info? e).map (fun i => (i.zero, i.size, i.bytes)) = some (some zero2, 2, 16)) (g off dLen dCap : Nat) (ad : Addr) (sLen sCap : Nat)
    (hd : a.eval d = .slice (some ⟨g, off, none⟩) dLen dCap) (hx : a.eval s = .slice (some ad) sLen sCap) (m off' : Nat) (cur : Array Value) (T : TypeId) (cs : List Value)
    (hoff : off = off') (hg : w.heap[g]? = some (.cells cur T (0, 0))) (hn : Nat.min sLen dLen = m) (hl : cs.length = m * 2)
    (hsrc : ∀ j v, cs[j]? = some v → w.cell? (ad.add j) = some v) (hfit : off' + cs.length ≤ cur.size) (h1 : ∀ v ∈ cs, v.oneCell' = true)
    (h : ∀ v' w' cur', w'.heap[g]? = some (.cells cur' T (0, 0)) → Hid (cur'.toList = cur.toList.take off' ++ cs ++ cur.toList.drop (off' + cs.length)) → w.grownBy w' (some g) → K (a.put o.dst v') w') :
    if Region.wanted o (yielded ops a.tmps) = true then Oper.wp P o a w K Q else E := by
  subst hoff
  have hw : Region.wanted o (yielded ops a.tmps) = true := by simp [Region.wanted, hgd]
  rw [if_pos hw]
  obtain ⟨v', w', cur', hr, e1, e2, e3⟩ := copy2_ex w t t o.type e g off dLen dCap ad sLen sCap m cur T cs hu hinfo hg hn hl hsrc hfit h1
  unfold Oper.wp
  simp [execOp, ho, resolve, invoke, builtin, hd, hx, hr, Result.andThen]
  exact h v' w' cur' e1 e2 e3
theorem wpList_copy2 {P : Program} (w : World) {ops : Array Oper} {rest : List Oper} {o : Oper} {a : Act} {Q : Exit → Act → World → Prop} (hgd : o.guard = none) (d s : Operand) (t : TypeId)
    (ho : o.op = .call { callee := .builtin .copy, args := #[d, s], argTypes := #[t, t] }) (e : TypeId) (hu : P.underlying t = some (.slice e))
    (hinfo : (P.info? e).map (fun i => (i.zero, i.size, i.bytes)) = some (some zero2, 2, 16)) (g off dLen dCap : Nat) (ad : Addr) (sLen sCap : Nat)
    (hd : a.eval d = .slice (some ⟨g, off, none⟩) dLen dCap) (hx : a.eval s = .slice (some ad) sLen sCap) (m off' : Nat) (cur : Array Value) (T : TypeId) (cs : List Value)
    (hoff : off = off') (hg : w.heap[g]? = some (.cells cur T (0, 0))) (hn : Nat.min sLen dLen = m) (hl : cs.length = m * 2)
    (hsrc : ∀ j v, cs[j]? = some v → w.cell? (ad.add j) = some v) (hfit : off' + cs.length ≤ cur.size) (h1 : ∀ v ∈ cs, v.oneCell' = true)
    (h : ∀ v' w' cur', w'.heap[g]? = some (.cells cur' T (0, 0)) → Hid (cur'.toList = cur.toList.take off' ++ cs ++ cur.toList.drop (off' + cs.length)) → w.grownBy w' (some g) → wpList P ops Q rest (a.put o.dst v') w') :
    wpList P ops Q (o :: rest) a w :=
  wpList_plain hgd fun _ hK => by
    subst hoff
    obtain ⟨v', w', cur', hr, e1, e2, e3⟩ := copy2_ex w t t o.type e g off dLen dCap ad sLen sCap m cur T cs hu hinfo hg hn hl hsrc hfit h1
    unfold Oper.wp execOp
    simp only [ho, resolve, invoke, builtin, Sem.run_bind, Sem.run_pure, Result.andThen_ok, List.map_toArray, List.map_cons, List.map_nil, hd, hx, hr]
    exact hK _ _ (h _ _ _ e1 e2 e3)
theorem addr_add (g o j : Nat) : (⟨g, o, none⟩ : Addr).add j = ⟨g, o + j, none⟩ := by unfold Addr.add; split <;> simp_all
theorem zeros2_ex {P : Program} (w : World) (t tn ty e : TypeId) (kn kq : IntKind) (hu : P.underlying t = some (.slice e)) (htn : P.underlying tn = some (.int kn))
    (hinfo : (P.info? e).map (fun i => (i.zero, i.size, i.bytes)) = some (some zero2, 2, 16)) (g i cap k : Nat) (olds : List Value) (hol : olds.length = i * 2)
    (hold : ∀ j v, olds[j]? = some v → w.cell? ⟨g, j, none⟩ = some v) (h0 : 0 < k) (hgr : cap < i + k) (hsm : i + k ≤ 1048576) :
    ∃ cur cap', (Builtin.append_ #[t, tn] ty #[.slice (some ⟨g, 0, none⟩) i cap, .int kq k]).run P w = .ok (.slice (some ⟨w.heap.size, 0, none⟩) (i + k) cap') (w.drew.alloc (.cells cur e)) ∧
      cur.size = cap' * 2 ∧ i + k ≤ cap' ∧ cap' ≤ maxLen ∧ cur.toList.take (i * 2) = olds := by
  obtain ⟨i0, hi, hz0, hz1, hz2⟩ := info_parts hinfo
  have hold' : (Builtin.firstCells i0.size i (.slice (some ⟨g, 0, none⟩) i cap)).run P w.drew = .ok olds.toArray w.drew := by
    rw [hz1]
    exact run_firstCells_some w.drew 2 i ⟨g, 0, none⟩ i cap olds hol (fun j v hj => by rw [addr_add, Nat.zero_add]; exact hold j v hj)
  have hr := Lib.run_append_grow_zeros (P := P) w t tn ty e i0 zero2 kq kn hu htn hi hz0 (some ⟨g, 0, none⟩) i cap olds hold' k h0 (by rw [hz1]; decide) hgr (by omega) (by rw [hz2]; omega) (by rw [hz2]; exact growslice_fits hgr (by omega))
  have hge := grownCap_ge w (i + k) cap e
  refine ⟨_, _, hr, ?_, hge, grownCap_le_maxLen w _ cap e (by unfold maxLen; omega), ?_⟩
  · simp only [Array.size_append, List.size_toArray, hol, Builtin.zeroCells, Array.size_map, Array.size_range]
    show i * 2 + k * 2 + (grownCap w (i + k) cap e - (i + k)) * 2 = _
    omega
  · simp only [Array.toList_append, List.append_assoc]
    rw [List.take_left']
    exact hol
def InsPost (B : Nat) (rs : List P2) (w : World) (e : Ending) (w' : World) : Prop :=
  ∃ v', e = .returned v' ∧ w'.ownsRow B 30 2 v' rs.length (enc2 rs) ∧ Below B w w'
theorem rd_lit {w : World} {m : Nat} {x y : Int} (h0 : w.cell? ⟨m, 0, none⟩ = some (.int .i64 x)) (h1 : w.cell? ⟨m, 1, none⟩ = some (.int .i64 y)) : Rd 2 w (.slice (some ⟨m, 0, none⟩) 1 1) [(x, y)].length (enc2 [(x, y)]) :=
  ⟨rfl, _, _, rfl, Nat.le_refl _, by simp [maxLen], fun _ => ⟨m, 0, rfl, lit_cells h0 h1⟩⟩
set_option maxHeartbeats 1600000 in
theorem insEnd_c (B : Nat) (v : Value) (ps : List P2) (x y : Int) (m : Nat) (w : World) (hown : w.ownsRow B 30 2 v ps.length (enc2 ps)) (hB : B ≤ w.heap.size)
    (h0 : w.cell? ⟨m, 0, none⟩ = some (.int .i64 x)) (h1 : w.cell? ⟨m, 1, none⟩ = some (.int .i64 y)) (hn : ps.length ≤ 1000) :
    Calls Try.prog 29 #[v, .int .i64 ps.length, .slice (some ⟨m, 0, none⟩) 1 1] w (InsPost B (ps ++ [(x, y)]) w) := by
  have HR := rd_lit h0 h1
  have hs : Sl (.slice (some ⟨m, 0, none⟩) 1 1) := .inr ⟨_, _, _, _, rfl⟩
  clear h0 h1
  have HO := Lib.hid hown
  rcases own_cases hown with ⟨rfl, h0, hx⟩ | ⟨g, cap, rfl, hgb, hgw, hnc, hcm⟩
  · obtain rfl : ps = [] := List.eq_nil_of_length_eq_zero h0
    clear hown h0 hx
    simp only [List.length_nil] at HO
    go_enter Try.func29, Try.ntmps29
    go_wp2_with (at_builtin; refine wpList_apps2 _ rfl _ _ 23 rfl B 30 Try.underlying23 info_listed _ [] rfl HO.out _ [(x, y)] rfl hs HR (by simp) hB ?_)
    intro v' w4 rs hrs hrl hown4 hg4
    have hb4 := (Below.refl B w).grown hg4 hB (fun k hk => (HO.out.lt k hk).1)
    go_wp2
    go_ret
    exact ⟨_, rfl, by rw [← hrs.out]; exact hown4, hb4⟩
  · unfold maxLen at hcm
    clear hown
    by_cases hcc : cap = ps.length
    · subst hcc
      go_enter Try.func29, Try.ntmps29
      go_wp2_with (at_builtin; refine wpList_apps2 _ rfl _ _ 23 rfl B 30 Try.underlying23 info_listed _ ps rfl HO.out _ [(x, y)] rfl hs HR (by simp; omega) hB ?_)
      intro v' w4 rs hrs hrl hown4 hg4
      have hb4 := (Below.refl B w).grown hg4 hB (fun k hk => (HO.out.lt k hk).1)
      go_wp2
      go_ret
      exact ⟨_, rfl, by rw [← hrs.out]; exact hown4, hb4⟩
    · go_enter Try.func29, Try.ntmps29
      go_wp2_with (at_builtin; refine wpList_apps2 _ rfl _ _ 23 rfl B 30 Try.underlying23 info_listed _ ps rfl HO.out _ [(x, y)] rfl hs HR (by simp; omega) hB ?_)
      intro v' w4 rs hrs hrl hown4 hg4
      have hb4 := (Below.refl B w).grown hg4 hB (fun k hk => (HO.out.lt k hk).1)
      go_wp2
      go_ret
      exact ⟨_, rfl, by rw [← hrs.out]; exact hown4, hb4⟩
end Go.Proofs.Ytonahamnkbjipaa
