/- Rows of entries that lie in older memory, gathered in a slice of the call's own; parts of slices. No condition. -/
import Derived.Test.YthnepmhkeceadaaJwK
import Derived.Test.YthnepmhkeceadaaLoP
import Derived.Deep.RegionLaw
namespace Go.Proofs.Ythnepmhkeceadaa
open Go.RowKit
theorem RdR.take {S : Nat → Prop} {w : World} {a : Option Addr} {n cap m : Nat} {es : List Ent} (h : RdR S w (.slice a n cap) es) (hm : m ≤ n) : RdR S w (.slice a m cap) (es.take m) := by
  obtain ⟨hs, a', cap', e, h1, h2, h3⟩ := h
  simp only [Value.slice.injEq] at e
  obtain ⟨rfl, rfl, rfl⟩ := e
  have hl : (es.take m).length = m := by rw [List.length_take]; omega
  refine ⟨?_, a, cap, by rw [hl], by rw [hl]; omega, h2, fun hn => ?_⟩
  · rcases hs with e | ⟨ad, n', c', e⟩
    · simp only [Value.slice.injEq] at e
      obtain ⟨rfl, e2, rfl⟩ := e
      obtain rfl : m = 0 := by omega
      exact .inl rfl
    · simp only [Value.slice.injEq] at e
      obtain ⟨rfl, -, -⟩ := e
      exact .inr ⟨_, _, _, rfl⟩
  · rw [hl] at hn
    obtain ⟨b, off, rfl, hc⟩ := h3 (by omega)
    refine ⟨b, off, rfl, fun i hi => ?_⟩
    rw [hl] at hi
    have := hc i (by omega)
    rwa [show (es.take m).getD i e0 = es.getD i e0 by simp [List.getD, hi]]
theorem enc2_take (ps : List P2) : ∀ m, (enc2 ps).take (m * 2) = enc2 (ps.take m) := by
  induction ps with
  | nil => intro m; simp [enc2]
  | cons p r ih =>
    intro m
    cases m with
    | zero => simp [enc2]
    | succ m =>
      rw [show (m + 1) * 2 = m * 2 + 1 + 1 by omega]
      simp only [enc2, List.take_succ_cons, ih]
theorem Rd.take2 {w : World} {a : Option Addr} {n cap m : Nat} {ps : List P2} (h : Rd 2 w (.slice a n cap) n (enc2 ps)) (hm : m ≤ n) : Rd 2 w (.slice a m cap) m (enc2 (ps.take m)) := by
  obtain ⟨hl, a', cap', e, h1, h2, h3⟩ := h
  simp only [Value.slice.injEq, true_and] at e
  obtain ⟨rfl, rfl⟩ := e
  rw [enc2_len] at hl
  refine ⟨by rw [enc2_len, List.length_take]; omega, a, cap, rfl, by omega, h2, fun hn => ?_⟩
  obtain ⟨b, off, rfl, hc⟩ := h3 (by omega)
  refine ⟨b, off, rfl, fun j u hj => hc j u ?_⟩
  rw [← enc2_take] at hj
  rw [List.getElem?_take] at hj
  split at hj
  · exact hj
  · cases hj
/-- the order of the entries without the last one -/
theorem jo_part {F X : Fd} (h : JV F) {n : Nat} (hn : tot F = n + 1) (hX : JV X ∧ tot X = n ∧ ∀ k, k < n → rf X k = rf F k) : jo X = (jo F).take n := by
  obtain ⟨h1, h2, h3⟩ := hX
  rw [jo_t h, jo_t h1, h2, hn]
  unfold ordN
  rw [← List.map_take, List.take_range, Nat.min_eq_left (by omega)]
  exact List.map_congr_left fun k hk => h3 k (List.mem_range.1 hk)
/-- a slice of the call's own (from block B on) of rows that lie below block B -/
def ShF (B : Nat) (w : World) (v : Value) (X : Fd) : Prop :=
  ∃ rvs : List Value, rvs.length = X.length ∧ w.ownsRow B 30 1 v X.length rvs ∧ ∀ j, j < X.length → RdR (fun b => b < B) w (rvs.getD j undef) (X.getD j [])
theorem ShF.below {B : Nat} {w w' : World} {v : Value} {X : Fd} (h : ShF B w v X) (hb : Below w.heap.size w w') : ShF B w' v X := by
  obtain ⟨rvs, h1, h2, h3⟩ := h
  exact ⟨rvs, h1, own_below h2 hb, fun j hj => (h3 j hj).below hb⟩
theorem ShF.slice {B : Nat} {w : World} {v : Value} {X : Fd} (h : ShF B w v X) : ∃ a cap, v = .slice a X.length cap := by
  obtain ⟨rvs, h1, h2, h3⟩ := h
  exact own_slice h2
theorem ShF.blk {B : Nat} {w : World} {v : Value} {X : Fd} (h : ShF B w v X) (b : Nat) (hb : v.ownBlock = some b) : B ≤ b := by
  obtain ⟨rvs, h1, h2, h3⟩ := h
  exact (h2.lt b hb).1
theorem ShF.nil {B : Nat} {w : World} {v : Value} (h : w.ownsRow B 30 1 v 0 []) : ShF B w v [] := ⟨[], rfl, h, fun _ hj => absurd hj (Nat.not_lt_zero _)⟩
theorem ShF.rd {B : Nat} {w : World} {v : Value} {X : Fd} (h : ShF B w v X) : RdF All w v X := by
  obtain ⟨rvs, h1, h2, h3⟩ := h
  refine ⟨Sl0.of_own h2, ?_⟩
  obtain ⟨-, a, cap, rfl, g1, g2, g3⟩ := Rd.of_own h2
  refine ⟨a, cap, rfl, g1, g2, fun hn => ?_⟩
  obtain ⟨b, off, rfl, hc⟩ := g3 hn
  refine ⟨b, off, rfl, fun j hj => ⟨rvs.getD j undef, ⟨trivial, hc j _ ?_⟩, (h3 j hj).all⟩⟩
  rw [List.getD_eq_getElem?_getD, List.getElem?_eq_getElem (by omega)]; rfl
theorem ShF.push {B : Nat} {w w' : World} {v v' rv : Value} {X : Fd} {es : List Ent} {rvs : List Value} (h1 : rvs.length = X.length) (h2 : w.ownsRow B 30 1 v X.length rvs) (h3 : ∀ j, j < X.length → RdR (fun b => b < B) w (rvs.getD j undef) (X.getD j []))
    (hr : RdR (fun b => b < B) w rv es) (g1 : w'.ownsRow B 30 1 v' (X.length + 1) (rvs ++ [rv])) (g2 : w.grownBy w' v.ownBlock) : ShF B w' v' (X ++ [es]) := by
  have keep : ∀ {x : Value} {e : List Ent}, RdR (fun b => b < B) w x e → RdR (fun b => b < B) w' x e := fun hh => hh.chg (Chg.of_grown g2) fun k hk e => by have := (h2.lt k e).1; omega
  refine ⟨rvs ++ [rv], by simp [h1], by simpa using g1, fun j hj => ?_⟩
  by_cases e : j = X.length
  · subst e
    rw [show (rvs ++ [rv]).getD X.length undef = rv by rw [← h1]; simp [List.getD], show (X ++ [es]).getD X.length [] = es by simp [List.getD]]
    exact keep hr
  · have hjk : j < X.length := by simp at hj; omega
    rw [show (rvs ++ [rv]).getD j undef = rvs.getD j undef by simp [List.getD, List.getElem?_append_left (show j < rvs.length by omega)], show (X ++ [es]).getD j [] = X.getD j [] by simp [List.getD, List.getElem?_append_left hjk]]
    exact keep (h3 j hjk)
theorem rd_one {S : Nat → Prop} {w : World} {v : Value} {es : List Ent} (h : RdR S w v es) : v.oneCell' = true := by
  rcases h.1 with rfl | ⟨ad, n, cap, rfl⟩ <;> rfl
/-- append(x, row) -/
theorem wpList_pushS {B : Nat} {w0 : World} (w : World) {ops : Array Oper} {rest : List Oper} {o : Oper} {a : Act} {Q : Exit → Act → World → Prop} (hgd : o.guard = none) (s x : Operand) (t : TypeId)
    (ho : o.op = .call { callee := .builtin .append, args := #[s, x], argTypes := #[t, t] }) (hu : Try.prog.underlying t = some (.slice 30))
    (v : Value) (X : Fd) (hs : a.eval s = v) (hown : ShF B w0 v X) (hb : Below w0.heap.size w0 w) (rv : Value) (es : List Ent) (hr : RdR (fun b => b < B) w0 rv es)
    (T : TypeId) (m cc : Nat) (hx : a.eval x = .slice (some ⟨m, 0, none⟩) 1 cc) (hm : m = w.heap.size) (hn : X.length ≤ 1099511627776) (hB : B ≤ w.heap.size)
    (h : ∀ v' w', ShF B w' v' (X ++ [es]) → w.grownBy w' v.ownBlock → wpList Try.prog ops Q rest (a.put o.dst v') w') :
    wpList Try.prog ops Q (o :: rest) a (w.alloc (.cells #[rv] T)) := by
  subst hm
  obtain ⟨i0, hi, hz0, hz1, hz2⟩ := info_parts info_row
  obtain ⟨rvs, h1, h2, h3⟩ := hown.below (hb.alloc hb.size (.cells #[rv] T))
  refine wpList_append_own_at _ hgd s x t ho B 30 i0 (.slice none 0 0) 1 24 hu hi hz0 hz1 hz2 rfl (by decide) v X.length rvs hs h2 ⟨w.heap.size, 0, none⟩ 1 cc [rv] hx rfl ?_ ?_ ?_ ?_ (by simp; omega) ?_
  · intro j u hj
    rw [addr_add0]
    match j, hj with
    | 0, hj => simp at hj; subst hj; simp
  · intro u hu; simp at hu; subst hu; exact rd_one hr
  · unfold maxLen; omega
  · omega
  · intro v' w' g1 g2 _ _
    exact h v' w' (ShF.push h1 h2 h3 (hr.below (hb.alloc hb.size _)) g1 g2) (grown_of_alloc g2)
/-- append(x, row) as a step of a region that draws -/
theorem step_pushS {B : Nat} (w : World) {ops : Array Oper} {o : Oper} {a : Act} {K : Act → World → Prop} {Q : Exit → Act → World → Prop} {E : Prop} (hgd : o.guard = none) (s x : Operand) (t : TypeId)
    (ho : o.op = .call { callee := .builtin .append, args := #[s, x], argTypes := #[t, t] }) (hu : Try.prog.underlying t = some (.slice 30))
    (v : Value) (X : Fd) (hs : a.eval s = v) (hown : ShF B w v X) (rv : Value) (es : List Ent) (hr : RdR (fun b => b < B) w rv es)
    (m cc : Nat) (hx : a.eval x = .slice (some ⟨m, 0, none⟩) 1 cc) (l0 : w.cell? ⟨m, 0, none⟩ = some rv) (hn : X.length ≤ 1099511627776) (hB : B ≤ w.heap.size)
    (h : ∀ v' w', ShF B w' v' (X ++ [es]) → w.grownBy w' v.ownBlock → K (a.put o.dst v') w') :
    if Region.wanted o (yielded ops a.tmps) = true then Oper.wp Try.prog o a w K Q else E := by
  have hw : Region.wanted o (yielded ops a.tmps) = true := by simp [Region.wanted, hgd]
  rw [if_pos hw]
  obtain ⟨i0, hi, hz0, hz1, hz2⟩ := info_parts info_row
  obtain ⟨rvs, h1, h2, h3⟩ := hown
  obtain ⟨v', w', hrun, g1, g2, -, g4⟩ := run_append_own_at (P := Try.prog) w B t o.type 30 i0 (.slice none 0 0) 1 24 hu hi hz0 hz1 hz2 rfl (by decide) v X.length rvs h2 ⟨m, 0, none⟩ 1 cc [rv] rfl
    (by
      intro j u hj
      rw [addr_add0]
      match j, hj with
      | 0, hj => simp at hj; subst hj; exact l0)
    (by intro u hu; simp at hu; subst hu; exact rd_one hr)
    (by unfold maxLen; omega) (by omega) hB
  unfold Oper.wp
  simp [execOp, ho, resolve, invoke, builtin, hs, hx, hrun, Result.andThen]
  exact h v' w' (ShF.push h1 h2 h3 hr g1 g2) g2
theorem sameRefs_part {F X : Fd} {a b : Option Addr} {N M ca cb n : Nat} (w : World) (ha : Ord X w a N ca) (hb : Ord F w b M cb) (hm : n ≤ M) (he : jo X = (jo F).take n) :
    Calls Try.prog 27 #[.slice a N ca, .slice b n cb] w fun e w' => e = .returned (.bool true) ∧ Below w.heap.size w w' := by
  obtain ⟨rfl, ha⟩ := ha
  obtain ⟨rfl, hb⟩ := hb
  have h2 := hb.take2 hm
  have hl : (jo X).length = n := by rw [he, List.length_take]; omega
  have h3 := sameRefs_c (.slice a (jo X).length ca) (.slice b n cb) (jo X) w ha (by rw [hl, he]; exact h2)
  exact h3
theorem sameRefs_two {F G : Fd} {a b : Option Addr} {N M ca cb n : Nat} (w : World) (ha : Ord F w a N ca) (hb : Ord G w b M cb) (hn : n ≤ N) (hm : n ≤ M) (he : (jo G).take n = (jo F).take n) :
    Calls Try.prog 27 #[.slice a n ca, .slice b n cb] w fun e w' => e = .returned (.bool true) ∧ Below w.heap.size w w' := by
  obtain ⟨rfl, ha⟩ := ha
  obtain ⟨rfl, hb⟩ := hb
  have h1 := ha.take2 hn
  have h2 := hb.take2 hm
  have hl : ((jo F).take n).length = n := by rw [List.length_take]; omega
  exact sameRefs_c (.slice a n ca) (.slice b n cb) ((jo F).take n) w (by rw [hl]; exact h1) (by rw [hl, ← he]; exact h2)
/-- the entries without the last one of writer x -/
def pRow (F : Fd) (x u : Nat) : List Ent := if u = x then (F.getD u []).take (ln F u - 1) else F.getD u []
def pF (F : Fd) (x v : Nat) : Fd := (List.range v).map (pRow F x)
theorem pF_len (F : Fd) (x v : Nat) : (pF F x v).length = v := by simp [pF]
theorem pF_succ (F : Fd) (x v : Nat) : pF F x (v + 1) = pF F x v ++ [pRow F x v] := by unfold pF; rw [List.range_succ, List.map_append]; rfl
theorem pF_row (F : Fd) (x : Nat) {v u : Nat} (hu : u < v) : (pF F x v).getD u [] = pRow F x u := by simp [pF, List.getD, hu]
theorem pF_ln (F : Fd) (x : Nat) {v u : Nat} (hu : u < v) : ln (pF F x v) u = if u = x then ln F u - 1 else ln F u := by
  unfold ln
  rw [pF_row F x hu]
  unfold pRow
  split
  · rw [List.length_take]; unfold ln; omega
  · rfl
theorem pF_ent (F : Fd) (x : Nat) {v u k : Nat} (hu : u < v) (hk : k < ln (pF F x v) u) : ent (pF F x v) u k = ent F u k := by
  rw [pF_ln F x hu] at hk
  unfold ent
  rw [pF_row F x hu]
  unfold pRow
  split
  · rename_i e
    rw [if_pos e] at hk
    simp [List.getD, hk]
  · rfl
theorem pF_part {F : Fd} (h : JV F) {n : Nat} (hn : tot F = n + 1) : JV (pF F (wk F n) 3) ∧ tot (pF F (wk F n) 3) = n ∧ ∀ k, k < n → rf (pF F (wk F n) 3) k = rf F k :=
  part h hn (pF_len _ _ _) (fun _ hv => pF_ln F _ hv) (fun _ hv _ hk => pF_ent F _ hv hk)
end Go.Proofs.Ythnepmhkeceadaa
