/- Walks: copies of entries in memory of the call's own; laws on append for rows of entries. -/
import Derived.Test.YthnepmhkeceadaaJwJ
import Derived.Test.YthnepmhkeceadaaMkF
import Derived.Maps.AppendAt
namespace Go.Proofs.Ythnepmhkeceadaa
open Go.RowKit
/-- append(out, xs...), ints. -/
theorem wpList_apps1 {P : Program} {S : Nat → Prop} (w : World) {ops : Array Oper} {rest : List Oper} {o : Oper} {a : Act} {Q : Exit → Act → World → Prop} (hgd : o.guard = none) (s x : Operand) (t : TypeId)
    (ho : o.op = .call { callee := .builtin .append, args := #[s, x], argTypes := #[t, t] }) (base : Nat) (e : TypeId) (hu : P.underlying t = some (.slice e))
    (hinfo : (P.info? e).map (fun i => (i.zero, i.size, i.bytes)) = some (some (.int .i64 0), 1, 8)) (v : Value) (n : Nat) (ps : List Int) (_hpn : ps.length = n) (hs : a.eval s = v) (hown : w.ownsRow base e 1 v n (enc1 ps))
    (xv : Value) (m : Nat) (qs : List Int) (hqm : qs.length = m) (hx : a.eval x = xv) (hrd : RdS S 1 w xv m (enc1 qs)) (hn : n + m ≤ 1099511627776) (hb : base ≤ w.heap.size)
    (h : ∀ v' w', w'.ownsRow base e 1 v' (n + m) (enc1 (ps ++ qs)) → w.grownBy w' v.ownBlock → wpList P ops Q rest (a.put o.dst v') w') :
    wpList P ops Q (o :: rest) a w := by
  obtain ⟨i0, hi, hz0, hz1, hz2⟩ := info_parts hinfo
  obtain ⟨hl, hsl, a2, c2, e2, h1, h2, h3⟩ := hrd
  subst e2
  rcases hsl with e2 | ⟨ad, n2, cap, e2⟩
  · simp at e2
    obtain ⟨rfl, rfl, rfl⟩ := e2
    obtain rfl : qs = [] := List.eq_nil_of_length_eq_zero hqm
    refine wpList_append_own_none hgd s x t ho base e i0 1 hu hi v n (enc1 ps) hs hown hx ?_
    exact h v w (by simpa using hown) (World.grownBy.refl _ _)
  · simp at e2
    obtain ⟨rfl, -, -⟩ := e2
    refine wpList_append_own _ hgd s x t ho base e i0 (.int .i64 0) 1 8 hu hi hz0 hz1 hz2 rfl (by decide) v n (enc1 ps) hs hown ad m c2 (enc1 qs) hx hl ?_ ?_ ?_ ?_ hb ?_
    · intro j u hj
      have hne : m ≠ 0 := by
        intro h0
        subst h0
        rw [List.eq_nil_of_length_eq_zero hqm] at hj
        simp [enc1] at hj
      obtain ⟨b', off', ha, hc⟩ := h3 hne
      simp at ha
      subst ha
      have hadd : (⟨b', off', none⟩ : Addr).add j = ⟨b', off' + j, none⟩ := by unfold Addr.add; split <;> simp_all
      rw [hadd]
      exact (hc j u hj).2
    · intro u hu; simp [enc1] at hu; obtain ⟨z, -, rfl⟩ := hu; rfl
    · unfold maxLen; omega
    · omega
    · intro v' w' g1 g2 _
      refine h v' w' ?_ g2
      rw [enc1_app]
      exact g1
theorem addr_add0 (g j : Nat) : (⟨g, 0, none⟩ : Addr).add j = ⟨g, j, none⟩ := by
  have h : (⟨g, 0, none⟩ : Addr).add j = ⟨g, 0 + j, none⟩ := by unfold Addr.add; split <;> simp_all
  rw [h, Nat.zero_add]
/-- A further entry behind an own row: its clock lies apart. -/
theorem OwnR.push {T : Nat → Prop} {w : World} {v : Value} {es : List Ent} (h : OwnR T w v es) {cv : Value} {c : List Int} (hcv : w.ownsRow 0 3 1 cv c.length (enc1 c)) (hd : ∀ b, cv.ownBlock = some b → ¬ T b) (x1 y1 : Int) :
    ∃ flat, w.ownsRow 0 32 3 v es.length flat ∧ ∀ w' v', w'.ownsRow 0 32 3 v' (es.length + 1) (flat ++ [cv, .int .i64 x1, .int .i64 y1]) → w.grownBy w' v.ownBlock → (v'.ownBlock = v.ownBlock ∨ v'.ownBlock = some w.heap.size) →
      OwnR (fun b => T b ∨ cv.ownBlock = some b ∨ b = w.heap.size) w' v' (es ++ [(c, x1, y1)]) := by
  obtain ⟨lab, cvs, h1, h2, h3, h4⟩ := h
  refine ⟨encE cvs es, h2, fun w' v' g1 g2 g4 => ⟨fun b => if cv.ownBlock = some b then es.length + 1 else if b < w.heap.size then lab b else 0, cvs ++ [cv], by simp [h1], ?_, fun b hb' => ?_, fun i hi' => ?_⟩⟩
  · rw [encE_snoc cvs es h1 cv (c, x1, y1), List.length_append]
    exact g1
  · rcases g4 with g4 | g4
    · rw [g4] at hb'
      have hlt := (h2.lt b hb').2
      refine ⟨.inl (h3 b hb').1, ?_⟩
      dsimp only
      rw [if_neg (fun e => hd b e (h3 b hb').1), if_pos hlt]
      exact (h3 b hb').2
    · rw [g4] at hb'
      obtain rfl : w.heap.size = b := by simpa using hb'
      refine ⟨.inr (.inr rfl), ?_⟩
      dsimp only
      rw [if_neg (fun e => by have := (hcv.lt _ e).2; omega), if_neg (by omega)]
  · by_cases e : i = es.length
    · subst e
      rw [show (cvs ++ [cv]).getD es.length undef = cv by rw [← h1]; simp [List.getD], show (es ++ [(c, x1, y1)]).getD es.length e0 = (c, x1, y1) by simp [List.getD]]
      refine ⟨own_chg hcv (Chg.of_grown g2) fun b hb' e => hd b hb' (h3 b e).1, fun b hb' => ⟨.inr (.inl hb'), by dsimp only; rw [if_pos hb']⟩⟩
    · have hik : i < es.length := by simp at hi'; omega
      rw [show (cvs ++ [cv]).getD i undef = cvs.getD i undef by simp [List.getD, List.getElem?_append_left (show i < cvs.length by omega)], show (es ++ [(c, x1, y1)]).getD i e0 = es.getD i e0 by simp [List.getD, List.getElem?_append_left hik]]
      obtain ⟨k1, k2⟩ := h4 i hik
      refine ⟨own_chg k1 (Chg.of_grown g2) (fun b hb' e => ?_), fun b hb' => ?_⟩
      · have := (k2 b hb').2
        have := (h3 b e).2
        omega
      · have hlt := (k1.lt b hb').2
        refine ⟨.inl (k2 b hb').1, ?_⟩
        dsimp only
        rw [if_neg (fun e => hd b e (k2 b hb').1), if_pos hlt]
        exact (k2 b hb').2
/-- A further row behind the own rows: it lies apart. -/
theorem OwnF.push {T U : Nat → Prop} {w : World} {v : Value} {Fs : Fd} (h : OwnF T w v Fs) {rv : Value} {es : List Ent} (hrv : OwnR U w rv es) (hd : ∀ b, U b → ¬ T b) :
    ∃ flat, w.ownsRow 0 30 1 v Fs.length flat ∧ ∀ w' v', w'.ownsRow 0 30 1 v' (Fs.length + 1) (flat ++ [rv]) → w.grownBy w' v.ownBlock → (v'.ownBlock = v.ownBlock ∨ v'.ownBlock = some w.heap.size) →
      OwnF (fun b => T b ∨ U b ∨ b = w.heap.size) w' v' (Fs ++ [es]) := by
  obtain ⟨lab, rvs, h1, h2, h3, h4⟩ := h
  have hru : OwnR (fun b => U b ∧ b < w.heap.size) w rv es := hrv.sub fun b hb' hh => ⟨hh, hb'⟩
  classical
  refine ⟨rvs, h2, fun w' v' g1 g2 g4 => ⟨fun b => if U b ∧ b < w.heap.size then Fs.length + 1 else if b < w.heap.size then lab b else 0, rvs ++ [rv], by simp [h1], ?_, fun b hb' => ?_, fun j hj' => ?_⟩⟩
  · rw [List.length_append]
    exact g1
  · rcases g4 with g4 | g4
    · rw [g4] at hb'
      have hlt := (h2.lt b hb').2
      refine ⟨.inl (h3 b hb').1, ?_⟩
      dsimp only
      rw [if_neg (fun e => hd b e.1 (h3 b hb').1), if_pos hlt]
      exact (h3 b hb').2
    · rw [g4] at hb'
      obtain rfl : w.heap.size = b := by simpa using hb'
      refine ⟨.inr (.inr rfl), ?_⟩
      dsimp only
      rw [if_neg (fun e => by have := e.2; omega), if_neg (by omega)]
  · by_cases e : j = Fs.length
    · subst e
      rw [show (rvs ++ [rv]).getD Fs.length undef = rv by rw [← h1]; simp [List.getD], show (Fs ++ [es]).getD Fs.length [] = es by simp [List.getD]]
      exact (hru.chg (Chg.of_grown g2) fun b hb' e => hd b hb'.1 (h3 b e).1).sub fun b _ hb' => ⟨.inr (.inl hb'.1), by dsimp only; rw [if_pos hb']⟩
    · have hjk : j < Fs.length := by simp at hj'; omega
      rw [show (rvs ++ [rv]).getD j undef = rvs.getD j undef by simp [List.getD, List.getElem?_append_left (show j < rvs.length by omega)], show (Fs ++ [es]).getD j [] = Fs.getD j [] by simp [List.getD, List.getElem?_append_left hjk]]
      have k1 : OwnR (fun b => (T b ∧ lab b = j + 1) ∧ b < w.heap.size) w (rvs.getD j undef) (Fs.getD j []) := (h4 j hjk).sub fun b hb hh => ⟨hh, hb⟩
      refine (k1.chg (Chg.of_grown g2) fun b hb' e => ?_).sub fun b _ hb' => ⟨.inl hb'.1.1, ?_⟩
      · have h7 := (h3 b e).2
        have := hb'.1.2
        omega
      · dsimp only
        rw [if_neg (fun e => hd b e.1 hb'.1.1), if_pos hb'.2]
        exact hb'.1.2
/-- append(row, e), a row of entries of the call's own; the entry's clock is new. -/
theorem wpList_pushE {S : Nat → Prop} {w0 : World} (w : World) {ops : Array Oper} {rest : List Oper} {o : Oper} {a : Act} {Q : Exit → Act → World → Prop} (hgd : o.guard = none) (s x : Operand) (t : TypeId)
    (ho : o.op = .call { callee := .builtin .append, args := #[s, x], argTypes := #[t, t] }) (hu : Try.prog.underlying t = some (.slice 32))
    (v : Value) (es : List Ent) (hs : a.eval s = v) (hown : OwnR S w0 v es) (hb : Below w0.heap.size w0 w) (cv : Value) (c : List Int) (x1 y1 : Int) (hcv : w.ownsRow w0.heap.size 3 1 cv c.length (enc1 c))
    (T : TypeId) (m cc : Nat) (hx : a.eval x = .slice (some ⟨m, 0, none⟩) 1 cc) (hm : m = w.heap.size) (hn : es.length ≤ 1099511627776) (hS : ∀ b, w0.heap.size ≤ b → S b)
    (h : ∀ v' w', OwnR S w' v' (es ++ [(c, x1, y1)]) → w.grownBy w' v.ownBlock → wpList Try.prog ops Q rest (a.put o.dst v') w') :
    wpList Try.prog ops Q (o :: rest) a (w.alloc (.cells #[cv, .int .i64 x1, .int .i64 y1] T)) := by
  subst hm
  obtain ⟨i0, hi, hz0, hz1, hz2⟩ := info_parts info_entry
  have hone : cv.oneCell' = true := by
    rcases own_cases hcv with ⟨rfl, -⟩ | ⟨g, cap, rfl, -⟩ <;> rfl
  have hO : OwnR (fun b => S b ∧ b < w0.heap.size) w0 v es := hown.sub fun b hb' hh => ⟨hh, hb'⟩
  have hO2 : OwnR (fun b => S b ∧ b < w0.heap.size) (w.alloc (.cells #[cv, .int .i64 x1, .int .i64 y1] T)) v es := hO.below (hb.alloc hb.size _)
  have hcva := (own_zero hcv).alloc (.cells #[cv, .int .i64 x1, .int .i64 y1] T)
  obtain ⟨flat, hf, hcl⟩ := hO2.push hcva (fun b hb' e => by have := (hcv.lt b hb').1; have := e.2; omega) x1 y1
  refine wpList_append_own_at _ hgd s x t ho 0 32 i0 zeroE 3 40 hu hi hz0 hz1 hz2 rfl (by decide) v es.length flat hs hf ⟨w.heap.size, 0, none⟩ 1 cc [cv, .int .i64 x1, .int .i64 y1] hx rfl ?_ ?_ ?_ ?_ (Nat.zero_le _) ?_
  · intro j u hj
    rw [addr_add0]
    match j, hj with
    | 0, hj => simp at hj; subst hj; simp
    | 1, hj => simp at hj; subst hj; simp
    | 2, hj => simp at hj; subst hj; simp
  · intro u hu; simp at hu; rcases hu with rfl | rfl | rfl
    · exact hone
    · rfl
    · rfl
  · unfold maxLen; omega
  · omega
  · intro v' w' g1 g2 _ g4
    refine h v' w' ((hcl w' v' g1 g2 g4).sub fun b _ hb' => ?_) (grown_of_alloc g2)
    rcases hb' with hb' | hb' | hb'
    · exact hb'.1
    · exact hS b (hcv.lt b hb').1
    · have := hb.size
      simp at hb'
      exact hS b (by omega)
/-- append(row, e) as a step of a region that draws. -/
theorem step_pushE {T : Nat → Prop} (w : World) {ops : Array Oper} {o : Oper} {a : Act} {K : Act → World → Prop} {Q : Exit → Act → World → Prop} {E : Prop} (hgd : o.guard = none) (s x : Operand) (t : TypeId)
    (ho : o.op = .call { callee := .builtin .append, args := #[s, x], argTypes := #[t, t] }) (hu : Try.prog.underlying t = some (.slice 32))
    (v : Value) (es : List Ent) (hs : a.eval s = v) (hown : OwnR T w v es) (cv : Value) (c : List Int) (x1 y1 : Int) (hcv : w.ownsRow 0 3 1 cv c.length (enc1 c)) (hd : ∀ b, cv.ownBlock = some b → ¬ T b)
    (m cc : Nat) (hx : a.eval x = .slice (some ⟨m, 0, none⟩) 1 cc) (l0 : w.cell? ⟨m, 0, none⟩ = some cv) (l1 : w.cell? ⟨m, 1, none⟩ = some (.int .i64 x1)) (l2 : w.cell? ⟨m, 2, none⟩ = some (.int .i64 y1)) (hn : es.length ≤ 1099511627776)
    (h : ∀ v' w', OwnR (fun b => T b ∨ cv.ownBlock = some b ∨ b = w.heap.size) w' v' (es ++ [(c, x1, y1)]) → w.grownBy w' v.ownBlock → K (a.put o.dst v') w') :
    if Region.wanted o (yielded ops a.tmps) = true then Oper.wp Try.prog o a w K Q else E := by
  have hw : Region.wanted o (yielded ops a.tmps) = true := by simp [Region.wanted, hgd]
  rw [if_pos hw]
  obtain ⟨i0, hi, hz0, hz1, hz2⟩ := info_parts info_entry
  have hone : cv.oneCell' = true := by
    rcases own_cases hcv with ⟨rfl, -⟩ | ⟨g, cap, rfl, -⟩ <;> rfl
  obtain ⟨flat, hf, hcl⟩ := hown.push hcv hd x1 y1
  obtain ⟨v', w', hrun, g1, g2, -, g4⟩ := run_append_own_at (P := Try.prog) w 0 t o.type 32 i0 zeroE 3 40 hu hi hz0 hz1 hz2 rfl (by decide) v es.length flat hf ⟨m, 0, none⟩ 1 cc [cv, .int .i64 x1, .int .i64 y1] rfl
    (by
      intro j u hj
      rw [addr_add0]
      match j, hj with
      | 0, hj => simp at hj; subst hj; exact l0
      | 1, hj => simp at hj; subst hj; exact l1
      | 2, hj => simp at hj; subst hj; exact l2)
    (by
      intro u hu; simp at hu; rcases hu with rfl | rfl | rfl
      · exact hone
      · rfl
      · rfl)
    (by unfold maxLen; omega) (by omega) (Nat.zero_le _)
  unfold Oper.wp
  simp [execOp, ho, resolve, invoke, builtin, hs, hx, hrun, Result.andThen]
  exact h v' w' (hcl w' v' g1 g2 g4) g2
/-- append(out, row), the rows of all writers of the call's own; the row is new. -/
theorem wpList_pushR {S : Nat → Prop} {w0 : World} (w : World) {ops : Array Oper} {rest : List Oper} {o : Oper} {a : Act} {Q : Exit → Act → World → Prop} (hgd : o.guard = none) (s x : Operand) (t : TypeId)
    (ho : o.op = .call { callee := .builtin .append, args := #[s, x], argTypes := #[t, t] }) (hu : Try.prog.underlying t = some (.slice 30))
    (v : Value) (Fs : Fd) (hs : a.eval s = v) (hown : OwnF S w0 v Fs) (hb : Below w0.heap.size w0 w) (rv : Value) (es : List Ent) (hrv : OwnR (fun b => w0.heap.size ≤ b) w rv es)
    (T : TypeId) (m cc : Nat) (hx : a.eval x = .slice (some ⟨m, 0, none⟩) 1 cc) (hm : m = w.heap.size) (hn : Fs.length ≤ 1099511627776) (hS : ∀ b, w0.heap.size ≤ b → S b)
    (h : ∀ v' w', OwnF S w' v' (Fs ++ [es]) → w.grownBy w' v.ownBlock → wpList Try.prog ops Q rest (a.put o.dst v') w') :
    wpList Try.prog ops Q (o :: rest) a (w.alloc (.cells #[rv] T)) := by
  subst hm
  obtain ⟨i0, hi, hz0, hz1, hz2⟩ := info_parts info_row
  have hone : rv.oneCell' = true := by
    obtain ⟨_, _, _, k, _⟩ := hrv
    rcases own_cases k with ⟨rfl, -⟩ | ⟨g, cap, rfl, -⟩ <;> rfl
  have hO : OwnF (fun b => S b ∧ b < w0.heap.size) w0 v Fs := hown.sub fun b hb' hh => ⟨hh, hb'⟩
  have hO2 : OwnF (fun b => S b ∧ b < w0.heap.size) (w.alloc (.cells #[rv] T)) v Fs := hO.below (hb.alloc hb.size _)
  have hr2 : OwnR (fun b => w0.heap.size ≤ b) (w.alloc (.cells #[rv] T)) rv es := hrv.below ((Below.refl _ _).alloc (Nat.le_refl _) _)
  obtain ⟨flat, hf, hcl⟩ := hO2.push hr2 (fun b hb' e => by have := e.2; omega)
  refine wpList_append_own_at _ hgd s x t ho 0 30 i0 (.slice none 0 0) 1 24 hu hi hz0 hz1 hz2 rfl (by decide) v Fs.length flat hs hf ⟨w.heap.size, 0, none⟩ 1 cc [rv] hx rfl ?_ ?_ ?_ ?_ (Nat.zero_le _) ?_
  · intro j u hj
    rw [addr_add0]
    match j, hj with
    | 0, hj => simp at hj; subst hj; simp
  · intro u hu; simp at hu; subst hu; exact hone
  · unfold maxLen; omega
  · omega
  · intro v' w' g1 g2 _ g4
    refine h v' w' ((hcl w' v' g1 g2 g4).sub fun b _ hb' => ?_) (grown_of_alloc g2)
    rcases hb' with hb' | hb' | hb'
    · exact hb'.1
    · exact hS b hb'
    · have := hb.size
      simp at hb'
      exact hS b (by omega)
theorem OwnR.slice {S : Nat → Prop} {w : World} {v : Value} {es : List Ent} (h : OwnR S w v es) : ∃ a cap, v = .slice a es.length cap := by
  obtain ⟨_, _, _, k, _⟩ := h
  exact own_slice k
theorem OwnF.slice {S : Nat → Prop} {w : World} {v : Value} {F : Fd} (h : OwnF S w v F) : ∃ a cap, v = .slice a F.length cap := by
  obtain ⟨_, _, _, k, _⟩ := h
  exact own_slice k
theorem OwnR.blk {S : Nat → Prop} {w : World} {v : Value} {es : List Ent} (h : OwnR S w v es) : ∀ b, v.ownBlock = some b → S b ∧ b < w.heap.size := by
  obtain ⟨_, _, _, k, k2, _⟩ := h
  exact fun b hb => ⟨(k2 b hb).1, (k.lt b hb).2⟩
theorem OwnF.blk {S : Nat → Prop} {w : World} {v : Value} {F : Fd} (h : OwnF S w v F) : ∀ b, v.ownBlock = some b → S b ∧ b < w.heap.size := by
  obtain ⟨_, _, _, k, k2, _⟩ := h
  exact fun b hb => ⟨(k2 b hb).1, (k.lt b hb).2⟩
theorem OwnR.nil {w : World} {v : Value} {S : Nat → Prop} (h : w.ownsRow 0 32 3 v 0 []) (hS : ∀ b, v.ownBlock = some b → S b) : OwnR S w v [] :=
  ⟨fun _ => 0, [], rfl, h, fun b hb => ⟨hS b hb, rfl⟩, fun i hi => absurd hi (Nat.not_lt_zero _)⟩
theorem OwnF.nil {w : World} {v : Value} {S : Nat → Prop} (h : w.ownsRow 0 30 1 v 0 []) (hS : ∀ b, v.ownBlock = some b → S b) : OwnF S w v [] :=
  ⟨fun _ => 0, [], rfl, h, fun b hb => ⟨hS b hb, rfl⟩, fun i hi => absurd hi (Nat.not_lt_zero _)⟩
theorem own_new {w w' : World} {B e sz n : Nat} {v : Value} {xs : List Value} (h : w.ownsRow B e sz v n xs) (hg : w.grownBy w' v.ownBlock) : Below B w w' ∨ w.heap.size < B := by
  by_cases hB : B ≤ w.heap.size
  · exact .inl (grown_below hg hB (fun k hk => (h.lt k hk).1))
  · exact .inr (by omega)
set_option maxHeartbeats 3200000 in
theorem l31Copy_c {S : Nat → Prop} (F : Fd) (fv : Value) (W : World) (h : RdF S W fv F) (hj : JV F) :
    Calls Try.prog 42 #[fv] W (RetF F W) := by
  have HJ := Lib.hid hj
  obtain ⟨a0, cap0, rfl, q1, q2⟩ := h.shape
  rw [hj.1] at q1 h ⊢
  unfold maxLen at q2
  have H := Lib.hid h
  clear h hj
  have HO0 : Hid (OwnF (fun b => W.heap.size ≤ b) (W.alloc (.cells #[] 30)) (.slice (some ⟨W.heap.size, 0, none⟩) 0 0) (F.take 0)) := OwnF.nil (own_zero (own_empty W W.heap.size 30 1 (Nat.le_refl _))) (fun b hb => by simp [Value.ownBlock] at hb; omega)
  have HB0 : Hid (Below W.heap.size W (W.alloc (.cells #[] 30))) := (Below.refl _ _).alloc (Nat.le_refl _) _
  go_enter Try.func42, Try.ntmps42
  go_wp2
  go_loopw [3, 4] (fun o i' wr => ∃ (v : Nat), v ≤ 3 ∧ i' = .int .i64 v ∧ Hid (OwnF (fun b => W.heap.size ≤ b) wr o (F.take v)) ∧ Hid (Below W.heap.size W wr)) (fun _ i' _ => 3 - (intOf i').toNat)
  case atStart => exact ⟨0, Nat.zero_le _, rfl, HO0, HB0⟩
  case round =>
    clear HO0 HB0
    obtain ⟨v, hv, rfl, HO, HB⟩ := hrel
    by_cases hlt : v < 3
    · have hlt' : (v : Int) < 3 := by omega
      have HR0 : Hid (OwnR (fun b => wr.heap.size ≤ b) (wr.alloc (.cells #[] 32)) (.slice (some ⟨wr.heap.size, 0, none⟩) 0 0) ((F.getD v []).take 0)) := OwnR.nil (own_zero (own_empty wr wr.heap.size 32 3 (Nat.le_refl _))) (fun b hb => by simp [Value.ownBlock] at hb; omega)
      have HBr0 : Hid (Below wr.heap.size wr (wr.alloc (.cells #[] 32))) := (Below.refl _ _).alloc (Nat.le_refl _) _
      obtain ⟨wo, hwo⟩ : ∃ wo : World, wo = wr := ⟨_, rfl⟩
      have h8 := HJ.out.2.1 v hlt
      go_wp2
      go_loopw [5, 6] (fun o i' wr => ∃ (i : Nat), i ≤ ln F v ∧ i' = .int .i64 i ∧ Hid (OwnR (fun b => wo.heap.size ≤ b) wr o ((F.getD v []).take i)) ∧ Hid (Below wo.heap.size wo wr)) (fun _ i' _ => ln F v - (intOf i').toNat)
      case atStart => exact ⟨0, Nat.zero_le _, rfl, by subst hwo; exact HR0, by subst hwo; exact HBr0⟩
      case round =>
        subst hwo
        clear HR0 HBr0
        obtain ⟨i, hi, rfl, HR, HBi⟩ := hrel
        have HBW := Lib.hid (HB.out.trans (HBi.out.mono HB.out.size))
        obtain ⟨b5, o5, c5, a6, c6, ev, -, -, q5, q6, q7, -⟩ := (H.out.below HBW.out).feed (j := v) (by rw [HJ.out.1]; exact hlt)
        rw [HJ.out.1] at ev
        simp only [Value.slice.injEq] at ev
        obtain ⟨rfl, -, rfl⟩ := ev
        unfold maxLen at q7
        by_cases hil : i < ln F v
        · obtain ⟨b8, o8, c8, bA, oA, cA, aB, cB, ev, -, -, d1, -, d1m, d2, d3, d4, hrr⟩ := (H.out.below HBW.out).entry (j := v) (i := i) (by rw [HJ.out.1]; exact hlt) hil
          rw [HJ.out.1] at ev
          simp only [Value.slice.injEq, Option.some.injEq, Addr.mk.injEq, and_true] at ev
          obtain ⟨⟨rfl, rfl⟩, -, rfl⟩ := ev
          rw [q5] at d1
          simp only [Option.some.injEq, Value.slice.injEq] at d1
          obtain ⟨rfl, -, rfl⟩ := d1
          have hLc := (HJ.out.2.2.1 v hlt i hil).1
          obtain ⟨c, hc⟩ : ∃ c, (ent F v i).1 = c := ⟨_, rfl⟩
          obtain ⟨key, hkey⟩ : ∃ c, (ent F v i).2.1 = c := ⟨_, rfl⟩
          obtain ⟨val, hval⟩ : ∃ c, (ent F v i).2.2 = c := ⟨_, rfl⟩
          rw [hc] at hLc hrr d2
          rw [hkey] at d3
          rw [hval] at d4
          rw [hLc] at d2 hrr
          have HE : Hid ((F.getD v []).take (i + 1) = (F.getD v []).take i ++ [(c, key, val)]) := by
            show _ = _
            rw [take_snoc_getD _ i e0 hil, ← hc, ← hkey, ← hval]
            rfl
          have HLc := Lib.hid hLc
          have HRR := Lib.hid hrr
          have hil' : (i : Int) < (ln F v : Int) := by omega
          have hlen : ((F.getD v []).take i).length = i := by rw [List.length_take]; unfold ln at hil; omega
          have HLn := Lib.hid hlen
          obtain ⟨a9, cap9, ho9⟩ := HR.out.slice
          rw [hlen] at ho9
          subst ho9
          clear hLc hrr hc hkey hval hlen d1m
          have hown1 := own_empty (wr.alloc (.cells #[.slice aB 3 cB, .int .i64 key, .int .i64 val] 32)) (wr.heap.size + 1) 3 1 (by simp)
          rw [show (wr.alloc (.cells #[.slice aB 3 cB, .int .i64 key, .int .i64 val] 32)).heap.size = wr.heap.size + 1 by simp] at hown1
          have hrd1 : RdS S 1 ((wr.alloc (.cells #[.slice aB 3 cB, .int .i64 key, .int .i64 val] 32)).alloc (.cells #[] 3)) (.slice aB 3 cB) 3 (enc1 c) := HRR.out.below (by (repeat' (first | exact Below.refl _ _ | assumption | refine Below.drew ?_ | refine below_drewN ?_ _ | refine Below.alloc ?_ (by omega) _ | refine Below.alloc ?_ (by simp; omega) _ | refine Below.alloc ?_ (by simp) _ | refine Below.setCell ?_ (by omega) _ | refine Below.setCell ?_ (by simp; omega) _ | refine Below.setCell ?_ (by simp) _)))
          go_wp2_with (at_builtin; refine wpList_apps1 (S := S) _ rfl _ _ 24 rfl (wr.heap.size + 1) 3 Try.underlying24 info_int0 _ 0 [] rfl rfl hown1 _ 3 c HLc.out rfl hrd1 (by omega) (by simp) ?_)
          intro cv w4 hown4 hg4
          have hb4 : Below wr.heap.size wr w4 := by
            have h1 : Below wr.heap.size wr ((wr.alloc (.cells #[.slice aB 3 cB, .int .i64 key, .int .i64 val] 32)).alloc (.cells #[] 3)) := by (repeat' (first | exact Below.refl _ _ | assumption | refine Below.drew ?_ | refine below_drewN ?_ _ | refine Below.alloc ?_ (by omega) _ | refine Below.alloc ?_ (by simp; omega) _ | refine Below.alloc ?_ (by simp) _ | refine Below.setCell ?_ (by omega) _ | refine Below.setCell ?_ (by simp; omega) _ | refine Below.setCell ?_ (by simp) _))
            refine h1.grown hg4 h1.size (fun k hk => ?_)
            simp [Value.ownBlock] at hk
            omega
          have e0' : w4.cell? ⟨wr.heap.size, 0, none⟩ = some (.slice aB 3 cB) := grown_cell hg4 (by simp) (by simp [Value.ownBlock])
          have e1' : w4.cell? ⟨wr.heap.size, 1, none⟩ = some (.int .i64 key) := grown_cell hg4 (by simp) (by simp [Value.ownBlock])
          have e2' : w4.cell? ⟨wr.heap.size, 2, none⟩ = some (.int .i64 val) := grown_cell hg4 (by simp) (by simp [Value.ownBlock])
          have f0' : w4.frozen? ⟨wr.heap.size, 0, none⟩ = false := (grown_frozen hg4 (by simp; omega) (by simp [Value.ownBlock])).trans (by simp)
          have hcv : (w4.setCell ⟨wr.heap.size, 0, none⟩ cv).ownsRow wr.heap.size 3 1 cv c.length (enc1 c) := by
            rw [HLc.out]
            refine own_base (own_chg (T := fun b => b = wr.heap.size) hown4 (Chg.setC (Chg.refl _ _) rfl) (fun b hb e => ?_)) (Nat.le_succ _)
            have := (hown4.lt b hb).1
            omega
          have hb5 : Below wr.heap.size wr (w4.setCell ⟨wr.heap.size, 0, none⟩ cv) := hb4.setCell (Nat.le_refl _) _
          obtain ⟨a10, cap10, rfl⟩ := own_slice hown4
          have HS1 := Lib.hid HBi.out.size
          clear hown1 hrd1 hown4 hg4 hb4 d2 d3 d4 q5
          go_wp2_with (at_builtin; refine wpList_pushE _ rfl _ _ 30 rfl Try.underlying30 _ _ rfl HR.out hb5 _ c key val hcv _ _ _ rfl (by simp) (by rw [HLn.out]; omega) (fun b hb => Nat.le_trans HS1.out hb) ?_)
          intro v' w6 hown6 hg6
          have HR6 := Lib.hid (show OwnR (fun b => wo.heap.size ≤ b) w6 v' ((F.getD v []).take (i + 1)) from by rw [HE.out]; exact hown6)
          have HB6 : Hid (Below wo.heap.size wo w6) := (HBi.out.trans (hb5.mono HBi.out.size)).grown hg6 (Nat.le_trans HBi.out.size hb5.size) (fun k hk => (HR.out.blk k hk).1)
          clear hown6 hg6 hb5 hcv e0' e1' e2' f0'
          go_wp2
          go_roundw
          case rel => exact ⟨i + 1, by omega, by go_num, HR6, HB6⟩
          case measure => simp [intOf]; omega
        · obtain rfl : i = ln F v := by omega
          have hR' := HR.out
          rw [List.take_of_length_le (show (F.getD v []).length ≤ ln F v from Nat.le_refl _)] at hR'
          have hlen : (F.take v).length = v := by rw [List.length_take, HJ.out.1]; omega
          have HE : Hid (F.take (v + 1) = F.take v ++ [F.getD v []]) := take_snoc_getD _ v [] (by rw [HJ.out.1]; exact hlt)
          have HLn := Lib.hid hlen
          have hO := HO.out
          have hbi := HBi.out
          have HSW := Lib.hid HB.out.size
          obtain ⟨a9, cap9, ho9⟩ := HO.out.slice
          rw [hlen] at ho9
          subst ho9
          obtain ⟨a10, cap10, rfl⟩ := hR'.slice
          clear hlen HR
          go_wp2_with (at_builtin; refine wpList_pushR _ rfl _ _ 23 rfl Try.underlying23 _ _ rfl hO hbi _ _ hR' _ _ _ rfl (by simp) (by rw [HLn.out]; omega) (fun b hb => Nat.le_trans HSW.out hb) ?_)
          intro v' w6 hown6 hg6
          have HO6 := Lib.hid (show OwnF (fun b => W.heap.size ≤ b) w6 v' (F.take (v + 1)) from by rw [HE.out]; exact hown6)
          have HB6 : Hid (Below W.heap.size W w6) := HBW.out.grown hg6 HBW.out.size (fun k hk => (HO.out.blk k hk).1)
          clear hown6 hg6 hO hbi hR'
          go_wp2
          go_roundw
          case rel => exact ⟨v + 1, by omega, by go_num, HO6, HB6⟩
          case measure => simp [intOf]; omega
    · obtain rfl : v = 3 := by omega
      have hO := HO.out
      rw [List.take_of_length_le (by rw [HJ.out.1]; exact Nat.le_refl _)] at hO
      have HO' := Lib.hid hO
      clear hO HO
      go_wp2
      go_ret
      exact ⟨_, rfl, HO'.out, HB.out⟩
end Go.Proofs.Ythnepmhkeceadaa
