/- The law that an entry that knows all comes last: plain law and walk. -/
import Derived.Test.YthnepmhkeceadaaLSa
import Derived.Test.YthnepmhkeceadaaLAa
import Derived.Test.YthnepmhkeceadaaStW
import Derived.Test.YthnepmhkeceadaaJwB
import Derived.Maps.AppendAt
import Derived.Deep.RegionHeld3
namespace Go.Proofs.Ythnepmhkeceadaa
open Go.RowKit
attribute [local go_sem ↓] Go.wp_at_zero Go.wp_at_succ
/-- an empty slice literal, seen in the heap -/
theorem own_raw {W : World} {g base : Nat} {e : TypeId} {sz : Nat} (hb : base ≤ g) (h : W.heap[g]? = some (.cells #[] e)) : W.ownsRow base e sz (.slice (some ⟨g, 0, none⟩) 0 0) 0 [] :=
  ⟨by simp, .inr ⟨g, 0, #[], rfl, hb, h, Nat.le_refl _, by simp [maxLen], by simp, by simp⟩⟩
theorem rds_raw {W : World} {g : Nat} {e : TypeId} {x y : Int} (h : W.heap[g]? = some (.cells #[.int .i64 x, .int .i64 y] e)) : RdS All 2 W (.slice (some ⟨g, 0, none⟩) 1 1) [(x, y)].length (enc2 [(x, y)]) := by
  have o : W.ownsRow 0 e 2 (.slice (some ⟨g, 0, none⟩) 1 1) 1 [.int .i64 x, .int .i64 y] := ⟨by simp, .inr ⟨g, 1, _, rfl, Nat.zero_le _, h, Nat.le_refl _, by simp [maxLen], by simp, by simp⟩⟩
  exact (RdS.of_own o).sub fun _ _ _ => trivial
theorem hp_new {W : World} {g : Nat} {o : Obj} (hg : g = W.heap.size) : (W.alloc o).heap[g]? = some o := by subst hg; exact heap_alloc_new W o
theorem hp_old {W : World} {g : Nat} {o ob : Obj} (h : W.heap[g]? = some ob) : (W.alloc o).heap[g]? = some ob := by
  have hlt := (Array.getElem?_eq_some_iff.1 h).1
  rw [((World.grownBy_alloc W o none).block g hlt (by simp))]; exact h
theorem hp_drew {W : World} {g : Nat} {ob : Obj} (h : W.heap[g]? = some ob) : W.drew.heap[g]? = some ob := h
theorem hp_below {W W' : World} {g : Nat} {ob : Obj} (hb : Below W.heap.size W W') (h : W.heap[g]? = some ob) : W'.heap[g]? = some ob := by
  have hlt := (Array.getElem?_eq_some_iff.1 h).1
  rw [hb.block g hlt]; exact h
theorem hp_grown {W W' : World} {g : Nat} {ob : Obj} {row : Option Nat} (hb : W.grownBy W' row) (hne : some g ≠ row) (h : W.heap[g]? = some ob) : W'.heap[g]? = some ob := by
  have hlt := (Array.getElem?_eq_some_iff.1 h).1
  rw [hb.block g hlt hne]; exact h
theorem belOf {w0 W w' : World} {row : Option Nat} (_ : W.grownBy w' row) (b : Below w0.heap.size w0 W) : Below w0.heap.size w0 W := b
theorem hp_lt {W : World} {g : Nat} {ob : Obj} (h : W.heap[g]? = some ob) : g < W.heap.size := (Array.getElem?_eq_some_iff.1 h).1
/-- append of a row that can be read onto a slice of the call's own, as a guarded step -/
theorem step_appZ {P : Program} {S : Nat → Prop} (w : World) {ops : Array Oper} {o : Oper} {a : Act} {K : Act → World → Prop} {Q : Exit → Act → World → Prop} {E : Prop} (hw : Region.wanted o (yielded ops a.tmps) = true) (s x : Operand) (t : TypeId)
    (ho : o.op = .call { callee := .builtin .append, args := #[s, x], argTypes := #[t, t] }) (base : Nat) (e : TypeId) (hu : P.underlying t = some (.slice e))
    (hinfo : (P.info? e).map (fun i => (i.zero, i.size, i.bytes)) = some (some zero2, 2, 16)) (v : Value) (ps : List P2) (n : Nat) (hs : a.eval s = v) (hown : w.ownsRow base e 2 v n (enc2 ps))
    (xv : Value) (qs : List P2) (hx : a.eval x = xv) (hr : RdS S 2 w xv qs.length (enc2 qs)) (hn : n + qs.length ≤ 1099511627776) (hb : base ≤ w.heap.size)
    (h : ∀ v' w', w'.ownsRow base e 2 v' (n + qs.length) (enc2 (ps ++ qs)) → w.grownBy w' v.ownBlock → (v'.ownBlock = v.ownBlock ∨ v'.ownBlock = some w.heap.size) → K (a.put o.dst v') w') :
    if Region.wanted o (yielded ops a.tmps) = true then Oper.wp P o a w K Q else E := by
  rw [if_pos hw]
  obtain ⟨i0, hi, hz0, hz1, hz2⟩ := info_parts hinfo
  rcases hr.2.1 with rfl | ⟨ad, m', cap, rfl⟩
  · obtain ⟨hl, -, a', cap', e', -⟩ := hr
    injection e' with _ e2 _
    have : qs = [] := List.eq_nil_of_length_eq_zero e2.symm
    subst this
    have hrun := run_append_owned_none (P := P) (w := w) base t o.type e i0 2 hu hi v n (enc2 ps) hown
    unfold Oper.wp
    simp [execOp, ho, resolve, invoke, builtin, hs, hx, hrun, Result.andThen]
    exact h v w (by simpa using hown) (World.grownBy.refl _ _) (.inl rfl)
  · obtain ⟨hl, -, a', cap', e', -, -, hc⟩ := hr
    injection e' with e1 e2 e3
    subst e2
    subst e1
    obtain ⟨v', w', hrun, g1, g2, -, g4⟩ := run_append_own_at (P := P) w base t o.type e i0 zero2 2 16 hu hi hz0 hz1 hz2 rfl (by decide) v n (enc2 ps) hown ad qs.length cap (enc2 qs) (enc2_len qs)
      (by
        intro j u hj
        have hj1 := (List.getElem?_eq_some_iff.1 hj).1
        obtain ⟨b, off, e5, hcc⟩ := hc (by rw [enc2_len] at hj1; omega)
        injection e5 with e5
        subst e5
        have hadd : (⟨b, off, none⟩ : Addr).add j = ⟨b, off + j, none⟩ := by unfold Addr.add; split <;> simp_all
        rw [hadd]
        exact (hcc j u hj).2)
      (enc2_one qs) (by unfold maxLen; omega) (by omega) hb
    unfold Oper.wp
    simp [execOp, ho, resolve, invoke, builtin, hs, hx, hrun, Result.andThen]
    exact h v' w' (by rw [enc2_app]; exact g1) g2 g4
theorem step_app95 {P : Program} {S : Nat → Prop} (w : World) {ops : Array Oper} {o : Oper} {a : Act} {K : Act → World → Prop} {Q : Exit → Act → World → Prop} {E : Prop} (s x : Operand) (t : TypeId)
    (ho : o.op = .call { callee := .builtin .append, args := #[s, x], argTypes := #[t, t] }) (base : Nat) (e : TypeId) (hu : P.underlying t = some (.slice e))
    (hinfo : (P.info? e).map (fun i => (i.zero, i.size, i.bytes)) = some (some zero2, 2, 16)) (xv : Value) (qs : List P2) (hn : qs.length ≤ 1000)
    (hw : Region.wanted o (yielded ops a.tmps) = true) (hs : ∃ g, a.eval s = .slice (some ⟨g, 0, none⟩) 0 0 ∧ w.heap[g]? = some (.cells #[] e) ∧ base ≤ g)
    (hx : a.eval x = xv) (hr : RdS S 2 w xv qs.length (enc2 qs))
    (h : ∀ v' w' gg, a.eval s = .slice (some ⟨gg, 0, none⟩) 0 0 → w'.ownsRow base e 2 v' qs.length (enc2 qs) → w.grownBy w' (some gg) → (v'.ownBlock = some gg ∨ v'.ownBlock = some w.heap.size) → K (a.put o.dst v') w') :
    if Region.wanted o (yielded ops a.tmps) = true then Oper.wp P o a w K Q else E := by
  obtain ⟨g, hs, hg, hgb⟩ := hs
  have hlt := hp_lt hg
  refine step_appZ w hw s x t ho base e hu hinfo (.slice (some ⟨g, 0, none⟩) 0 0) [] 0 hs (own_raw hgb hg) xv qs hx hr (by omega) (by omega) fun v' w' h1 h2 h3 => ?_
  rw [Nat.zero_add] at h1
  exact h v' w' g hs h1 h2 h3
theorem step_app105 {P : Program} (w : World) {ops : Array Oper} {o : Oper} {a : Act} {K : Act → World → Prop} {Q : Exit → Act → World → Prop} {E : Prop} (x1 y1 : Int) (s x : Operand) (t : TypeId)
    (ho : o.op = .call { callee := .builtin .append, args := #[s, x], argTypes := #[t, t] }) (v : Value) (base : Nat) (e : TypeId) (hu : P.underlying t = some (.slice e))
    (hinfo : (P.info? e).map (fun i => (i.zero, i.size, i.bytes)) = some (some zero2, 2, 16)) (ps : List P2) (hn : ps.length ≤ 1000)
    (hw : Region.wanted o (yielded ops a.tmps) = true) (hs : a.eval s = v) (hx : ∃ g, a.eval x = .slice (some ⟨g, 0, none⟩) 1 1 ∧ w.heap[g]? = some (.cells #[.int .i64 x1, .int .i64 y1] e))
    (hown : w.ownsRow base e 2 v ps.length (enc2 ps)) (hb : base ≤ w.heap.size)
    (h : ∀ v' w', RdS (fun k => v'.ownBlock = some k) 2 w' v' (ps ++ [(x1, y1)]).length (enc2 (ps ++ [(x1, y1)])) → w.grownBy w' v.ownBlock → K (a.put o.dst v') w') :
    if Region.wanted o (yielded ops a.tmps) = true then Oper.wp P o a w K Q else E := by
  obtain ⟨g, hx, hg⟩ := hx
  refine step_appZ (S := All) w hw s x t ho base e hu hinfo v ps ps.length hs hown _ [(x1, y1)] hx (rds_raw hg) (by simp; omega) hb fun v' w' h1 h2 h3 => ?_
  refine h v' w' ?_ h2
  rw [List.length_append]
  exact RdS.of_own h1
theorem ordN_congr {F G : Fd} {n : Nat} (h : ∀ k, k < n → rf G k = rf F k) : ordN G n = ordN F n := by
  unfold ordN
  exact List.map_congr_left fun k hk => h k (List.mem_range.1 hk)
/-- an entry that knows all comes last -/
theorem jo_last {F G : Fd} {m : Nat} {key val : Int} (h : Apd F m (all3 F) key val G) : jo G = jo F ++ [((m : Int), (ln F m : Int))] := by
  have hl := all_last h.jv h.hm h.h8 h.ok (fun v hv hne => by show (newc F m (kf F m (all3 F))).getD v 0 = _; rw [new_all h.jv hv, if_neg hne])
  rw [← h.eq] at hl
  rw [jo_t h.grw.2.1, jo_t h.jv, h.tot, ordN_succ, ordN_congr hl.1, hl.2]
set_option maxRecDepth 100000 in
set_option maxHeartbeats 6400000 in
theorem lawFnOrderPrefix_c (w : World) (v : Value) (n : Nat) (h : RdB w v n) : Calls Try.prog 8 #[v] w fun e w' => e = .returned (.bool true) ∧ Below w.heap.size w w' := by
  have hB := h
  obtain ⟨a, cap, rfl, h1, h2, -⟩ := h
  unfold maxLen at h2
  by_cases hn : 1048576 < n
  · go_enter Try.func8, Try.ntmps8
    go_wp2
    go_ret
    exact ⟨rfl, Below.refl _ _⟩
  · go_enter Try.func8, Try.ntmps8
    go_wp2_with fail
    refine (drawJoinAppend_c _ n _ hB).mono ?_
    rintro e w1 ⟨v, F, x, kv, ks, key, val, rfl, hF, hk, hbd⟩
    have HV := Lib.hid hF
    have HK := Lib.hid hk
    have T := Lib.hid hbd
    clear hF hk hbd
    go_wp2_with fail
    refine (joinAppend_c F _ x _ ks key val _ HV.out HK.out).mono ?_
    rintro e w2 ⟨vo, rfl, hO, hbd⟩
    have HV := Lib.hid (HV.out.below hbd)
    have HK := Lib.hid (HK.out.below hbd)
    have T := Lib.hid (T.out.trans (hbd.mono T.out.size))
    clear hbd
    have HO := Lib.hid hO
    clear hO
    go_wp2_with fail
    refine (specJoinAppend_c F _ x _ ks key val _ HV.out HK.out).mono ?_
    rintro e w3 ⟨vw, rfl, hW, hbd⟩
    have HV := Lib.hid (HV.out.below hbd)
    have HK := Lib.hid (HK.out.below hbd)
    have HO := Lib.hid (HO.out.below hbd)
    have T := Lib.hid (T.out.trans (hbd.mono T.out.size))
    clear hbd
    have HW := Lib.hid hW
    clear hW
    by_cases hok : AppArgs F x ks key val
    · rw [jaB_t hok]
      go_wp2_with fail
      refine (sameEntries_c _ _ _ _ HO.out.rd HW.out.rd).mono ?_
      rintro e w4 ⟨rfl, hbd⟩
      have HV := Lib.hid (HV.out.below hbd)
      have HK := Lib.hid (HK.out.below hbd)
      have HO := Lib.hid (HO.out.below hbd)
      have HW := Lib.hid (HW.out.below hbd)
      have T := Lib.hid (T.out.trans (hbd.mono T.out.size))
      clear hbd
      obtain ⟨m, rfl⟩ := Int.eq_ofNat_of_zero_le hok.2.1.1
      have OK := Lib.hid hok
      have AP := Lib.hid (app_facts hok)
      obtain ⟨G, hG⟩ : ∃ G, jaF F m ks key val = G := ⟨_, rfl⟩
      rw [hG] at HO AP
      clear hok hG HW
      obtain ⟨a0, m0, cap0, rfl, hm0, q1, q2⟩ := HV.out.len
      have hm3 : m0 = 3 := hm0.trans AP.out.jv.1
      clear hm0
      subst hm3
      unfold maxLen at q2
      have hm3 := AP.out.hm
      have hm3' : (m : Int) < 3 := by omega
      obtain ⟨wq, hwq⟩ : ∃ wq : World, wq = w4 := ⟨_, rfl⟩
      have hown0 := own_empty w4 w4.heap.size 3 1 (Nat.le_refl _)
      have HB0 : Hid (Below w4.heap.size w4 (w4.alloc (.cells #[] 3))) := (Below.refl _ _).alloc (Nat.le_refl _) _
      go_wp2
      go_loopw [12, 13] (fun o i' wr => ∃ v : Nat, v ≤ 3 ∧ i' = .int .i64 v ∧ wr.ownsRow wq.heap.size 3 1 o v (enc1 ((all3 F).take v)) ∧ Hid (Below wq.heap.size wq wr)) (fun _ i' _ => 3 - (intOf i').toNat)
      case atStart => exact ⟨0, Nat.zero_le _, rfl, by subst hwq; exact hown0, by subst hwq; exact HB0⟩
      case round =>
        subst hwq
        clear hown0 HB0
        obtain ⟨v, hv, rfl, hown, HBk⟩ := hrel
        have hsz := HBk.out.size
        by_cases hvt : v < 3
        · obtain ⟨b5, o5, c5, a6, c6, ev, -, -, q5, q6, q7, -⟩ := (HV.out.below HBk.out).feed (j := v) (by rw [AP.out.jv.1]; exact hvt)
          rw [AP.out.jv.1] at ev
          simp only [Value.slice.injEq] at ev
          obtain ⟨rfl, -, rfl⟩ := ev
          unfold maxLen at q7
          have hvt' : (v : Int) < 3 := by omega
          have HT : Hid ((all3 F).take (v + 1) = (all3 F).take v ++ [(ln F v : Int)]) := by
            show _ = _
            rw [take_snoc_getD (all3 F) v 0 hvt, all3_at F hvt]
          have hlen : ((all3 F).take v).length = v := by rw [List.length_take, show (all3 F).length = 3 from rfl]; omega
          have HLn := Lib.hid hlen
          obtain ⟨L, hL⟩ : ∃ L, ln F v = L := ⟨_, rfl⟩
          rw [hL] at q5 q6 HT
          obtain ⟨Y, hY⟩ : ∃ Y, (all3 F).take v = Y := ⟨_, rfl⟩
          rw [hY] at hown HT HLn
          clear hlen hY hL
          have hown' := hown
          rw [← HLn.out] at hown'
          have hY3 : Y.length ≤ 3 := by rw [HLn.out]; omega
          go_wp2_with (at_builtin; refine wpList_app1 _ rfl _ _ 24 rfl wq.heap.size 3 Try.underlying24 info_int0 _ Y rfl hown' _ _ _ rfl (by omega) hsz ?_)
          intro v' w4 qs hqs hql hown4 hg4
          have hb4 := Lib.hid (HBk.out.grown hg4 hsz (fun k hk => (hown.lt k hk).1))
          have hql2 : qs.length = v + 1 := by rw [hqs.out]; simp; exact HLn.out
          rw [hql2, hqs.out, ← HT.out] at hown4
          clear hown hown' hg4 q5 hqs hql hql2
          go_wp2
          go_roundw
          case rel => exact ⟨v + 1, by omega, by go_num, hown4, hb4⟩
          case measure => simp [intOf]; omega
        · obtain rfl : v = 3 := by omega
          rw [List.take_of_length_le (show (all3 F).length ≤ 3 from Nat.le_refl _)] at hown
          obtain ⟨ok, oc, rfl⟩ := own_slice hown
          have HKA := Lib.hid hown
          have HV := Lib.hid (HV.out.below HBk.out)
          have T := Lib.hid (T.out.trans (HBk.out.mono T.out.size))
          have hargs : AppArgs F m (all3 F) key val := ⟨AP.out.jv, OK.out.2.1, rfl, OK.out.2.2.2.1, OK.out.2.2.2.2.1, OK.out.2.2.2.2.2.1, fun v hv => by rw [all3_at F hv]; omega⟩
          have AQ := Lib.hid (app_facts hargs)
          have HJB := Lib.hid (jaB_t hargs)
          clear hown hargs hsz
          go_wp2_with fail
          refine (joinAppend_c F _ m _ (all3 F) key val _ HV.out (RdS.of_own HKA.out)).mono ?_
          rintro e w8 ⟨vx, rfl, hX, hbd⟩
          rw [HJB.out]
          obtain ⟨X, hXe⟩ : ∃ X, jaF F m (all3 F) key val = X := ⟨_, rfl⟩
          rw [hXe] at AQ hX
          have HX := Lib.hid hX
          have HV := Lib.hid (HV.out.below hbd)
          have T := Lib.hid (T.out.trans (hbd.mono T.out.size))
          clear hX hbd hXe
          go_wp2_with fail
          refine (joinOrder_c F _ _ HV.out).mono ?_
          rintro e w9 ⟨vq, rfl, hQ, hbd⟩
          have RQ := Lib.hid (RdS.of_own hQ)
          have HX := Lib.hid (HX.out.below hbd)
          have HV := Lib.hid (HV.out.below hbd)
          have T := Lib.hid (T.out.trans (hbd.mono T.out.size))
          have HJL := Lib.hid (jo_last AQ.out)
          have JL := Lib.hid (show (jo F).length ≤ 1000 by rw [jo_len AP.out.jv]; have := AP.out.jv; have := tot_le this; omega)
          clear hQ hbd
          go_wp2
          obtain ⟨b5, o5, c5, a6, c6, ev, -, -, q5, q6, q7, -⟩ := HV.out.feed (j := m) (by rw [AP.out.jv.1]; exact hm3)
          rw [AP.out.jv.1] at ev
          simp only [Value.slice.injEq] at ev
          obtain ⟨rfl, -, rfl⟩ := ev
          unfold maxLen at q7
          obtain ⟨L, hL⟩ : ∃ L, ln F m = L := ⟨_, rfl⟩
          rw [hL] at q5 q6 HJL
          have HXr := Lib.hid HX.out.rd
          have e1 : (m : Int) < (3 : Int) := by omega
          have e0 : (0 : Int) ≤ (m : Int) := by omega
          have Q5 := Lib.hid q5
          clear hL
          go_region_held3 (fun W' => W'.cell? ⟨b5, o5 + m, none⟩ = some (.slice a6 L c6)) (first | go_keep | exact cell_keep B107.out Q5.out | exact cell_keep B106.out Q5.out | exact cell_keep B97.out Q5.out | exact cell_keep B94.out Q5.out) ((first
            | ((with_reducible refine (joinOrder_c X vx _ (HXr.out.below (by (repeat' (first | exact Below.refl _ _ | assumption | refine Below.drew ?_ | refine below_drewN ?_ _ | refine Below.alloc ?_ (by omega) _ | refine Below.alloc ?_ (by simp; omega) _ | refine Below.alloc ?_ (by simp) _ | refine Below.setCell ?_ (by omega) _ | refine Below.setCell ?_ (by simp; omega) _ | refine Below.setCell ?_ (by simp) _))))).mono ?_); rintro e w94 ⟨v94, rfl, hO94, hb94⟩; have B94 := Lib.hid (show Below w9.heap.size w9 w94 from Below.trans (show Below w9.heap.size w9 _ from by (repeat' (first | exact Below.refl _ _ | assumption | refine Below.drew ?_ | refine below_drewN ?_ _ | refine Below.alloc ?_ (by omega) _ | refine Below.alloc ?_ (by simp; omega) _ | refine Below.alloc ?_ (by simp) _ | refine Below.setCell ?_ (by omega) _ | refine Below.setCell ?_ (by simp; omega) _ | refine Below.setCell ?_ (by simp) _))) (hb94.mono (by simp <;> omega))); have O94 := Lib.hid hO94; have HC94 := Lib.hid hb94; clear hO94 hb94)
            | (refine step_app95 (S := fun k => vq.ownBlock = some k) _ (.tmp 95) (.tmp 96) 47 rfl w9.heap.size 37 Try.underlying47 info_ref vq (jo F) JL.out ?_ ?_ ?_ ?_ ?_; rfl; (refine ⟨_, rfl, ?_, ?_⟩; (repeat' (first | (refine hp_new ?_; first | rfl | (simp; done)) | refine hp_old ?_ | refine hp_below HC94.out ?_ | with_reducible refine hp_drew ?_)); (have := B94.out.size; omega)); rfl; (exact RQ.out.below (B94.out.trans (Below.mono (show Below w94.heap.size w94 _ from by (repeat' (first | exact Below.refl _ _ | assumption | refine Below.drew ?_ | refine below_drewN ?_ _ | refine Below.alloc ?_ (by omega) _ | refine Below.alloc ?_ (by simp; omega) _ | refine Below.alloc ?_ (by simp) _ | refine Below.setCell ?_ (by omega) _ | refine Below.setCell ?_ (by simp; omega) _ | refine Below.setCell ?_ (by simp) _))) B94.out.size))); intro v97 w97 g95 hg95 ho97 hg97 hl97; simp [Act.eval, Act.put] at hg95; have EG := Lib.hid hg95; have N95 : Hid (∀ j, v94.ownBlock = some j → j ≠ g95) := Lib.hid (fun j hj => by have h1 := own_block O94.out j hj; have h2 := HC94.out.size; have h3 := EG.out; simp at h1 h2 ⊢; omega); have BX := Lib.hid (belOf (w0 := w94) hg97 (by (repeat' (first | exact Below.refl _ _ | assumption | refine Below.drew ?_ | refine below_drewN ?_ _ | refine Below.alloc ?_ (by omega) _ | refine Below.alloc ?_ (by simp; omega) _ | refine Below.alloc ?_ (by simp) _ | refine Below.setCell ?_ (by omega) _ | refine Below.setCell ?_ (by simp; omega) _ | refine Below.setCell ?_ (by simp) _)))); have O94b := Lib.hid ((own_below O94.out BX.out).kept hg97 (by rcases hv : v94.ownBlock with _ | j; exact .inl rfl; exact .inr (fun e => N95.out j hv (by injection e)))); have L97 := Lib.hid (show ∀ j, v94.ownBlock = some j → v97.ownBlock ≠ some j from fun j hj e => by rcases hl97 with h | h; (rw [h] at e; exact N95.out j hj (by injection e with e; exact e.symm)); (rw [h] at e; have h1 := (own_block O94.out j hj).2; have h2 := BX.out.size; injection e with e; omega)); have B97 := Lib.hid (show Below w9.heap.size w9 w97 from (B94.out.trans (BX.out.mono B94.out.size)).grown hg97 (by have := B94.out.size; have := BX.out.size; omega) (fun k hk => by injection hk with hk; have := B94.out.size; have := EG.out; omega)); have G97 := Lib.hid hg97; have O97 := Lib.hid ho97; clear ho97 hg97 hl97 hg95)
            | (refine step_app105 _ (m : Int) (L : Int) (.tmp 97) (.tmp 105) 47 rfl v97 w9.heap.size 37 Try.underlying47 info_ref (jo F) JL.out ?_ ?_ ?_ ?_ ?_ ?_; rfl; rfl; (refine ⟨_, rfl, ?_⟩; (first | (refine hp_new ?_; first | rfl | (simp; done)) | (refine hp_grown G97.out (by have h3 := EG.out; have h4 := HC94.out.size; simp at h4 ⊢; omega) ?_; (repeat' (first | (refine hp_new ?_; first | rfl | (simp; done)) | refine hp_old ?_ | refine hp_below HC94.out ?_ | with_reducible refine hp_drew ?_))) | (refine hp_old ?_; refine hp_grown G97.out (by have h3 := EG.out; have h4 := HC94.out.size; simp at h4 ⊢; omega) ?_; (repeat' (first | (refine hp_new ?_; first | rfl | (simp; done)) | refine hp_old ?_ | refine hp_below HC94.out ?_ | with_reducible refine hp_drew ?_))))); (exact own_below O97.out (by (repeat' (first | exact Below.refl _ _ | assumption | refine Below.drew ?_ | refine below_drewN ?_ _ | refine Below.alloc ?_ (by omega) _ | refine Below.alloc ?_ (by simp; omega) _ | refine Below.alloc ?_ (by simp) _ | refine Below.setCell ?_ (by omega) _ | refine Below.setCell ?_ (by simp; omega) _ | refine Below.setCell ?_ (by simp) _)))); (have := B97.out.size; simp; omega); intro v106 w106 ho106 hg106; have BY := Lib.hid (belOf (w0 := w97) hg106 (by (repeat' (first | exact Below.refl _ _ | assumption | refine Below.drew ?_ | refine below_drewN ?_ _ | refine Below.alloc ?_ (by omega) _ | refine Below.alloc ?_ (by simp; omega) _ | refine Below.alloc ?_ (by simp) _ | refine Below.setCell ?_ (by omega) _ | refine Below.setCell ?_ (by simp; omega) _ | refine Below.setCell ?_ (by simp) _)))); have O94c := Lib.hid ((own_below O94b.out BY.out).kept hg106 (by rcases hv : v94.ownBlock with _ | j; exact .inl rfl; exact .inr (fun e => L97.out j hv e.symm))); have B106 := Lib.hid (show Below w9.heap.size w9 w106 from (B97.out.trans (BY.out.mono B97.out.size)).grown hg106 (by have := B97.out.size; have := BY.out.size; omega) (fun k hk => (own_block O97.out k hk).1)); have O106 := Lib.hid (show RdS (fun k => v106.ownBlock = some k) 2 w106 v106 (jo X).length (enc2 (jo X)) from by rw [HJL.out]; exact ho106); clear ho106 hg106)
            | ((with_reducible refine (sameRefs_c v94 v106 (jo X) _ (RdS.of_own O94c.out).rd O106.out.rd).mono ?_); rintro e w107 ⟨rfl, hb107⟩; have B107 := Lib.hid (B106.out.trans (hb107.mono B106.out.size)); clear hb107)))
          all_goals
            go_wp2
            go_ret
            exact ⟨rfl, T.out.trans (B107.out.mono T.out.size)⟩
    · rw [jaB_f hok]
      clear hok
      go_wp2_with fail
      refine (sameEntries_c _ _ _ _ HO.out.rd HW.out.rd).mono ?_
      rintro e w4 ⟨rfl, hbd⟩
      have HV := Lib.hid (HV.out.below hbd)
      have HK := Lib.hid (HK.out.below hbd)
      have HO := Lib.hid (HO.out.below hbd)
      have HW := Lib.hid (HW.out.below hbd)
      have T := Lib.hid (T.out.trans (hbd.mono T.out.size))
      clear hbd
      go_wp2_with fail
      refine (sameEntries_c _ _ _ _ HO.out.rd HW.out.rd).mono ?_
      rintro e w5 ⟨rfl, hbd⟩
      have HV := Lib.hid (HV.out.below hbd)
      have HK := Lib.hid (HK.out.below hbd)
      have HO := Lib.hid (HO.out.below hbd)
      have HW := Lib.hid (HW.out.below hbd)
      have T := Lib.hid (T.out.trans (hbd.mono T.out.size))
      clear hbd
      go_wp2
      go_ret
      exact ⟨rfl, T.out⟩
end Go.Proofs.Ythnepmhkeceadaa
