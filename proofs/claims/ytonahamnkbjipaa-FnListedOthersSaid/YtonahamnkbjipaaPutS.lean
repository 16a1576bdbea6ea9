/- The walk of the reference's DirectoryPut. -/
import Derived.Test.YtonahamnkbjipaaPut
namespace Go.Proofs.Ytonahamnkbjipaa
open Go.RowKit
theorem step_apps2m {P : Program} (w : World) {ops : Array Oper} {o : Oper} {a : Act} {K : Act → World → Prop} {Q : Exit → Act → World → Prop} {E : Prop} (hgd : o.guard = none) (s x : Operand) (t : TypeId)
    (ho : o.op = .call { callee := .builtin .append, args := #[s, x], argTypes := #[t, t] }) (base : Nat) (e : TypeId) (hu : P.underlying t = some (.slice e))
    (hinfo : (P.info? e).map (fun i => (i.zero, i.size, i.bytes)) = some (some zero2, 2, 16)) (v : Value) (ps : List P2) (hs : a.eval s = v) (hown : w.ownsRow base e 2 v ps.length (enc2 ps))
    (b off m cap : Nat) (qs : List P2) (hm : qs.length = m) (hx : a.eval x = .slice (some ⟨b, off, none⟩) m cap) (hrd : ∀ j u, (enc2 qs)[j]? = some u → w.cell? ⟨b, off + j, none⟩ = some u) (hn : ps.length + qs.length ≤ 1099511627776) (hb : base ≤ w.heap.size)
    (h : ∀ v' w' rs, Hid (rs = ps ++ qs) → rs.length ≤ ps.length + qs.length → w'.ownsRow base e 2 v' rs.length (enc2 rs) → w.grownBy w' v.ownBlock → K (a.put o.dst v') w') :
    if Region.wanted o (yielded ops a.tmps) = true then Oper.wp P o a w K Q else E := by
  subst hm
  exact step_apps2 w hgd s x t ho base e hu hinfo v ps hs hown b off cap qs hx hrd hn hb h
theorem enc2_drop (xs : List P2) : ∀ c : Nat, enc2 (xs.drop c) = (enc2 xs).drop (c * 2) := by
  induction xs with
  | nil => intro c; simp [enc2]
  | cons q r ih =>
    intro c
    cases c with
    | zero => simp [enc2]
    | succ c =>
      have e1 : (c + 1) * 2 = c * 2 + 1 + 1 := by omega
      rw [e1]
      simp only [List.drop_succ_cons, enc2, ih c]
theorem rd_own {w : World} {base e g n cap : Nat} {ps : List P2} (h : w.ownsRow base e 2 (.slice (some ⟨g, 0, none⟩) n cap) n (enc2 ps)) : ∀ j u, (enc2 ps)[j]? = some u → w.cell? ⟨g, j, none⟩ = some u := by
  intro j u hj
  have := h.cells (g := g) rfl j u hj
  have hadd : (⟨g, 0, none⟩ : Addr).add j = ⟨g, 0 + j, none⟩ := by unfold Addr.add; split <;> simp_all
  rw [hadd, Nat.zero_add] at this
  exact this
theorem rd_take {w : World} {base e g n cap : Nat} {ps : List P2} (h : w.ownsRow base e 2 (.slice (some ⟨g, 0, none⟩) n cap) n (enc2 ps)) (k : Nat) (_hk : k ≤ ps.length) : ∀ j u, (enc2 (ps.take k))[j]? = some u → w.cell? ⟨g, 0 + j, none⟩ = some u := by
  intro j u hj
  rw [enc2_take, List.getElem?_take] at hj
  split at hj
  · rw [Nat.zero_add]; exact rd_own h j u hj
  · cases hj
theorem rd_drop {w : World} {base e g n cap : Nat} {ps : List P2} (h : w.ownsRow base e 2 (.slice (some ⟨g, 0, none⟩) n cap) n (enc2 ps)) (k : Nat) (_hk : k ≤ ps.length) : ∀ j u, (enc2 (ps.drop k))[j]? = some u → w.cell? ⟨g, k * 2 + j, none⟩ = some u := by
  intro j u hj
  rw [enc2_drop, List.getElem?_drop] at hj
  exact rd_own h (k * 2 + j) u hj
theorem lit_cells {w : World} {m : Nat} {a b : Int} (h0 : w.cell? ⟨m, 0, none⟩ = some (.int .i64 a)) (h1 : w.cell? ⟨m, 1, none⟩ = some (.int .i64 b)) : ∀ j u, (enc2 [(a, b)])[j]? = some u → w.cell? ⟨m, 0 + j, none⟩ = some u := by
  intro j u hj
  match j, hj with
  | 0, hj => simp [enc2] at hj; subst hj; exact h0
  | 1, hj => simp [enc2] at hj; subst hj; exact h1
theorem step_apps_none {P : Program} (w : World) {ops : Array Oper} {o : Oper} {a : Act} {K : Act → World → Prop} {Q : Exit → Act → World → Prop} {E : Prop} (hgd : o.guard = none) (s x : Operand) (t : TypeId)
    (ho : o.op = .call { callee := .builtin .append, args := #[s, x], argTypes := #[t, t] }) (base : Nat) (e : TypeId) (hu : P.underlying t = some (.slice e))
    (hinfo : (P.info? e).map (fun i => (i.zero, i.size, i.bytes)) = some (some zero2, 2, 16)) (v : Value) (ps : List P2) (hs : a.eval s = v) (hown : w.ownsRow base e 2 v ps.length (enc2 ps))
    (hx : a.eval x = .slice none 0 0) (h : K (a.put o.dst v) w) :
    if Region.wanted o (yielded ops a.tmps) = true then Oper.wp P o a w K Q else E := by
  have hw : Region.wanted o (yielded ops a.tmps) = true := by simp [Region.wanted, hgd]
  rw [if_pos hw]
  obtain ⟨i0, hi, hz0, hz1, hz2⟩ := info_parts hinfo
  have hrun := run_append_owned_none (P := P) (w := w) base t o.type e i0 2 hu hi v ps.length (enc2 ps) hown
  unfold Oper.wp
  simp [execOp, ho, resolve, invoke, builtin, hs, hx, hrun, Result.andThen]
  exact h
theorem ret_ob {v : Value} {a b : Bool} (h : a = b) : Ending.returned (.tuple #[v, .bool a]) = .returned (.tuple #[v, .bool b]) := by rw [h]
theorem enc2_set1 (ps : List P2) (k : Nat) (x y u : Int) (hk : k < ps.length) (h : ps.getD k (0, 0) = (x, y)) : enc2 (ps.set k (x, u)) = (enc2 ps).set (k * 2 + 1) (.int .i64 u) := by
  rw [enc2_set]
  congr 1
  have h1 := (enc2_at ps k (0, 0) hk).1
  rw [h] at h1
  obtain ⟨hl, he⟩ := List.getElem?_eq_some_iff.1 h1
  conv => rhs; rw [← List.set_getElem_self hl]
  rw [he]
set_option maxHeartbeats 3200000 in
theorem specPut_c (v : Value) (ps : List P2) (node now : Int) (w : World) (h : Rd 2 w v ps.length (enc2 ps)) (hs : Sl v) :
    Calls Try.prog 11 #[v, .int .i64 node, .int .i64 now] w (RetOwnB 30 2 (dput ps node now).1.length (enc2 (dput ps node now).1) (dput ps node now).2 w) := by
  by_cases hpa : PutArgs ps node now
  · have h8 := hpa.1.1
    obtain ⟨hdv, ⟨hn1, hn2⟩, hw1, hw2⟩ := id hpa
    have HP := Lib.hid (And.intro hpa (dvB_true hdv))
    have H := Lib.hid h
    clear hpa hdv h
    go_enter Try.func11, Try.ntmps11
    go_wp2_with fail
    refine (specDirValid_c _ ps _ H.out).mono ?_
    rintro e w1 ⟨rfl, hb1⟩
    rw [HP.out.2]
    go_wp2_with fail
    refine (l6In_t node 0 99 _ hn1 hn2).mono ?_
    rintro e _ ⟨rfl, rfl⟩
    go_wp2_with fail
    refine (l6In_t now 0 999 _ hw1 hw2).mono ?_
    rintro e _ ⟨rfl, rfl⟩
    have hb2 := hb1.alloc hb1.size (.cells #[] 30)
    have hR2 := H.out.below hb2
    have hown0 := own_base (own_empty w1 w1.heap.size 30 2 (Nat.le_refl _)) hb1.size
    have hsz2 := hb2.size
    go_wp2_with (at_builtin; refine wpList_apps2 _ rfl _ _ 23 rfl w.heap.size 30 Try.underlying23 info_listed _ [] rfl hown0 _ ps rfl hs hR2 (by simp; omega) hsz2 ?_)
    intro v8 w3 rs hrs hrl hown8 hg8
    obtain rfl : rs = ps := hrs.out
    have hb3 := hb2.grown hg8 hsz2 (fun k hk => (hown0.lt k hk).1)
    clear hb1 hb2 hown0 hg8 hR2 hsz2 hrl hrs
    have HC := Lib.hid (own_cases hown8)
    have HR := Lib.hid (Rd.of_own hown8)
    have HO := Lib.hid hown8
    obtain ⟨a8, c8, rfl⟩ := own_slice hown8
    clear hown8
    have hsz3 := hb3.size
    go_wp2
    go_loop [9] (fun i => ∃ k : Nat, k ≤ rs.length ∧ i = .int .i64 k ∧ Hid (∀ j, j < k → (rs.getD j (0, 0)).1 ≠ node)) (fun i => rs.length - (intOf i).toNat)
    case atStart => exact ⟨0, Nat.zero_le _, rfl, fun j hj => absurd hj (Nat.not_lt_zero _)⟩
    case round =>
      obtain ⟨k, hk, rfl, HN⟩ := hrel
      by_cases hlt : k < rs.length
      · obtain ⟨g, cap, hv8, hgb, hgw, hnc, hcm⟩ : ∃ g cap, Value.slice a8 rs.length c8 = .slice (some ⟨g, 0, none⟩) rs.length cap ∧ w.heap.size ≤ g ∧ g < w3.heap.size ∧ rs.length ≤ cap ∧ cap ≤ maxLen := by
          rcases HC.out with ⟨-, h0, -⟩ | ⟨g, cap, h1, h2, h3, h4, h5⟩
          · omega
          · exact ⟨g, cap, h1, h2, h3, h4, h5⟩
        simp only [Value.slice.injEq, true_and] at hv8
        obtain ⟨rfl, rfl⟩ := hv8
        obtain ⟨x, y, hxy⟩ : ∃ x y, rs.getD k (0, 0) = (x, y) := ⟨_, _, rfl⟩
        have hat := enc2_at rs k (0, 0) hlt
        rw [hxy] at hat
        have u1 := (HO.out.cellAt (k * 2) (by omega)).trans hat.1
        have u2 := (HO.out.cellAt (k * 2 + 1) (by omega)).trans hat.2
        have f2 := HO.out.frozenAt (k * 2 + 1)
        have HXY := Lib.hid hxy
        simp only [] at u1 u2
        clear hat hxy
        by_cases hxn : x = node
        · have hxe : (x == node) = true := by simpa using hxn
          have HXN := Lib.hid hxn
          clear hxn
          have hd := dput_at HP.out.1 k hlt (by rw [HXY.out]; exact HXN.out) HN.out
          by_cases hmx : y < now
          · have hd' : dput rs node now = (rs.set k (x, now), true) := by rw [hd]; unfold upd; rw [HXY.out]; simp [Int.max_eq_right (Int.le_of_lt hmx)]
            have HD := Lib.hid hd'
            clear hd hd'
            go_wp2
            all_goals try omega
            all_goals
              go_ret2
              refine ⟨_, ret_ob (by rw [HD.out]), ?_, hb3.setCell hgb _⟩
              rw [HD.out]
              simp only [List.length_set]
              rw [enc2_set1 rs k x y now hlt HXY.out]
              exact (HO.out.stored (k * 2 + 1) _).1
          · have hmy : now ≤ y := by omega
            have hd' : dput rs node now = (rs.set k (x, y), true) := by rw [hd]; unfold upd; rw [HXY.out]; simp [Int.max_eq_left hmy]
            have HD := Lib.hid hd'
            clear hd hd' hmx
            go_wp2
            all_goals try omega
            all_goals
              go_ret2
              refine ⟨_, ret_ob (by rw [HD.out]), ?_, hb3.setCell hgb _⟩
              rw [HD.out]
              simp only [List.length_set]
              rw [enc2_set1 rs k x y y hlt HXY.out]
              exact (HO.out.stored (k * 2 + 1) _).1
        · have hxe : (x == node) = false := by simpa using hxn
          have HXN := Lib.hid hxn
          clear hxn
          go_wp2
          go_round
          case rel =>
            refine ⟨k + 1, by omega, by go_num, fun j hj => ?_⟩
            by_cases e : j = k
            · subst e; rw [HXY.out]; exact HXN.out
            · exact HN.out j (by omega)
          case measure => simp [intOf]; omega
      · have hd := dput_none HP.out.1 (fun j hj => HN.out j (by omega))
        by_cases h8' : rs.length < 8
        · have hr : room now rs = rs := by unfold room; rw [if_neg (by omega)]
          rw [hr, if_neg (by omega)] at hd
          have HD := Lib.hid hd
          clear hd hr
          have HT := Lib.hid (HO.out)
          have hTsz := hb3.size
          clear HC HR HO
          go_wp2
          go_loop [10] (fun i => ∃ k : Nat, k ≤ rs.length ∧ i = .int .i64 k ∧ Hid (∀ j, j < k → (rs.getD j (0, 0)).1 < node)) (fun i => rs.length - (intOf i).toNat)
          case atStart => exact ⟨0, Nat.zero_le _, rfl, fun j hj => absurd hj (Nat.not_lt_zero _)⟩
          case round =>
            obtain ⟨k, hk, rfl, HL⟩ := hrel
            by_cases hlt : k < rs.length
            · obtain ⟨g, cap, hvq, hgb, hgw, hnc, hcm⟩ : ∃ g cap, Value.slice a8 rs.length c8 = .slice (some ⟨g, 0, none⟩) rs.length cap ∧ w.heap.size ≤ g ∧ g < w3.heap.size ∧ rs.length ≤ cap ∧ cap ≤ maxLen := by
                rcases own_cases HT.out with ⟨-, h0, -⟩ | ⟨g, cap, h1, h2, h3, h4, h5⟩
                · omega
                · exact ⟨g, cap, h1, h2, h3, h4, h5⟩
              simp only [Value.slice.injEq, true_and] at hvq
              obtain ⟨rfl, rfl⟩ := hvq
              obtain ⟨x, y, hxy⟩ : ∃ x y, rs.getD k (0, 0) = (x, y) := ⟨_, _, rfl⟩
              have hat := (enc2_at rs k (0, 0) hlt).1
              rw [hxy] at hat
              have u1 := (HT.out.cellAt (k * 2) (by omega)).trans hat
              have HXY := Lib.hid hxy
              simp only [] at u1
              clear hat hxy
              by_cases hxn : x < node
              · go_wp2
                go_round
                case rel =>
                  refine ⟨k + 1, by omega, by go_num, fun j hj => ?_⟩
                  by_cases e : j = k
                  · subst e; rw [HXY.out]; exact hxn
                  · exact HL.out j (by omega)
                case measure => simp [intOf]; omega
              · have hlb : lbd node rs = k := lbd_at hk HL.out (fun _ => by rw [HXY.out]; simp only []; omega)
                have hlen1 : (rs.take k).length = k := List.length_take_of_le hk
                have hlen2 : (rs.drop k).length = rs.length - k := List.length_drop
                have hrd1 : ∀ j u, (enc2 (rs.take k))[j]? = some u → w3.cell? ⟨g, 0 + j, none⟩ = some u := rd_take HT.out k hk
                have hrd2 : ∀ j u, (enc2 (rs.drop k))[j]? = some u → w3.cell? ⟨g, k * 2 + j, none⟩ = some u := rd_drop HT.out k hk
                have HZ := Lib.hid (And.intro hlb (And.intro hlen1 (And.intro hlen2 (And.intro hrd1 hrd2))))
                clear hlb hlen1 hlen2 hrd1 hrd2
                have hkc : k < c8 := by omega
                have hkc1 : k ≤ c8 := by omega
                have hkc2 : ¬ c8 = k := by omega
                unfold maxLen at hcm
                go_wp2
                go_region_law (first
                  | (refine step_apps2m _ rfl (.tmp 78) (.tmp 81) 23 rfl w3.heap.size 30 Try.underlying23 info_listed (.slice (some ⟨_, 0, none⟩) 0 0) [] rfl (by first | exact own_empty w3 _ _ _ (Nat.le_refl _) | exact (own_empty w3 _ _ _ (Nat.le_refl _)).alloc _ | (have e := own_empty (w3.alloc (.cells #[.int .i64 node, .int .i64 now] 30)) w3.heap.size 30 2 (by simp); simp only [World.size_alloc] at e; exact e)) g 0 k c8 (rs.take k) HZ.out.2.1 rfl (fun j u hj => cell_keep (w := w3) (by (repeat' (first | exact Below.refl _ _ | assumption | refine Below.drew ?_ | refine below_drewN ?_ _ | refine Below.alloc ?_ (by omega) _ | refine Below.alloc ?_ (by simp; omega) _ | refine Below.alloc ?_ (by simp) _ | refine Below.setCell ?_ (by omega) _ | refine Below.setCell ?_ (by simp; omega) _ | refine Below.setCell ?_ (by simp) _))) (HZ.out.2.2.2.1 j u hj)) (by simp; omega) (by first | omega | (simp; done) | (simp; omega)) ?_; intro v82 w82 r82 h82 l82 o82 g82; have m82 : r82.length ≤ 8 := (by have e := l82; rw [HZ.out.2.1] at e; simp only [List.length_nil] at e; omega); clear l82; have b82 : Below w3.heap.size w3 w82 := Below.grown (by (repeat' (first | exact Below.refl _ _ | assumption | refine Below.drew ?_ | refine below_drewN ?_ _ | refine Below.alloc ?_ (by omega) _ | refine Below.alloc ?_ (by simp; omega) _ | refine Below.alloc ?_ (by simp) _ | refine Below.setCell ?_ (by omega) _ | refine Below.setCell ?_ (by simp; omega) _ | refine Below.setCell ?_ (by simp) _))) g82 (by first | omega | (simp; done) | (simp; omega)) (fun k hk => by simp [Value.ownBlock] at hk; omega); have z82 := b82.size)
                  | (refine step_apps2m _ rfl (.tmp 82) (.tmp 86) 23 rfl w3.heap.size 30 Try.underlying23 info_listed v82 r82 rfl (by first | exact o82 | exact o82.alloc _) _ 0 1 _ [(node, now)] rfl rfl (by first | exact lit_cells (by simp) (by simp) | exact lit_cells (g82.cell (by simp) (by simp [Value.ownBlock])) (g82.cell (by simp) (by simp [Value.ownBlock]))) (by simp; omega) (by first | omega | (simp; done) | (simp; omega)) ?_; intro v87 w87 r87 h87 l87 o87 g87; have m87 : r87.length ≤ 9 := (by have e := l87; simp only [List.length_cons, List.length_nil] at e; omega); clear l87; have b87 : Below w3.heap.size w3 w87 := Below.grown (by (repeat' (first | exact Below.refl _ _ | assumption | refine Below.drew ?_ | refine below_drewN ?_ _ | refine Below.alloc ?_ (by omega) _ | refine Below.alloc ?_ (by simp; omega) _ | refine Below.alloc ?_ (by simp) _ | refine Below.setCell ?_ (by omega) _ | refine Below.setCell ?_ (by simp; omega) _ | refine Below.setCell ?_ (by simp) _))) g87 (by first | omega | (simp; done) | (simp; omega)) (fun k hk => (o82.lt k hk).1); have z87 := b87.size)
                  | (refine step_apps2m _ rfl (.tmp 87) (.tmp 90) 23 rfl w3.heap.size 30 Try.underlying23 info_listed v87 r87 rfl o87 g (k * 2) (rs.length - k) (c8 - k) (rs.drop k) HZ.out.2.2.1 rfl (fun j u hj => cell_keep b87 (HZ.out.2.2.2.2 j u hj)) (by rw [HZ.out.2.2.1]; omega) (by omega) ?_; intro v91 w91 r91 h91 l91 o91 g91; have b91 : Below w3.heap.size w3 w91 := b87.grown g91 z87 (fun k hk => (o87.lt k hk).1)))
                all_goals
                  have HF : Hid (r91 = ins node now rs) := by
                    show r91 = ins node now rs
                    rw [h91.out, h87.out, h82.out]
                    unfold ins
                    rw [HZ.out.1]
                    simp
                  go_wp2
                  go_ret2
                  exact ⟨_, ret_ob (by rw [HD.out]), by rw [HD.out]; simp only []; rw [← HF.out]; exact own_base o91 hTsz, hb3.trans (b91.mono hTsz)⟩
            · obtain rfl : k = rs.length := by omega
              have hlb : lbd node rs = rs.length := lbd_at (Nat.le_refl _) HL.out (fun h => absurd h (Nat.lt_irrefl _))
              have HLB := Lib.hid hlb
              clear hlb
              rcases own_cases HT.out with ⟨hvq, h0, hq0⟩ | ⟨g, cap, hvq, hgb, hgw, hnc, hcm⟩
              · simp only [Value.slice.injEq] at hvq
                obtain ⟨rfl, -, rfl⟩ := hvq
                have hqe : rs = [] := List.eq_nil_of_length_eq_zero h0
                have HZ := Lib.hid (And.intro HLB.out hqe)
                have h00 : rs.length = 0 := h0
                obtain ⟨Z, hZ⟩ : ∃ Z, rs.length = Z := ⟨_, rfl⟩
                clear hq0 hqe HLB h0 hZ Z
                go_wp2
                go_region_law (first
                  | (refine step_apps_none _ rfl (.tmp 78) (.tmp 81) 23 rfl w3.heap.size 30 Try.underlying23 info_listed (.slice (some ⟨_, 0, none⟩) 0 0) [] rfl (by first | exact own_empty w3 _ _ _ (Nat.le_refl _) | exact (own_empty w3 _ _ _ (Nat.le_refl _)).alloc _ | (have e := own_empty (w3.alloc (.cells #[.int .i64 node, .int .i64 now] 30)) w3.heap.size 30 2 (by simp); simp only [World.size_alloc] at e; exact e)) rfl ?_; have o82 : Hid True := trivial)
                  | (refine step_apps2m _ rfl (.tmp 82) (.tmp 86) 23 rfl w3.heap.size 30 Try.underlying23 info_listed (.slice (some ⟨_, 0, none⟩) 0 0) [] rfl (by first | exact own_empty w3 _ _ _ (Nat.le_refl _) | exact (own_empty w3 _ _ _ (Nat.le_refl _)).alloc _ | (have e := own_empty (w3.alloc (.cells #[.int .i64 node, .int .i64 now] 30)) w3.heap.size 30 2 (by simp); simp only [World.size_alloc] at e; exact e)) _ 0 1 _ [(node, now)] rfl rfl (by exact lit_cells (by simp) (by simp)) (by simp) (by first | omega | (simp; done) | (simp; omega)) ?_; intro v87 w87 r87 h87 l87 o87 g87; have b87 : Below w3.heap.size w3 w87 := Below.grown (by (repeat' (first | exact Below.refl _ _ | assumption | refine Below.drew ?_ | refine below_drewN ?_ _ | refine Below.alloc ?_ (by omega) _ | refine Below.alloc ?_ (by simp; omega) _ | refine Below.alloc ?_ (by simp) _ | refine Below.setCell ?_ (by omega) _ | refine Below.setCell ?_ (by simp; omega) _ | refine Below.setCell ?_ (by simp) _))) g87 (by first | omega | (simp; done) | (simp; omega)) (fun k hk => by simp [Value.ownBlock] at hk; omega); have z87 := b87.size)
                  | (refine step_apps_none _ rfl (.tmp 87) (.tmp 90) 23 rfl w3.heap.size 30 Try.underlying23 info_listed v87 r87 rfl o87 rfl ?_; have o91 : Hid True := trivial))
                all_goals
                  have HF : Hid (r87 = ins node now rs) := by
                    show r87 = ins node now rs
                    rw [h87.out, HZ.out.2]
                    rfl
                  go_wp2
                  go_ret2
                  exact ⟨_, ret_ob (by rw [HD.out]), by rw [HD.out]; simp only []; rw [← HF.out]; exact own_base o87 hTsz, hb3.trans (b87.mono hTsz)⟩
              · simp only [Value.slice.injEq, true_and] at hvq
                obtain ⟨rfl, rfl⟩ := hvq
                have hlen1 : (rs.take rs.length).length = rs.length := List.length_take_of_le (Nat.le_refl _)
                have hrd1 : ∀ j u, (enc2 (rs.take rs.length))[j]? = some u → w3.cell? ⟨g, 0 + j, none⟩ = some u := rd_take HT.out _ (Nat.le_refl _)
                have HZ := Lib.hid (And.intro HLB.out (And.intro hlen1 (And.intro hlen1 (And.intro hrd1 hrd1))))
                clear hlen1 hrd1 HLB
                unfold maxLen at hcm
                by_cases hcc : c8 = rs.length
                · subst hcc
                  go_wp2
                  go_region_law (first
                    | (refine step_apps2m _ rfl (.tmp 78) (.tmp 81) 23 rfl w3.heap.size 30 Try.underlying23 info_listed (.slice (some ⟨_, 0, none⟩) 0 0) [] rfl (by first | exact own_empty w3 _ _ _ (Nat.le_refl _) | exact (own_empty w3 _ _ _ (Nat.le_refl _)).alloc _ | (have e := own_empty (w3.alloc (.cells #[.int .i64 node, .int .i64 now] 30)) w3.heap.size 30 2 (by simp); simp only [World.size_alloc] at e; exact e)) g 0 rs.length rs.length (rs.take rs.length) HZ.out.2.1 rfl (fun j u hj => cell_keep (w := w3) (by (repeat' (first | exact Below.refl _ _ | assumption | refine Below.drew ?_ | refine below_drewN ?_ _ | refine Below.alloc ?_ (by omega) _ | refine Below.alloc ?_ (by simp; omega) _ | refine Below.alloc ?_ (by simp) _ | refine Below.setCell ?_ (by omega) _ | refine Below.setCell ?_ (by simp; omega) _ | refine Below.setCell ?_ (by simp) _))) (HZ.out.2.2.2.1 j u hj)) (by simp; omega) (by first | omega | (simp; done) | (simp; omega)) ?_; intro v82 w82 r82 h82 l82 o82 g82; have m82 : r82.length ≤ 8 := (by have e := l82; rw [HZ.out.2.1] at e; simp only [List.length_nil] at e; omega); clear l82; have b82 : Below w3.heap.size w3 w82 := Below.grown (by (repeat' (first | exact Below.refl _ _ | assumption | refine Below.drew ?_ | refine below_drewN ?_ _ | refine Below.alloc ?_ (by omega) _ | refine Below.alloc ?_ (by simp; omega) _ | refine Below.alloc ?_ (by simp) _ | refine Below.setCell ?_ (by omega) _ | refine Below.setCell ?_ (by simp; omega) _ | refine Below.setCell ?_ (by simp) _))) g82 (by first | omega | (simp; done) | (simp; omega)) (fun k hk => by simp [Value.ownBlock] at hk; omega); have z82 := b82.size)
                    | (refine step_apps2m _ rfl (.tmp 82) (.tmp 86) 23 rfl w3.heap.size 30 Try.underlying23 info_listed v82 r82 rfl (by first | exact o82 | exact o82.alloc _) _ 0 1 _ [(node, now)] rfl rfl (by first | exact lit_cells (by simp) (by simp) | exact lit_cells (g82.cell (by simp) (by simp [Value.ownBlock])) (g82.cell (by simp) (by simp [Value.ownBlock]))) (by simp; omega) (by first | omega | (simp; done) | (simp; omega)) ?_; intro v87 w87 r87 h87 l87 o87 g87; have m87 : r87.length ≤ 9 := (by have e := l87; simp only [List.length_cons, List.length_nil] at e; omega); clear l87; have b87 : Below w3.heap.size w3 w87 := Below.grown (by (repeat' (first | exact Below.refl _ _ | assumption | refine Below.drew ?_ | refine below_drewN ?_ _ | refine Below.alloc ?_ (by omega) _ | refine Below.alloc ?_ (by simp; omega) _ | refine Below.alloc ?_ (by simp) _ | refine Below.setCell ?_ (by omega) _ | refine Below.setCell ?_ (by simp; omega) _ | refine Below.setCell ?_ (by simp) _))) g87 (by first | omega | (simp; done) | (simp; omega)) (fun k hk => (o82.lt k hk).1); have z87 := b87.size)
                    | (refine step_apps2m _ rfl (.tmp 87) (.tmp 90) 23 rfl w3.heap.size 30 Try.underlying23 info_listed v87 r87 rfl o87 g 0 0 0 [] rfl rfl (fun j u hj => by simp [enc2] at hj) (by simp; omega) (by omega) ?_; intro v91 w91 r91 h91 l91 o91 g91; have b91 : Below w3.heap.size w3 w91 := b87.grown g91 z87 (fun k hk => (o87.lt k hk).1)))
                  all_goals
                    have HF : Hid (r91 = ins node now rs) := by
                      show r91 = ins node now rs
                      rw [h91.out, h87.out, h82.out]
                      unfold ins
                      rw [HZ.out.1]
                      simp
                    go_wp2
                    go_ret2
                    exact ⟨_, ret_ob (by rw [HD.out]), by rw [HD.out]; simp only []; rw [← HF.out]; exact own_base o91 hTsz, hb3.trans (b91.mono hTsz)⟩
                · have hcn : rs.length < c8 := by omega
                  go_wp2
                  go_region_law (first
                    | (refine step_apps2m _ rfl (.tmp 78) (.tmp 81) 23 rfl w3.heap.size 30 Try.underlying23 info_listed (.slice (some ⟨_, 0, none⟩) 0 0) [] rfl (by first | exact own_empty w3 _ _ _ (Nat.le_refl _) | exact (own_empty w3 _ _ _ (Nat.le_refl _)).alloc _ | (have e := own_empty (w3.alloc (.cells #[.int .i64 node, .int .i64 now] 30)) w3.heap.size 30 2 (by simp); simp only [World.size_alloc] at e; exact e)) g 0 rs.length c8 (rs.take rs.length) HZ.out.2.1 rfl (fun j u hj => cell_keep (w := w3) (by (repeat' (first | exact Below.refl _ _ | assumption | refine Below.drew ?_ | refine below_drewN ?_ _ | refine Below.alloc ?_ (by omega) _ | refine Below.alloc ?_ (by simp; omega) _ | refine Below.alloc ?_ (by simp) _ | refine Below.setCell ?_ (by omega) _ | refine Below.setCell ?_ (by simp; omega) _ | refine Below.setCell ?_ (by simp) _))) (HZ.out.2.2.2.1 j u hj)) (by simp; omega) (by first | omega | (simp; done) | (simp; omega)) ?_; intro v82 w82 r82 h82 l82 o82 g82; have m82 : r82.length ≤ 8 := (by have e := l82; rw [HZ.out.2.1] at e; simp only [List.length_nil] at e; omega); clear l82; have b82 : Below w3.heap.size w3 w82 := Below.grown (by (repeat' (first | exact Below.refl _ _ | assumption | refine Below.drew ?_ | refine below_drewN ?_ _ | refine Below.alloc ?_ (by omega) _ | refine Below.alloc ?_ (by simp; omega) _ | refine Below.alloc ?_ (by simp) _ | refine Below.setCell ?_ (by omega) _ | refine Below.setCell ?_ (by simp; omega) _ | refine Below.setCell ?_ (by simp) _))) g82 (by first | omega | (simp; done) | (simp; omega)) (fun k hk => by simp [Value.ownBlock] at hk; omega); have z82 := b82.size)
                    | (refine step_apps2m _ rfl (.tmp 82) (.tmp 86) 23 rfl w3.heap.size 30 Try.underlying23 info_listed v82 r82 rfl (by first | exact o82 | exact o82.alloc _) _ 0 1 _ [(node, now)] rfl rfl (by first | exact lit_cells (by simp) (by simp) | exact lit_cells (g82.cell (by simp) (by simp [Value.ownBlock])) (g82.cell (by simp) (by simp [Value.ownBlock]))) (by simp; omega) (by first | omega | (simp; done) | (simp; omega)) ?_; intro v87 w87 r87 h87 l87 o87 g87; have m87 : r87.length ≤ 9 := (by have e := l87; simp only [List.length_cons, List.length_nil] at e; omega); clear l87; have b87 : Below w3.heap.size w3 w87 := Below.grown (by (repeat' (first | exact Below.refl _ _ | assumption | refine Below.drew ?_ | refine below_drewN ?_ _ | refine Below.alloc ?_ (by omega) _ | refine Below.alloc ?_ (by simp; omega) _ | refine Below.alloc ?_ (by simp) _ | refine Below.setCell ?_ (by omega) _ | refine Below.setCell ?_ (by simp; omega) _ | refine Below.setCell ?_ (by simp) _))) g87 (by first | omega | (simp; done) | (simp; omega)) (fun k hk => (o82.lt k hk).1); have z87 := b87.size)
                    | (refine step_apps2m _ rfl (.tmp 87) (.tmp 90) 23 rfl w3.heap.size 30 Try.underlying23 info_listed v87 r87 rfl o87 g (rs.length * 2) 0 (c8 - rs.length) [] rfl rfl (fun j u hj => by simp [enc2] at hj) (by simp; omega) (by omega) ?_; intro v91 w91 r91 h91 l91 o91 g91; have b91 : Below w3.heap.size w3 w91 := b87.grown g91 z87 (fun k hk => (o87.lt k hk).1)))
                  all_goals
                    have HF : Hid (r91 = ins node now rs) := by
                      show r91 = ins node now rs
                      rw [h91.out, h87.out, h82.out]
                      unfold ins
                      rw [HZ.out.1]
                      simp
                    go_wp2
                    go_ret2
                    exact ⟨_, ret_ob (by rw [HD.out]), by rw [HD.out]; simp only []; rw [← HF.out]; exact own_base o91 hTsz, hb3.trans (b91.mono hTsz)⟩
        · have e8 : rs.length = 8 := by omega
          have hr : room now rs = sw now rs := by unfold room; rw [if_pos (by omega)]
          rw [hr] at hd
          have HD := Lib.hid hd
          have hge8 : 8 ≤ rs.length := by omega
          clear hd hr e8
          go_wp2_with fail
          refine (specSweep0_c _ rs now _ (H.out.below hb3) HP.out.1.1.times (by omega)).mono ?_
          rintro e w4 ⟨v9, rfl, hown9, hb4⟩
          have hb4' := hb3.trans (hb4.mono hb3.size)
          have hown9' := own_base hown9 hb3.size
          obtain ⟨qs, hqs⟩ : ∃ qs, sw now rs = qs := ⟨_, rfl⟩
          have hql : qs.length ≤ 8 := by rw [← hqs]; have := sw_le now rs; omega
          rw [hqs] at hown9'
          have HQ := Lib.hid hqs
          clear hown9 hb4 hqs
          by_cases hq8 : 8 ≤ qs.length
          · have hd' : dput rs node now = (qs, false) := by rw [HD.out, HQ.out, if_pos hq8]
            have HD2 := Lib.hid hd'
            obtain ⟨a9, c9, rfl⟩ := own_slice hown9'
            have HO9 := Lib.hid hown9'
            clear hd' hown9'
            go_wp2
            go_ret2
            exact ⟨_, ret_ob (by rw [HD2.out]), by rw [HD2.out]; exact HO9.out, hb4'⟩
          · have hd' : dput rs node now = (ins node now qs, true) := by rw [HD.out, HQ.out, if_neg hq8]
            have HD2 := Lib.hid hd'
            obtain ⟨a9, c9, rfl⟩ := own_slice hown9'
            clear hd'
            have HT := Lib.hid (hown9')
            have hTsz := hb4'.size
            clear HC HR HO hown9'
            go_wp2
            go_loop [10] (fun i => ∃ k : Nat, k ≤ qs.length ∧ i = .int .i64 k ∧ Hid (∀ j, j < k → (qs.getD j (0, 0)).1 < node)) (fun i => qs.length - (intOf i).toNat)
            case atStart => exact ⟨0, Nat.zero_le _, rfl, fun j hj => absurd hj (Nat.not_lt_zero _)⟩
            case round =>
              obtain ⟨k, hk, rfl, HL⟩ := hrel
              by_cases hlt : k < qs.length
              · obtain ⟨g, cap, hvq, hgb, hgw, hnc, hcm⟩ : ∃ g cap, Value.slice a9 qs.length c9 = .slice (some ⟨g, 0, none⟩) qs.length cap ∧ w.heap.size ≤ g ∧ g < w4.heap.size ∧ qs.length ≤ cap ∧ cap ≤ maxLen := by
                  rcases own_cases HT.out with ⟨-, h0, -⟩ | ⟨g, cap, h1, h2, h3, h4, h5⟩
                  · omega
                  · exact ⟨g, cap, h1, h2, h3, h4, h5⟩
                simp only [Value.slice.injEq, true_and] at hvq
                obtain ⟨rfl, rfl⟩ := hvq
                obtain ⟨x, y, hxy⟩ : ∃ x y, qs.getD k (0, 0) = (x, y) := ⟨_, _, rfl⟩
                have hat := (enc2_at qs k (0, 0) hlt).1
                rw [hxy] at hat
                have u1 := (HT.out.cellAt (k * 2) (by omega)).trans hat
                have HXY := Lib.hid hxy
                simp only [] at u1
                clear hat hxy
                by_cases hxn : x < node
                · go_wp2
                  go_round
                  case rel =>
                    refine ⟨k + 1, by omega, by go_num, fun j hj => ?_⟩
                    by_cases e : j = k
                    · subst e; rw [HXY.out]; exact hxn
                    · exact HL.out j (by omega)
                  case measure => simp [intOf]; omega
                · have hlb : lbd node qs = k := lbd_at hk HL.out (fun _ => by rw [HXY.out]; simp only []; omega)
                  have hlen1 : (qs.take k).length = k := List.length_take_of_le hk
                  have hlen2 : (qs.drop k).length = qs.length - k := List.length_drop
                  have hrd1 : ∀ j u, (enc2 (qs.take k))[j]? = some u → w4.cell? ⟨g, 0 + j, none⟩ = some u := rd_take HT.out k hk
                  have hrd2 : ∀ j u, (enc2 (qs.drop k))[j]? = some u → w4.cell? ⟨g, k * 2 + j, none⟩ = some u := rd_drop HT.out k hk
                  have HZ := Lib.hid (And.intro hlb (And.intro hlen1 (And.intro hlen2 (And.intro hrd1 hrd2))))
                  clear hlb hlen1 hlen2 hrd1 hrd2
                  have hkc : k < c9 := by omega
                  have hkc1 : k ≤ c9 := by omega
                  have hkc2 : ¬ c9 = k := by omega
                  unfold maxLen at hcm
                  go_wp2
                  go_region_law (first
                    | (refine step_apps2m _ rfl (.tmp 78) (.tmp 81) 23 rfl w4.heap.size 30 Try.underlying23 info_listed (.slice (some ⟨_, 0, none⟩) 0 0) [] rfl (by first | exact own_empty w4 _ _ _ (Nat.le_refl _) | exact (own_empty w4 _ _ _ (Nat.le_refl _)).alloc _ | (have e := own_empty (w4.alloc (.cells #[.int .i64 node, .int .i64 now] 30)) w4.heap.size 30 2 (by simp); simp only [World.size_alloc] at e; exact e)) g 0 k c9 (qs.take k) HZ.out.2.1 rfl (fun j u hj => cell_keep (w := w4) (by (repeat' (first | exact Below.refl _ _ | assumption | refine Below.drew ?_ | refine below_drewN ?_ _ | refine Below.alloc ?_ (by omega) _ | refine Below.alloc ?_ (by simp; omega) _ | refine Below.alloc ?_ (by simp) _ | refine Below.setCell ?_ (by omega) _ | refine Below.setCell ?_ (by simp; omega) _ | refine Below.setCell ?_ (by simp) _))) (HZ.out.2.2.2.1 j u hj)) (by simp; omega) (by first | omega | (simp; done) | (simp; omega)) ?_; intro v82 w82 r82 h82 l82 o82 g82; have m82 : r82.length ≤ 8 := (by have e := l82; rw [HZ.out.2.1] at e; simp only [List.length_nil] at e; omega); clear l82; have b82 : Below w4.heap.size w4 w82 := Below.grown (by (repeat' (first | exact Below.refl _ _ | assumption | refine Below.drew ?_ | refine below_drewN ?_ _ | refine Below.alloc ?_ (by omega) _ | refine Below.alloc ?_ (by simp; omega) _ | refine Below.alloc ?_ (by simp) _ | refine Below.setCell ?_ (by omega) _ | refine Below.setCell ?_ (by simp; omega) _ | refine Below.setCell ?_ (by simp) _))) g82 (by first | omega | (simp; done) | (simp; omega)) (fun k hk => by simp [Value.ownBlock] at hk; omega); have z82 := b82.size)
                    | (refine step_apps2m _ rfl (.tmp 82) (.tmp 86) 23 rfl w4.heap.size 30 Try.underlying23 info_listed v82 r82 rfl (by first | exact o82 | exact o82.alloc _) _ 0 1 _ [(node, now)] rfl rfl (by first | exact lit_cells (by simp) (by simp) | exact lit_cells (g82.cell (by simp) (by simp [Value.ownBlock])) (g82.cell (by simp) (by simp [Value.ownBlock]))) (by simp; omega) (by first | omega | (simp; done) | (simp; omega)) ?_; intro v87 w87 r87 h87 l87 o87 g87; have m87 : r87.length ≤ 9 := (by have e := l87; simp only [List.length_cons, List.length_nil] at e; omega); clear l87; have b87 : Below w4.heap.size w4 w87 := Below.grown (by (repeat' (first | exact Below.refl _ _ | assumption | refine Below.drew ?_ | refine below_drewN ?_ _ | refine Below.alloc ?_ (by omega) _ | refine Below.alloc ?_ (by simp; omega) _ | refine Below.alloc ?_ (by simp) _ | refine Below.setCell ?_ (by omega) _ | refine Below.setCell ?_ (by simp; omega) _ | refine Below.setCell ?_ (by simp) _))) g87 (by first | omega | (simp; done) | (simp; omega)) (fun k hk => (o82.lt k hk).1); have z87 := b87.size)
                    | (refine step_apps2m _ rfl (.tmp 87) (.tmp 90) 23 rfl w4.heap.size 30 Try.underlying23 info_listed v87 r87 rfl o87 g (k * 2) (qs.length - k) (c9 - k) (qs.drop k) HZ.out.2.2.1 rfl (fun j u hj => cell_keep b87 (HZ.out.2.2.2.2 j u hj)) (by rw [HZ.out.2.2.1]; omega) (by omega) ?_; intro v91 w91 r91 h91 l91 o91 g91; have b91 : Below w4.heap.size w4 w91 := b87.grown g91 z87 (fun k hk => (o87.lt k hk).1)))
                  all_goals
                    have HF : Hid (r91 = ins node now qs) := by
                      show r91 = ins node now qs
                      rw [h91.out, h87.out, h82.out]
                      unfold ins
                      rw [HZ.out.1]
                      simp
                    go_wp2
                    go_ret2
                    exact ⟨_, ret_ob (by rw [HD2.out]), by rw [HD2.out]; simp only []; rw [← HF.out]; exact own_base o91 hTsz, hb4'.trans (b91.mono hTsz)⟩
              · obtain rfl : k = qs.length := by omega
                have hlb : lbd node qs = qs.length := lbd_at (Nat.le_refl _) HL.out (fun h => absurd h (Nat.lt_irrefl _))
                have HLB := Lib.hid hlb
                clear hlb
                rcases own_cases HT.out with ⟨hvq, h0, hq0⟩ | ⟨g, cap, hvq, hgb, hgw, hnc, hcm⟩
                · simp only [Value.slice.injEq] at hvq
                  obtain ⟨rfl, -, rfl⟩ := hvq
                  have hqe : qs = [] := List.eq_nil_of_length_eq_zero h0
                  have HZ := Lib.hid (And.intro HLB.out hqe)
                  have h00 : qs.length = 0 := h0
                  obtain ⟨Z, hZ⟩ : ∃ Z, qs.length = Z := ⟨_, rfl⟩
                  clear hq0 hqe HLB h0 hZ Z
                  go_wp2
                  go_region_law (first
                    | (refine step_apps_none _ rfl (.tmp 78) (.tmp 81) 23 rfl w4.heap.size 30 Try.underlying23 info_listed (.slice (some ⟨_, 0, none⟩) 0 0) [] rfl (by first | exact own_empty w4 _ _ _ (Nat.le_refl _) | exact (own_empty w4 _ _ _ (Nat.le_refl _)).alloc _ | (have e := own_empty (w4.alloc (.cells #[.int .i64 node, .int .i64 now] 30)) w4.heap.size 30 2 (by simp); simp only [World.size_alloc] at e; exact e)) rfl ?_; have o82 : Hid True := trivial)
                    | (refine step_apps2m _ rfl (.tmp 82) (.tmp 86) 23 rfl w4.heap.size 30 Try.underlying23 info_listed (.slice (some ⟨_, 0, none⟩) 0 0) [] rfl (by first | exact own_empty w4 _ _ _ (Nat.le_refl _) | exact (own_empty w4 _ _ _ (Nat.le_refl _)).alloc _ | (have e := own_empty (w4.alloc (.cells #[.int .i64 node, .int .i64 now] 30)) w4.heap.size 30 2 (by simp); simp only [World.size_alloc] at e; exact e)) _ 0 1 _ [(node, now)] rfl rfl (by exact lit_cells (by simp) (by simp)) (by simp) (by first | omega | (simp; done) | (simp; omega)) ?_; intro v87 w87 r87 h87 l87 o87 g87; have b87 : Below w4.heap.size w4 w87 := Below.grown (by (repeat' (first | exact Below.refl _ _ | assumption | refine Below.drew ?_ | refine below_drewN ?_ _ | refine Below.alloc ?_ (by omega) _ | refine Below.alloc ?_ (by simp; omega) _ | refine Below.alloc ?_ (by simp) _ | refine Below.setCell ?_ (by omega) _ | refine Below.setCell ?_ (by simp; omega) _ | refine Below.setCell ?_ (by simp) _))) g87 (by first | omega | (simp; done) | (simp; omega)) (fun k hk => by simp [Value.ownBlock] at hk; omega); have z87 := b87.size)
                    | (refine step_apps_none _ rfl (.tmp 87) (.tmp 90) 23 rfl w4.heap.size 30 Try.underlying23 info_listed v87 r87 rfl o87 rfl ?_; have o91 : Hid True := trivial))
                  all_goals
                    have HF : Hid (r87 = ins node now qs) := by
                      show r87 = ins node now qs
                      rw [h87.out, HZ.out.2]
                      rfl
                    go_wp2
                    go_ret2
                    exact ⟨_, ret_ob (by rw [HD2.out]), by rw [HD2.out]; simp only []; rw [← HF.out]; exact own_base o87 hTsz, hb4'.trans (b87.mono hTsz)⟩
                · simp only [Value.slice.injEq, true_and] at hvq
                  obtain ⟨rfl, rfl⟩ := hvq
                  have hlen1 : (qs.take qs.length).length = qs.length := List.length_take_of_le (Nat.le_refl _)
                  have hrd1 : ∀ j u, (enc2 (qs.take qs.length))[j]? = some u → w4.cell? ⟨g, 0 + j, none⟩ = some u := rd_take HT.out _ (Nat.le_refl _)
                  have HZ := Lib.hid (And.intro HLB.out (And.intro hlen1 (And.intro hlen1 (And.intro hrd1 hrd1))))
                  clear hlen1 hrd1 HLB
                  unfold maxLen at hcm
                  by_cases hcc : c9 = qs.length
                  · subst hcc
                    go_wp2
                    go_region_law (first
                      | (refine step_apps2m _ rfl (.tmp 78) (.tmp 81) 23 rfl w4.heap.size 30 Try.underlying23 info_listed (.slice (some ⟨_, 0, none⟩) 0 0) [] rfl (by first | exact own_empty w4 _ _ _ (Nat.le_refl _) | exact (own_empty w4 _ _ _ (Nat.le_refl _)).alloc _ | (have e := own_empty (w4.alloc (.cells #[.int .i64 node, .int .i64 now] 30)) w4.heap.size 30 2 (by simp); simp only [World.size_alloc] at e; exact e)) g 0 qs.length qs.length (qs.take qs.length) HZ.out.2.1 rfl (fun j u hj => cell_keep (w := w4) (by (repeat' (first | exact Below.refl _ _ | assumption | refine Below.drew ?_ | refine below_drewN ?_ _ | refine Below.alloc ?_ (by omega) _ | refine Below.alloc ?_ (by simp; omega) _ | refine Below.alloc ?_ (by simp) _ | refine Below.setCell ?_ (by omega) _ | refine Below.setCell ?_ (by simp; omega) _ | refine Below.setCell ?_ (by simp) _))) (HZ.out.2.2.2.1 j u hj)) (by simp; omega) (by first | omega | (simp; done) | (simp; omega)) ?_; intro v82 w82 r82 h82 l82 o82 g82; have m82 : r82.length ≤ 8 := (by have e := l82; rw [HZ.out.2.1] at e; simp only [List.length_nil] at e; omega); clear l82; have b82 : Below w4.heap.size w4 w82 := Below.grown (by (repeat' (first | exact Below.refl _ _ | assumption | refine Below.drew ?_ | refine below_drewN ?_ _ | refine Below.alloc ?_ (by omega) _ | refine Below.alloc ?_ (by simp; omega) _ | refine Below.alloc ?_ (by simp) _ | refine Below.setCell ?_ (by omega) _ | refine Below.setCell ?_ (by simp; omega) _ | refine Below.setCell ?_ (by simp) _))) g82 (by first | omega | (simp; done) | (simp; omega)) (fun k hk => by simp [Value.ownBlock] at hk; omega); have z82 := b82.size)
                      | (refine step_apps2m _ rfl (.tmp 82) (.tmp 86) 23 rfl w4.heap.size 30 Try.underlying23 info_listed v82 r82 rfl (by first | exact o82 | exact o82.alloc _) _ 0 1 _ [(node, now)] rfl rfl (by first | exact lit_cells (by simp) (by simp) | exact lit_cells (g82.cell (by simp) (by simp [Value.ownBlock])) (g82.cell (by simp) (by simp [Value.ownBlock]))) (by simp; omega) (by first | omega | (simp; done) | (simp; omega)) ?_; intro v87 w87 r87 h87 l87 o87 g87; have m87 : r87.length ≤ 9 := (by have e := l87; simp only [List.length_cons, List.length_nil] at e; omega); clear l87; have b87 : Below w4.heap.size w4 w87 := Below.grown (by (repeat' (first | exact Below.refl _ _ | assumption | refine Below.drew ?_ | refine below_drewN ?_ _ | refine Below.alloc ?_ (by omega) _ | refine Below.alloc ?_ (by simp; omega) _ | refine Below.alloc ?_ (by simp) _ | refine Below.setCell ?_ (by omega) _ | refine Below.setCell ?_ (by simp; omega) _ | refine Below.setCell ?_ (by simp) _))) g87 (by first | omega | (simp; done) | (simp; omega)) (fun k hk => (o82.lt k hk).1); have z87 := b87.size)
                      | (refine step_apps2m _ rfl (.tmp 87) (.tmp 90) 23 rfl w4.heap.size 30 Try.underlying23 info_listed v87 r87 rfl o87 g 0 0 0 [] rfl rfl (fun j u hj => by simp [enc2] at hj) (by simp; omega) (by omega) ?_; intro v91 w91 r91 h91 l91 o91 g91; have b91 : Below w4.heap.size w4 w91 := b87.grown g91 z87 (fun k hk => (o87.lt k hk).1)))
                    all_goals
                      have HF : Hid (r91 = ins node now qs) := by
                        show r91 = ins node now qs
                        rw [h91.out, h87.out, h82.out]
                        unfold ins
                        rw [HZ.out.1]
                        simp
                      go_wp2
                      go_ret2
                      exact ⟨_, ret_ob (by rw [HD2.out]), by rw [HD2.out]; simp only []; rw [← HF.out]; exact own_base o91 hTsz, hb4'.trans (b91.mono hTsz)⟩
                  · have hcn : qs.length < c9 := by omega
                    go_wp2
                    go_region_law (first
                      | (refine step_apps2m _ rfl (.tmp 78) (.tmp 81) 23 rfl w4.heap.size 30 Try.underlying23 info_listed (.slice (some ⟨_, 0, none⟩) 0 0) [] rfl (by first | exact own_empty w4 _ _ _ (Nat.le_refl _) | exact (own_empty w4 _ _ _ (Nat.le_refl _)).alloc _ | (have e := own_empty (w4.alloc (.cells #[.int .i64 node, .int .i64 now] 30)) w4.heap.size 30 2 (by simp); simp only [World.size_alloc] at e; exact e)) g 0 qs.length c9 (qs.take qs.length) HZ.out.2.1 rfl (fun j u hj => cell_keep (w := w4) (by (repeat' (first | exact Below.refl _ _ | assumption | refine Below.drew ?_ | refine below_drewN ?_ _ | refine Below.alloc ?_ (by omega) _ | refine Below.alloc ?_ (by simp; omega) _ | refine Below.alloc ?_ (by simp) _ | refine Below.setCell ?_ (by omega) _ | refine Below.setCell ?_ (by simp; omega) _ | refine Below.setCell ?_ (by simp) _))) (HZ.out.2.2.2.1 j u hj)) (by simp; omega) (by first | omega | (simp; done) | (simp; omega)) ?_; intro v82 w82 r82 h82 l82 o82 g82; have m82 : r82.length ≤ 8 := (by have e := l82; rw [HZ.out.2.1] at e; simp only [List.length_nil] at e; omega); clear l82; have b82 : Below w4.heap.size w4 w82 := Below.grown (by (repeat' (first | exact Below.refl _ _ | assumption | refine Below.drew ?_ | refine below_drewN ?_ _ | refine Below.alloc ?_ (by omega) _ | refine Below.alloc ?_ (by simp; omega) _ | refine Below.alloc ?_ (by simp) _ | refine Below.setCell ?_ (by omega) _ | refine Below.setCell ?_ (by simp; omega) _ | refine Below.setCell ?_ (by simp) _))) g82 (by first | omega | (simp; done) | (simp; omega)) (fun k hk => by simp [Value.ownBlock] at hk; omega); have z82 := b82.size)
                      | (refine step_apps2m _ rfl (.tmp 82) (.tmp 86) 23 rfl w4.heap.size 30 Try.underlying23 info_listed v82 r82 rfl (by first | exact o82 | exact o82.alloc _) _ 0 1 _ [(node, now)] rfl rfl (by first | exact lit_cells (by simp) (by simp) | exact lit_cells (g82.cell (by simp) (by simp [Value.ownBlock])) (g82.cell (by simp) (by simp [Value.ownBlock]))) (by simp; omega) (by first | omega | (simp; done) | (simp; omega)) ?_; intro v87 w87 r87 h87 l87 o87 g87; have m87 : r87.length ≤ 9 := (by have e := l87; simp only [List.length_cons, List.length_nil] at e; omega); clear l87; have b87 : Below w4.heap.size w4 w87 := Below.grown (by (repeat' (first | exact Below.refl _ _ | assumption | refine Below.drew ?_ | refine below_drewN ?_ _ | refine Below.alloc ?_ (by omega) _ | refine Below.alloc ?_ (by simp; omega) _ | refine Below.alloc ?_ (by simp) _ | refine Below.setCell ?_ (by omega) _ | refine Below.setCell ?_ (by simp; omega) _ | refine Below.setCell ?_ (by simp) _))) g87 (by first | omega | (simp; done) | (simp; omega)) (fun k hk => (o82.lt k hk).1); have z87 := b87.size)
                      | (refine step_apps2m _ rfl (.tmp 87) (.tmp 90) 23 rfl w4.heap.size 30 Try.underlying23 info_listed v87 r87 rfl o87 g (qs.length * 2) 0 (c9 - qs.length) [] rfl rfl (fun j u hj => by simp [enc2] at hj) (by simp; omega) (by omega) ?_; intro v91 w91 r91 h91 l91 o91 g91; have b91 : Below w4.heap.size w4 w91 := b87.grown g91 z87 (fun k hk => (o87.lt k hk).1)))
                    all_goals
                      have HF : Hid (r91 = ins node now qs) := by
                        show r91 = ins node now qs
                        rw [h91.out, h87.out, h82.out]
                        unfold ins
                        rw [HZ.out.1]
                        simp
                      go_wp2
                      go_ret2
                      exact ⟨_, ret_ob (by rw [HD2.out]), by rw [HD2.out]; simp only []; rw [← HF.out]; exact own_base o91 hTsz, hb4'.trans (b91.mono hTsz)⟩
  · rw [dput_no hpa]
    by_cases hv : DV ps
    · by_cases hn : 0 ≤ node ∧ node ≤ 99
      · have hw' : now < 0 ∨ 999 < now := by
          have : ¬ (0 ≤ now ∧ now ≤ 999) := fun h => hpa ⟨hv, hn, h⟩
          omega
        obtain ⟨n1, n2⟩ := hn
        have HV := Lib.hid (dvB_true hv)
        clear hpa hv
        go_enter Try.func11, Try.ntmps11
        go_wp2_with fail
        refine (specDirValid_c _ ps _ h).mono ?_
        rintro e w1 ⟨rfl, hb1⟩
        rw [HV.out]
        go_wp2_with fail
        refine (l6In_t node 0 99 _ n1 n2).mono ?_
        rintro e _ ⟨rfl, rfl⟩
        go_wp2_with fail
        refine (l6In_f now 0 999 _ hw').mono ?_
        rintro e _ ⟨rfl, rfl⟩
        clear hw' h
        go_wp2
        go_ret2
        exact ⟨_, rfl, own_base (own_empty w1 w1.heap.size 30 2 (Nat.le_refl _)) hb1.size, hb1.alloc hb1.size _⟩
      · have hn' : node < 0 ∨ 99 < node := by omega
        have HV := Lib.hid (dvB_true hv)
        clear hpa hv hn
        go_enter Try.func11, Try.ntmps11
        go_wp2_with fail
        refine (specDirValid_c _ ps _ h).mono ?_
        rintro e w1 ⟨rfl, hb1⟩
        rw [HV.out]
        go_wp2_with fail
        refine (l6In_f node 0 99 _ hn').mono ?_
        rintro e _ ⟨rfl, rfl⟩
        clear hn' h
        go_wp2
        go_ret2
        exact ⟨_, rfl, own_base (own_empty w1 w1.heap.size 30 2 (Nat.le_refl _)) hb1.size, hb1.alloc hb1.size _⟩
    · have HV := Lib.hid (dvB_false hv)
      clear hpa hv
      go_enter Try.func11, Try.ntmps11
      go_wp2_with fail
      refine (specDirValid_c _ ps _ h).mono ?_
      rintro e w1 ⟨rfl, hb1⟩
      rw [HV.out]
      clear h
      go_wp2
      go_ret2
      exact ⟨_, rfl, own_base (own_empty w1 w1.heap.size 30 2 (Nat.le_refl _)) hb1.size, hb1.alloc hb1.size _⟩
end Go.Proofs.Ytonahamnkbjipaa
