/- slices.Insert of one pair of ints ahead of an element. -/
import Derived.Test.YtonahamnkbjipaaIns
namespace Go.Proofs.Ytonahamnkbjipaa
open Go.RowKit
theorem enc2_split (ps : List P2) (i : Nat) : enc2 ps = enc2 (ps.take i) ++ enc2 (ps.drop i) := by rw [← enc2_app, List.take_append_drop]
theorem enc2_ins (ps : List P2) (i : Nat) (x y : Int) : enc2 (ps.take i ++ ([(x, y)] ++ ps.drop i)) = enc2 (ps.take i) ++ ([.int .i64 x, .int .i64 y] ++ enc2 (ps.drop i)) := by rw [enc2_app, enc2_app]; rfl
def insAt (i : Nat) (x y : Int) (ps : List P2) : List P2 := ps.take i ++ ([(x, y)] ++ ps.drop i)
theorem insAt_len {i : Nat} {x y : Int} {ps : List P2} (hi : i ≤ ps.length) : (insAt i x y ps).length = ps.length + 1 := by unfold insAt; simp; omega
theorem own_room (w : World) (B e g cap i : Nat) (x y : Int) (ps : List P2) (cur cur1 cur2 : Array Value) (hi : i ≤ ps.length) (hgb : B ≤ g) (hh : w.heap[g]? = some (.cells cur2 e (0, 0))) (hcap : ps.length + 1 ≤ cap) (hcm : cap ≤ maxLen) (hcs : cur.size = cap * 2)
    (hcur : cur.toList.take (ps.length * 2) = enc2 ps)
    (h1 : cur1.toList = cur.toList.take (i * 2 + 2) ++ enc2 (ps.drop i) ++ cur.toList.drop (i * 2 + 2 + (enc2 (ps.drop i)).length))
    (h2 : cur2.toList = cur1.toList.take (i * 2) ++ [.int .i64 x, .int .i64 y] ++ cur1.toList.drop (i * 2 + 2)) (n : Nat) (hn : n = ps.length + 1) :
    w.ownsRow B e 2 (.slice (some ⟨g, 0, none⟩) n cap) (insAt i x y ps).length (enc2 (insAt i x y ps)) := by
  subst hn
  have hla : (enc2 (ps.take i)).length = i * 2 := by rw [enc2_len, List.length_take]; omega
  have hld : (enc2 (ps.drop i)).length = (ps.length - i) * 2 := by rw [enc2_len, List.length_drop]
  have hL : cur.toList = enc2 (ps.take i) ++ (enc2 (ps.drop i) ++ cur.toList.drop (ps.length * 2)) := by
    rw [← List.append_assoc, ← enc2_split, ← hcur, List.take_append_drop]
  have hcl : cur.toList.length = cap * 2 := by rw [Array.length_toList, hcs]
  have hsz1 : cur1.toList.length = cap * 2 := by rw [h1]; simp only [List.length_append, List.length_take, List.length_drop, hcl, hld]; omega
  have hsz2 : cur2.toList.length = cap * 2 := by rw [h2]; simp only [List.length_append, List.length_take, List.length_drop, List.length_cons, List.length_nil, hsz1]; omega
  have key := ins_room (enc2 (ps.take i)) (enc2 (ps.drop i)) (cur.toList.drop (ps.length * 2)) cur.toList (.int .i64 x) (.int .i64 y) hL (by rw [List.length_drop, hcl]; omega) cur1.toList cur2.toList (by rw [hla]; exact h1) (by rw [hla]; exact h2)
  rw [insAt_len hi]
  refine ⟨by rw [enc2_len, insAt_len hi], .inr ⟨g, cap, cur2, rfl, hgb, hh, hcap, hcm, by rw [← Array.length_toList, hsz2], ?_⟩⟩
  unfold insAt
  rw [enc2_ins, ← key, hla, hld]
  congr 1
  omega
theorem own_grow (w : World) (B e g cap i : Nat) (x y : Int) (ps : List P2) (cur cur1 cur2 : Array Value) (hi : i ≤ ps.length) (hgb : B ≤ g) (hh : w.heap[g]? = some (.cells cur2 e (0, 0))) (hcap : ps.length + 1 ≤ cap) (hcm : cap ≤ maxLen) (hcs : cur.size = cap * 2)
    (hcur : cur.toList.take (i * 2) = enc2 (ps.take i))
    (h1 : cur1.toList = cur.toList.take (i * 2) ++ [.int .i64 x, .int .i64 y] ++ cur.toList.drop (i * 2 + 2))
    (h2 : cur2.toList = cur1.toList.take (i * 2 + 2) ++ enc2 (ps.drop i) ++ cur1.toList.drop (i * 2 + 2 + (enc2 (ps.drop i)).length)) (n : Nat) (hn : n = ps.length + 1) :
    w.ownsRow B e 2 (.slice (some ⟨g, 0, none⟩) n cap) (insAt i x y ps).length (enc2 (insAt i x y ps)) := by
  subst hn
  have hla : (enc2 (ps.take i)).length = i * 2 := by rw [enc2_len, List.length_take]; omega
  have hld : (enc2 (ps.drop i)).length = (ps.length - i) * 2 := by rw [enc2_len, List.length_drop]
  have hcl : cur.toList.length = cap * 2 := by rw [Array.length_toList, hcs]
  have hsz1 : cur1.toList.length = cap * 2 := by rw [h1]; simp only [List.length_append, List.length_take, List.length_drop, List.length_cons, List.length_nil, hcl]; omega
  have hsz2 : cur2.toList.length = cap * 2 := by rw [h2]; simp only [List.length_append, List.length_take, List.length_drop, hsz1, hld]; omega
  have key := ins_grow (enc2 (ps.take i)) (enc2 (ps.drop i)) cur.toList (.int .i64 x) (.int .i64 y) (by rw [hla]; exact hcur) (by rw [hla, hld, hcl]; omega) cur1.toList cur2.toList (by rw [hla]; exact h1) (by rw [hla]; exact h2)
  rw [insAt_len hi]
  refine ⟨by rw [enc2_len, insAt_len hi], .inr ⟨g, cap, cur2, rfl, hgb, hh, hcap, hcm, by rw [← Array.length_toList, hsz2], ?_⟩⟩
  unfold insAt
  rw [enc2_ins, ← key, hla, hld]
  congr 1
  omega
set_option maxHeartbeats 3200000 in
theorem insRoom_c (B g cap i : Nat) (cur : Array Value) (ps : List P2) (x y : Int) (m : Nat) (w : World) (hgb : B ≤ g) (hh : w.heap[g]? = some (.cells cur 30 (0, 0))) (hcap : ps.length + 1 ≤ cap) (hcm : cap ≤ maxLen) (hcs : cur.size = cap * 2)
    (hcur : cur.toList.take (ps.length * 2) = enc2 ps) (hB : B ≤ w.heap.size) (hmg : m ≠ g) (hm : w.heap[m]? = some (.cells #[.int .i64 x, .int .i64 y] 30 (0, 0))) (hi : i < ps.length) (hn : ps.length ≤ 1000) :
    Calls Try.prog 29 #[.slice (some ⟨g, 0, none⟩) ps.length cap, .int .i64 i, .slice (some ⟨m, 0, none⟩) 1 1] w (InsPost B (insAt i x y ps) w) := by
  unfold maxLen at hcm
  have c0 : w.cell? ⟨m, 0, none⟩ = some (.int .i64 x) := by simp [World.cell?, hm]
  have c1 : w.cell? ⟨m, 1, none⟩ = some (.int .i64 y) := by simp [World.cell?, hm]
  have hld : (enc2 (ps.drop i)).length = (ps.length - i) * 2 := by rw [enc2_len, List.length_drop]
  have hsrc : ∀ j v, (enc2 (ps.drop i))[j]? = some v → w.cell? ⟨g, i * 2 + j, none⟩ = some v := by
    intro j v hj
    rw [enc2_drop, List.getElem?_drop, ← hcur, List.getElem?_take] at hj
    split at hj
    · simp only [World.cell?, hh]
      simpa using hj
    · cases hj
  have hov : ∀ o lb cb, (callFunc 36 #[.slice (some ⟨m, 0, none⟩) 1 1, .slice (some ⟨g, o, none⟩) lb cb]).run Try.prog w = .ok (.value (.bool false)) w := fun o lb cb => by
    rw [run_callFunc_extern Try.func36 (by kernel_rfl) (by kernel_rfl) (by kernel_rfl) (e := Extern.SlicesOverlaps.overlaps #[23, 23] #[4]) (by kernel_rfl),
      Lib.run_overlaps_apart w 23 4 30 Try.underlying23 2 (fun w => by obtain ⟨i0, hi0, hz0, hz1, hz2⟩ := info_parts info_listed; simp [sizeOf, typeInfo, hi0, hz1]) ⟨m, 0, none⟩ ⟨g, o, none⟩ 1 1 lb cb hmg 30 30 2 (cap * 2) (by simp [World.shape?, hm]) (by simp [World.shape?, hh, hcs]) (by omega) (by simp [World.frozen?, hm]) (by simp [World.frozen?, hm])]
    rfl
  have HH := Lib.hid (And.intro hh (And.intro hsrc (And.intro hld hcur)))
  have HC := Lib.hid (And.intro c0 c1)
  clear hh hsrc hld hcur hm c0 c1
  have hz2 : ¬ ((i : Int) = (ps.length : Int)) := by omega
  have hb2 : ¬ (cap = i + 1) := by omega
  have hb4 : ¬ (cap = i) := by omega
  have hw1 : IntKind.i64.wrap ((i : Int) + 1) = (i : Int) + 1 := by rw [IntKind.wrap_i64]; omega
  have hb1 : (0 : Int) ≤ (i : Int) + 1 := by omega
  have htn : ((i : Int) + 1).toNat = i + 1 := by omega
  have hb3 : (i : Int) + 1 ≤ (ps.length : Int) + 1 := by omega
  have hb5 : (i : Int) ≤ (ps.length : Int) + 1 := by omega
  have hb6 : (i : Int) ≤ (ps.length : Int) := by omega
  go_enter Try.func29, Try.ntmps29
  go_wp2_with (simp only [hov])
  go_region_law (refine step_copy2 _ rfl (.tmp 73) (.tmp 76) 23 rfl 30 Try.underlying23 info_listed g ((i + 1) * 2) (ps.length + 1 - (i + 1)) (cap - (i + 1)) ⟨g, i * 2, none⟩ (ps.length + 1 - i) (cap - i) (by simp [Act.eval, Act.put]) (by simp [Act.eval, Act.put]) (ps.length - i) (i * 2 + 2) cur 30 (enc2 (ps.drop i)) (by omega) HH.out.1 (by simp only [Nat.min_def]; split <;> omega) HH.out.2.2.1 (fun j v hj => by rw [addr_add]; exact HH.out.2.1 j v hj) (by rw [HH.out.2.2.1, hcs]; omega) (enc2_one _) ?_; intro v77 w77 cur1 hh1 HC1 g77; have b77 : Below B w w77 := Below.grown (by (repeat' (first | exact Below.refl _ _ | assumption | refine Below.drew ?_ | refine below_drewN ?_ _ | refine Below.alloc ?_ (by omega) _ | refine Below.alloc ?_ (by simp; omega) _ | refine Below.alloc ?_ (by simp) _ | refine Below.setCell ?_ (by omega) _ | refine Below.setCell ?_ (by simp; omega) _ | refine Below.setCell ?_ (by simp) _))) g77 (by first | exact hB | (simp; omega)) (fun k hk => by simp at hk; omega); have l0 := g77.cell HC.out.1 (by simpa using hmg); have l1 := g77.cell HC.out.2 (by simpa using hmg))
  all_goals
    have HL := Lib.hid (lit_cells l0 l1)
    have HH1 := Lib.hid hh1
    clear l0 l1 hh1 g77 hov
    have z77 := b77.size
    go_wp2_with (refine wpList_copy2 _ rfl (.tmp 80) (.tmp 81) 23 rfl 30 Try.underlying23 info_listed g (i * 2) (ps.length + 1 - i) (cap - i) ⟨m, 0, none⟩ 1 1 (by simp [Act.eval]) (by simp [Act.eval]) 1 (i * 2) cur1 30 (enc2 [(x, y)]) rfl ?n0 ?n1 ?n4 ?n2 ?n3 (enc2_one _) ?_)
    case n0 => exact HH1.out
    case n4 => rfl
    case n1 => simp only [Nat.min_def]; split <;> omega
    case n2 => intro j v hj; rw [addr_add]; exact HL.out j v hj
    case n3 =>
      have e1 := HH.out.2.2.1
      have e2 := congrArg List.length HC1.out
      simp only [List.length_append, List.length_take, List.length_drop, Array.length_toList, hcs, e1] at e2
      simp only [enc2_len, List.length_cons, List.length_nil]
      omega
    intro v82 w82 cur2 hh2 HC2 g82
    have b82 : Below B w w82 := b77.grown g82 (by omega) (fun k hk => by simp at hk; omega)
    have HF := Lib.hid (own_room w82 B 30 g cap i x y ps cur cur1 cur2 (by omega) hgb hh2 hcap (by unfold maxLen; omega) hcs HH.out.2.2.2 HC1.out (HC2.out.trans (by simp [enc2])) _ rfl)
    clear hh2 g82
    go_wp2
    go_ret
    exact ⟨_, rfl, HF.out, b82⟩
theorem wpList_zeros2 {P : Program} (w : World) {ops : Array Oper} {rest : List Oper} {o : Oper} {a : Act} {Q : Exit → Act → World → Prop} (hgd : o.guard = none) (s n : Operand) (t tn : TypeId)
    (ho : o.op = .call { callee := .builtin .append, args := #[s, n], argTypes := #[t, tn] }) (e : TypeId) (kn kq : IntKind) (hu : P.underlying t = some (.slice e)) (htn : P.underlying tn = some (.int kn))
    (hinfo : (P.info? e).map (fun i => (i.zero, i.size, i.bytes)) = some (some zero2, 2, 16)) (g i cap k : Nat) (hs : a.eval s = .slice (some ⟨g, 0, none⟩) i cap) (hn : a.eval n = .int kq k) (olds : List Value) (hol : olds.length = i * 2)
    (hold : ∀ j v, olds[j]? = some v → w.cell? ⟨g, j, none⟩ = some v) (h0 : 0 < k) (hgr : cap < i + k) (hsm : i + k ≤ 1048576)
    (h : ∀ W cur cap', W.heap[w.heap.size]? = some (.cells cur e (0, 0)) → Below w.heap.size w W → W.heap.size = w.heap.size + 1 → Hid (cur.size = cap' * 2 ∧ cur.toList.take (i * 2) = olds) → i + k ≤ cap' → cap' ≤ maxLen →
      wpList P ops Q rest (a.put o.dst (.slice (some ⟨w.heap.size, 0, none⟩) (i + k) cap')) W) :
    wpList P ops Q (o :: rest) a w :=
  wpList_plain hgd fun _ hK => by
    obtain ⟨cur, cap', hr, e1, e2, e3, e4⟩ := zeros2_ex (P := P) w t tn o.type e kn kq hu htn hinfo g i cap k olds hol hold h0 hgr hsm
    unfold Oper.wp execOp
    simp only [ho, resolve, invoke, builtin, Sem.run_bind, Sem.run_pure, Result.andThen_ok, List.map_toArray, List.map_cons, List.map_nil, hs, hn, hr]
    exact hK _ _ (h _ _ _ (heap_alloc_new w.drew _) ((Below.refl _ _).drew.alloc (Nat.le_refl _) _) (by simp) ⟨e1, e4⟩ e2 e3)
set_option maxHeartbeats 3200000 in
theorem insGrow_c (B g i : Nat) (ps : List P2) (x y : Int) (m : Nat) (w : World) (hown : w.ownsRow B 30 2 (.slice (some ⟨g, 0, none⟩) ps.length ps.length) ps.length (enc2 ps)) (hgw : g < w.heap.size)
    (hB : B ≤ w.heap.size) (hm : w.heap[m]? = some (.cells #[.int .i64 x, .int .i64 y] 30 (0, 0))) (hi : i < ps.length) (hn : ps.length ≤ 1000) :
    Calls Try.prog 29 #[.slice (some ⟨g, 0, none⟩) ps.length ps.length, .int .i64 i, .slice (some ⟨m, 0, none⟩) 1 1] w (InsPost B (insAt i x y ps) w) := by
  have c0 : w.cell? ⟨m, 0, none⟩ = some (.int .i64 x) := by simp [World.cell?, hm]
  have c1 : w.cell? ⟨m, 1, none⟩ = some (.int .i64 y) := by simp [World.cell?, hm]
  have hmw : m < w.heap.size := (Array.getElem?_eq_some_iff.1 hm).1
  have hld : (enc2 (ps.drop i)).length = (ps.length - i) * 2 := by rw [enc2_len, List.length_drop]
  have hla : (enc2 (ps.take i)).length = i * 2 := by rw [enc2_len, List.length_take]; omega
  have hsrc := rd_drop hown i (by omega)
  have hold := rd_take hown i (by omega)
  simp only [Nat.zero_add] at hold
  obtain ⟨k, hk⟩ : ∃ k : Nat, ps.length + 1 = i + k := ⟨ps.length + 1 - i, by omega⟩
  have hke : (ps.length : Int) + 1 - (i : Int) = (k : Int) := by omega
  have HZ := Lib.hid (And.intro hla (And.intro hold (And.intro hld (And.intro hsrc (And.intro c0 c1)))))
  clear hla hold hld hsrc hm c0 c1
  have hz2 : ¬ ((i : Int) = (ps.length : Int)) := by omega
  have hb7 : ¬ (ps.length = i) := by omega
  have hw1 : IntKind.i64.wrap ((i : Int) + 1) = (i : Int) + 1 := by rw [IntKind.wrap_i64]; omega
  have hb1 : (0 : Int) ≤ (i : Int) + 1 := by omega
  have htn : ((i : Int) + 1).toNat = i + 1 := by omega
  have hb3 : (i : Int) + 1 ≤ (i : Int) + (k : Int) := by omega
  have hb5 : (i : Int) ≤ (i : Int) + (k : Int) := by omega
  have hb6 : (i : Int) ≤ (ps.length : Int) := by omega
  have hgt : (ps.length : Int) < (ps.length : Int) + 1 := by omega
  have HK := Lib.hid hk
  have k0 : 0 < k := by omega
  clear hk
  go_enter Try.func29, Try.ntmps29
  go_wp2_with (at_builtin; refine wpList_zeros2 _ rfl (.tmp 34) (.tmp 39) 23 3 rfl 30 .i64 .i64 Try.underlying23 Try.underlying3 info_listed g i ps.length k rfl rfl (enc2 (ps.take i)) HZ.out.1 HZ.out.2.1 k0 (by have := HK.out; omega) (by have := HK.out; omega) ?_)
  intro W C cap' hWh hWb hWs HC hcap hcm
  have HL := Lib.hid (lit_cells (cell_keep hWb HZ.out.2.2.2.2.1) (cell_keep hWb HZ.out.2.2.2.2.2))
  have HS := Lib.hid (show ∀ j u, (enc2 (ps.drop i))[j]? = some u → W.cell? ⟨g, i * 2 + j, none⟩ = some u from fun j u hj => cell_keep hWb (by have := HZ.out.2.2.2.1 j u hj; simpa using this))
  have HH := Lib.hid hWh
  have HB := Lib.hid hWb
  have hGm : m ≠ w.heap.size := by omega
  have hGg : g ≠ w.heap.size := by omega
  have hb2 : ¬ (cap' = i + 1) := by have := HK.out; omega
  have hb4 : ¬ (cap' = i) := by omega
  clear hWh hWb
  go_wp2_with (refine wpList_copy2 _ rfl (.tmp 43) (.tmp 44) 23 rfl 30 Try.underlying23 info_listed w.heap.size (i * 2) (i + k - i) (cap' - i) ⟨m, 0, none⟩ 1 1 (by simp [Act.eval]) (by simp [Act.eval]) 1 (i * 2) C 30 (enc2 [(x, y)]) rfl ?n0 ?n1 ?n4 ?n2 ?n3 (enc2_one _) ?_)
  case n0 => exact HH.out
  case n4 => rfl
  case n1 => simp only [Nat.min_def]; split <;> omega
  case n2 => intro j v hj; rw [addr_add]; exact HL.out j v hj
  case n3 => rw [HC.out.1]; simp only [enc2_len, List.length_cons, List.length_nil]; omega
  intro v82 w82 cur1 hh1 HC1 g82
  have b82 : Below B w w82 := (HB.out.mono hB).grown g82 (by omega) (fun k hk => by cases hk; exact hB)
  have HS1 := Lib.hid (show ∀ j u, (enc2 (ps.drop i))[j]? = some u → w82.cell? ⟨g, i * 2 + j, none⟩ = some u from fun j u hj => g82.cell (HS.out j u hj) (by simpa using hGg))
  have HH1 := Lib.hid hh1
  have hl1 : cur1.size = cap' * 2 := by
    have e2 := congrArg List.length HC1.out
    simp only [List.length_append, List.length_take, List.length_drop, Array.length_toList, HC.out.1, enc2_len, List.length_cons, List.length_nil] at e2
    omega
  have HN := Lib.hid hl1
  have zs82 := g82.size
  clear hh1 g82 HL HS HH hl1
  go_wp2
  go_region_law (refine step_copy2 _ rfl (.tmp 50) (.tmp 53) 23 rfl 30 Try.underlying23 info_listed w.heap.size ((i + 1) * 2) (i + k - (i + 1)) (cap' - (i + 1)) ⟨g, i * 2, none⟩ (ps.length - i) (ps.length - i) (by simp [Act.eval, Act.put]) (by simp [Act.eval, Act.put]) (ps.length - i) (i * 2 + 2) cur1 30 (enc2 (ps.drop i)) (by omega) HH1.out (by have := HK.out; simp only [Nat.min_def]; split <;> omega) HZ.out.2.2.1 (fun j v hj => by rw [addr_add]; exact HS1.out j v hj) (by have := HK.out; rw [HZ.out.2.2.1, HN.out]; omega) (enc2_one _) ?_; intro v77 w77 cur2 hh2 HC2 g77; have b77 : Below B w w77 := b82.drew.grown g77 (by simp; omega) (fun k hk => by cases hk; exact hB))
  all_goals
    have HF := Lib.hid (own_grow w77 B 30 w.heap.size cap' i x y ps C cur1 cur2 (by omega) hB hh2 (by have := HK.out; omega) hcm HC.out.1 HC.out.2 (HC1.out.trans (by simp [enc2])) HC2.out _ HK.out.symm)
    clear hh2 g77
    go_wp2
    go_ret
    exact ⟨_, rfl, HF.out, b77⟩
end Go.Proofs.Ytonahamnkbjipaa
