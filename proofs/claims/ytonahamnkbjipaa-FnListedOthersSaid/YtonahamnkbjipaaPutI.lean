/- DirectoryPut of the program gives what the reference's gives. -/
import Derived.Test.YtonahamnkbjipaaInsM
import Derived.Test.YtonahamnkbjipaaBS
import Derived.Test.YtonahamnkbjipaaLSweep
namespace Go.Proofs.Ytonahamnkbjipaa
open Go.RowKit
theorem ins_c (B : Nat) (v : Value) (ps : List P2) (i : Nat) (x y : Int) (m : Nat) (w : World) (hown : w.ownsRow B 30 2 v ps.length (enc2 ps)) (hB : B ≤ w.heap.size) (hmo : v.ownBlock ≠ some m)
    (hm : w.heap[m]? = some (.cells #[.int .i64 x, .int .i64 y] 30 (0, 0))) (hi : i ≤ ps.length) (hn : ps.length ≤ 1000) :
    Calls Try.prog 29 #[v, .int .i64 i, .slice (some ⟨m, 0, none⟩) 1 1] w (InsPost B (insAt i x y ps) w) := by
  by_cases he : i = ps.length
  · subst he
    have c0 : w.cell? ⟨m, 0, none⟩ = some (.int .i64 x) := by simp [World.cell?, hm]
    have c1 : w.cell? ⟨m, 1, none⟩ = some (.int .i64 y) := by simp [World.cell?, hm]
    have e : insAt ps.length x y ps = ps ++ [(x, y)] := by unfold insAt; simp
    rw [e]
    exact insEnd_c B v ps x y m w hown hB c0 c1 hn
  · have hlt : i < ps.length := by omega
    have hown' := hown
    rcases hown.2 with ⟨rfl, h0⟩ | ⟨g, cap, cur, rfl, hb, hh, hnc, hcm, hs, ht⟩
    · have := hown.1; rw [enc2_len] at this; have := own_cases hown'; rcases this with ⟨-, h, -⟩ | ⟨g, cap, h, -⟩
      · omega
      · cases h
    · by_cases hc : ps.length + 1 ≤ cap
      · exact insRoom_c B g cap i cur ps x y m w hb hh hc hcm hs ht hB (fun e => hmo (by subst e; rfl)) hm hlt hn
      · obtain rfl : cap = ps.length := by omega
        exact insGrow_c B g i ps x y m w hown' (Array.getElem?_eq_some_iff.1 hh).1 hB hm hlt hn
theorem dv_sorted {ps : List P2} (h : DV ps) : Sorted1 ps := dv_lt h
theorem dv_nodes {ps : List P2} (h : DV ps) : Nodes ps := fun k hk => ⟨(h.2 k hk).1, (h.2 k hk).2.1⟩
theorem ins_insAt {node now : Int} {ps : List P2} {k : Nat} (hk : k ≤ ps.length) (h1 : ∀ j, j < k → (ps.getD j (0, 0)).1 < node) (h2 : k < ps.length → node ≤ (ps.getD k (0, 0)).1) : ins node now ps = insAt k node now ps := by
  unfold ins insAt
  rw [lbd_at hk h1 h2]
theorem ret_o {v w : Value} {a b : Bool} (h1 : v = w) (h2 : a = b) : Ending.returned (.tuple #[v, .bool a]) = .returned (.tuple #[w, .bool b]) := by rw [h1, h2]
theorem dv_ne {node : Int} {ps : List P2} (h : DV ps) {k : Nat} (_hk : k ≤ ps.length) (h1 : ∀ j, j < k → (ps.getD j (0, 0)).1 < node) (h2 : ¬ (k < ps.length ∧ (ps.getD k (0, 0)).1 = node)) (h3 : k < ps.length → node ≤ (ps.getD k (0, 0)).1) : ∀ j, j < ps.length → (ps.getD j (0, 0)).1 ≠ node := by
  intro j hj
  rcases Nat.lt_trichotomy j k with hlt | rfl | hgt
  · have := h1 j hlt; omega
  · exact fun e => h2 ⟨hj, e⟩
  · have := dv_lt h k j hgt hj
    have := h3 (by omega)
    omega
/-- The end of DirectoryPut: the search for the place, and the insertion. -/
def TailPost (B : Nat) (rs : List P2) (b : Bool) (w : World) (e : Ending) (w' : World) : Prop := ∃ v, e = .returned (.tuple #[v, .bool b]) ∧ w'.ownsRow B 30 2 v rs.length (enc2 rs) ∧ Below B w w'
set_option maxHeartbeats 3200000 in
theorem dirPut_c (v : Value) (ps : List P2) (node now : Int) (w : World) (h : Rd 2 w v ps.length (enc2 ps)) (hs : Sl v) :
    Calls Try.prog 10 #[v, .int .i64 node, .int .i64 now] w (RetOwnB 30 2 (dput ps node now).1.length (enc2 (dput ps node now).1) (dput ps node now).2 w) := by
  by_cases hpa : PutArgs ps node now
  · have h8 := hpa.1.1
    obtain ⟨hdv, ⟨hn1, hn2⟩, hw1, hw2⟩ := id hpa
    have HP := Lib.hid (And.intro hpa (And.intro (dvB_true hdv) hdv))
    have H := Lib.hid h
    clear hpa hdv h
    go_enter Try.func10, Try.ntmps10
    go_wp2_with fail
    refine (dirValid_c _ ps _ H.out).mono ?_
    rintro e w1 ⟨rfl, hb1⟩
    rw [HP.out.2.1]
    go_wp2_with fail
    refine (within_t node 0 99 _ hn1 hn2).mono ?_
    rintro e _ ⟨rfl, rfl⟩
    go_wp2_with fail
    refine (within_t now 0 999 _ hw1 hw2).mono ?_
    rintro e _ ⟨rfl, rfl⟩
    go_wp2_with fail
    refine (cloneListed_c _ ps _ (H.out.below hb1) hs (by omega)).mono ?_
    rintro e w2 ⟨v2, rfl, hown2, hb2⟩
    have hown2 := own_base hown2 hb1.size
    have hb2 := hb1.trans (hb2.mono hb1.size)
    clear hb1
    go_wp2_with fail
    refine (bs_c _ ps node _ (Rd.of_own hown2) (dv_sorted HP.out.2.2) (dv_nodes HP.out.2.2) hn1 hn2 (by omega)).mono ?_
    rintro e w3 ⟨k, hk, hk1, hk2, rfl, hb3⟩
    have hown3 := own_below hown2 hb3
    have hb3 := hb2.trans (hb3.mono hb2.size)
    clear hown2 hb2
    have HK := Lib.hid (And.intro hk1 hk2)
    clear hk1 hk2
    by_cases hf : k < ps.length ∧ (ps.getD k (0, 0)).1 = node
    · have HF := Lib.hid hf
      have hkl := hf.1
      rw [decide_eq_true hf]
      clear hf
      have hd := dput_at HP.out.1 k hkl HF.out.2 (fun j hj => by have := HK.out.1 j hj; omega)
      have HD := Lib.hid hd
      clear hd
      obtain ⟨g, cap, rfl, hgb, hgw, hnc, hcm⟩ : ∃ g cap, v2 = .slice (some ⟨g, 0, none⟩) ps.length cap ∧ w.heap.size ≤ g ∧ g < w3.heap.size ∧ ps.length ≤ cap ∧ cap ≤ maxLen := by
        rcases own_cases hown3 with ⟨-, h0, -⟩ | ⟨g, cap, h1, h2, h3, h4, h5⟩
        · omega
        · exact ⟨g, cap, h1, h2, h3, h4, h5⟩
      obtain ⟨x, y, hxy⟩ : ∃ x y, ps.getD k (0, 0) = (x, y) := ⟨_, _, rfl⟩
      have hat := enc2_at ps k (0, 0) hkl
      rw [hxy] at hat
      have u1 := (hown3.cellAt (k * 2) (by omega)).trans hat.1
      have u2 := (hown3.cellAt (k * 2 + 1) (by omega)).trans hat.2
      have f2 := hown3.frozenAt (k * 2 + 1)
      have HXY := Lib.hid hxy
      have HO := Lib.hid hown3
      simp only [] at u1 u2
      clear hat hxy hown3
      by_cases hmx : y < now
      · have hd' : dput ps node now = (ps.set k (x, now), true) := by rw [HD.out]; unfold upd; rw [HXY.out]; simp [Int.max_eq_right (Int.le_of_lt hmx)]
        have HD' := Lib.hid hd'
        clear hd'
        go_wp2
        all_goals try omega
        all_goals
          go_ret2
          refine ⟨_, ret_o rfl (by rw [HD'.out]), ?_, hb3.setCell hgb _⟩
          rw [HD'.out]
          simp only [List.length_set]
          rw [enc2_set1 ps k x y now hkl HXY.out]
          exact (HO.out.stored (k * 2 + 1) _).1
      · have hmy : now ≤ y := by omega
        have hd' : dput ps node now = (ps.set k (x, y), true) := by rw [HD.out]; unfold upd; rw [HXY.out]; simp [Int.max_eq_left hmy]
        have HD' := Lib.hid hd'
        clear hd' hmx
        go_wp2
        all_goals try omega
        all_goals
          go_ret2
          refine ⟨_, ret_o rfl (by rw [HD'.out]), ?_, hb3.setCell hgb _⟩
          rw [HD'.out]
          simp only [List.length_set]
          rw [enc2_set1 ps k x y y hkl HXY.out]
          exact (HO.out.stored (k * 2 + 1) _).1
    · rw [decide_eq_false hf]
      have hd := dput_none HP.out.1 (dv_ne HP.out.2.2 hk HK.out.1 hf HK.out.2)
      have HD := Lib.hid hd
      clear hd hf
      have HO := Lib.hid hown3
      obtain ⟨a3, c3, rfl⟩ := own_slice hown3
      clear hown3
      by_cases hl : ps.length = 8
      · have hl' : ((ps.length : Int) == 8) = true := by simp [hl]
        have hroom : room now ps = sw now ps := by unfold room; rw [if_pos (by omega)]
        have HR := Lib.hid hroom
        have HL := Lib.hid hl
        clear hroom hl
        go_wp2_with fail
        refine (young_c _ ps now _ (Rd.of_own HO.out) (Sl.of_own HO.out) HP.out.2.2.times (by omega)).mono ?_
        rintro e w4 ⟨v4, rfl, hown4, hb4⟩
        have hown4 := own_base hown4 hb3.size
        have hb4 := hb3.trans (hb4.mono hb3.size)
        clear hb3 HO
        have HV := Lib.hid (dv_sw (now := now) HP.out.2.2)
        have hsl := sw_le now ps
        obtain ⟨qs, hqs⟩ : ∃ qs, qs = sw now ps := ⟨_, rfl⟩
        rw [← hqs] at hown4 HV hsl
        have HQ := Lib.hid hqs
        clear hqs
        obtain ⟨a4, c4, rfl⟩ := own_slice hown4
        have HO4 := Lib.hid hown4
        clear hown4
        by_cases hq : qs.length = 8
        · have hq' : ((qs.length : Int) == 8) = true := by simp [hq]
          have hd' : dput ps node now = (qs, false) := by rw [HD.out, HR.out, ← HQ.out, if_pos (by omega)]
          have HD' := Lib.hid hd'
          clear hq hd'
          go_wp2
          go_ret2
          refine ⟨_, ret_o rfl (by rw [HD'.out]), ?_, hb4⟩
          rw [HD'.out]
          exact HO4.out
        · have hq' : ((qs.length : Int) == 8) = false := by rw [beq_eq_false_iff_ne]; omega
          have hd' : dput ps node now = (ins node now qs, true) := by rw [HD.out, HR.out, ← HQ.out, if_neg (by omega)]
          have HD' := Lib.hid hd'
          clear hq hd'
          go_wp2_with fail
          refine (bs_c _ qs node _ (Rd.of_own HO4.out) (dv_sorted HV.out) (dv_nodes HV.out) hn1 hn2 (by omega)).mono ?_
          rintro e w5 ⟨k5, hk5, hk51, hk52, rfl, hb5⟩
          have HO5 := Lib.hid (own_below HO4.out hb5)
          have hb5 := hb4.trans (hb5.mono hb4.size)
          clear HO4 hb4
          have HI := Lib.hid (ins_insAt (now := now) hk5 hk51 hk52)
          clear hk51 hk52
          obtain ⟨b5, hb5e⟩ : ∃ b, decide (k5 < qs.length ∧ (qs.getD k5 (0, 0)).1 = node) = b := ⟨_, rfl⟩
          rw [hb5e]
          clear hb5e
          have hnew := Lib.hid (heap_alloc_new w5 (.cells #[.int .i64 node, .int .i64 now] 30))
          have hbx := hb5.alloc hb5.size (.cells #[.int .i64 node, .int .i64 now] 30)
          go_wp2_with fail
          refine (ins_c w.heap.size _ qs k5 node now w5.heap.size _ (HO5.out.alloc _) (by simp; have := hb5.size; omega) (fun e => by have := (HO5.out.lt _ e).2; omega) hnew.out hk5 (by omega)).mono ?_
          rintro e w6 ⟨v6, rfl, hown6, hb6⟩
          have hb6 := hbx.trans hb6
          clear hbx hb5
          go_wp2
          go_ret2
          refine ⟨_, ret_o rfl (by rw [HD'.out]), ?_, hb6⟩
          rw [HD'.out, HI.out]
          exact hown6
      · have hl' : ((ps.length : Int) == 8) = false := by rw [beq_eq_false_iff_ne]; omega
        have hroom : room now ps = ps := by unfold room; rw [if_neg (by omega)]
        have hd' : dput ps node now = (ins node now ps, true) := by rw [HD.out, hroom, if_neg (by omega)]
        have HD' := Lib.hid hd'
        clear hroom hl hd'
        go_wp2_with fail
        refine (bs_c _ ps node _ (Rd.of_own HO.out) (dv_sorted HP.out.2.2) (dv_nodes HP.out.2.2) hn1 hn2 (by omega)).mono ?_
        rintro e w5 ⟨k5, hk5, hk51, hk52, rfl, hb5⟩
        have HO5 := Lib.hid (own_below HO.out hb5)
        have hb5 := hb3.trans (hb5.mono hb3.size)
        clear HO hb3
        have HI := Lib.hid (ins_insAt (now := now) hk5 hk51 hk52)
        clear hk51 hk52
        obtain ⟨b5, hb5e⟩ : ∃ b, decide (k5 < ps.length ∧ (ps.getD k5 (0, 0)).1 = node) = b := ⟨_, rfl⟩
        rw [hb5e]
        clear hb5e
        have hnew := Lib.hid (heap_alloc_new w5 (.cells #[.int .i64 node, .int .i64 now] 30))
        have hbx := hb5.alloc hb5.size (.cells #[.int .i64 node, .int .i64 now] 30)
        go_wp2_with fail
        refine (ins_c w.heap.size _ ps k5 node now w5.heap.size _ (HO5.out.alloc _) (by simp; have := hb5.size; omega) (fun e => by have := (HO5.out.lt _ e).2; omega) hnew.out hk5 (by omega)).mono ?_
        rintro e w6 ⟨v6, rfl, hown6, hb6⟩
        have hb6 := hbx.trans hb6
        clear hbx hb5
        go_wp2
        go_ret2
        refine ⟨_, ret_o rfl (by rw [HD'.out]), ?_, hb6⟩
        rw [HD'.out, HI.out]
        exact hown6
  · rw [dput_no hpa]
    have H := Lib.hid h
    clear h
    by_cases hdv : DV ps
    · have HV := Lib.hid (dvB_true hdv)
      by_cases hn : 0 ≤ node ∧ node ≤ 99
      · have hw : now < 0 ∨ 999 < now := by
          rcases Int.lt_or_le now 0 with h | h
          · exact .inl h
          · rcases Int.lt_or_le 999 now with h' | h'
            · exact .inr h'
            · exact absurd ⟨hdv, hn, h, h'⟩ hpa
        clear hpa hdv
        obtain ⟨hn1, hn2⟩ := hn
        go_enter Try.func10, Try.ntmps10
        go_wp2_with fail
        refine (dirValid_c _ ps _ H.out).mono ?_
        rintro e w1 ⟨rfl, hb1⟩
        rw [HV.out]
        go_wp2_with fail
        refine (within_t node 0 99 _ hn1 hn2).mono ?_
        rintro e _ ⟨rfl, rfl⟩
        go_wp2_with fail
        refine (within_f now 0 999 _ hw).mono ?_
        rintro e _ ⟨rfl, rfl⟩
        clear hw
        go_wp2
        go_ret2
        exact ⟨_, rfl, World.ownsRow_nil _ _ _ _, hb1⟩
      · have hn' : node < 0 ∨ 99 < node := by omega
        clear hpa hdv hn
        go_enter Try.func10, Try.ntmps10
        go_wp2_with fail
        refine (dirValid_c _ ps _ H.out).mono ?_
        rintro e w1 ⟨rfl, hb1⟩
        rw [HV.out]
        go_wp2_with fail
        refine (within_f node 0 99 _ hn').mono ?_
        rintro e _ ⟨rfl, rfl⟩
        clear hn'
        go_wp2
        go_ret2
        exact ⟨_, rfl, World.ownsRow_nil _ _ _ _, hb1⟩
    · have HV := Lib.hid (dvB_false hdv)
      clear hpa hdv
      go_enter Try.func10, Try.ntmps10
      go_wp2_with fail
      refine (dirValid_c _ ps _ H.out).mono ?_
      rintro e w1 ⟨rfl, hb1⟩
      rw [HV.out]
      go_wp2
      go_ret2
      exact ⟨_, rfl, World.ownsRow_nil _ _ _ _, hb1⟩
end Go.Proofs.Ytonahamnkbjipaa
