/- Contracts of the draws of texts and blocks; of the reference's HeadPublic, HeadMake. -/
import Derived.Test.YtbjndbaljenlgaaDg
import Derived.Test.YtbjndbaljenlgaaEf
import Derived.Laws.BytesArg
namespace Go.Proofs.Ytbjndbaljenlgaa
open Go.RowKit
set_option linter.unusedSimpArgs false
def TextP (B r P : Nat) (w : World) (e : Ending) (w' : World) : Prop := ∃ s : ByteArray, e = .returned (.string s) ∧ s.size ≤ 10 ∧ Reader B w' r (P + 13) ∧ w.grownBy w' (some r)
set_option maxRecDepth 10000 in
theorem text_d (B r P : Nat) (w : World) (h : Reader B w r P) (hP : P ≤ 4294967200) : Calls Try.prog 117 #[.pointer (some ⟨r, 0, none⟩)] w (TextP B r P w) := by
  have hrB := h.1
  have hBw := h.2.1
  go_enter Try.func117, Try.ntmps117
  go_wp2_with fail
  refine (pick_c B r _ 9 _ h (by omega)).mono ?_
  rintro e w1 ⟨n0, rfl, hn0, hn1, hR, hg⟩
  have hn1 := hn1 (by omega)
  clear h
  go_wp2_with fail
  refine (pick_c B r _ 20 _ hR (by omega)).mono ?_
  rintro e w2 ⟨c, rfl, hc0, -, hR2, hg2⟩
  have HG := Lib.hid (grown_trans hg hg2)
  clear hR hg hg2
  by_cases hc : c = 0
  · subst hc
    go_wp2_with fail
    refine (pick_c B r _ 3 _ hR2 (by omega)).mono ?_
    rintro e w3 ⟨d, rfl, hd0, hd1, hR3, hg3⟩
    have hd1 := hd1 (by omega)
    have HG := Lib.hid (grown_trans HG.out hg3)
    have hR2 := hR3.le (show P + 1 + 1 + 1 ≤ P + 3 by omega)
    clear hg3 hR3
    obtain ⟨m, hm⟩ : ∃ m, 8 + d = m := ⟨_, rfl⟩
    have hm0 : 0 ≤ m := by omega
    have hm1 : m < 11 := by omega
    have hw : IntKind.i64.wrap (8 + d) = m := by rw [IntKind.wrap_i64]; omega
    go_wp2
    (try rw [hm])
    go_loopw [3, 5] (fun o i wr => ∃ (k : Nat) (s : ByteArray), (k : Int) ≤ m ∧ i = .int .i64 k ∧ o = .string s ∧ s.size = k ∧ Hid (Reader B wr r (P + 3 + k) ∧ w.grownBy wr (some r))) (fun _ i _ => m.toNat - (intOf i).toNat)
    case atStart => exact ⟨0, ByteArray.empty, hm0, rfl, rfl, rfl, Lib.hid ⟨hR2.le (by omega), HG.out⟩⟩
    case round =>
      obtain ⟨k, s, hk, rfl, rfl, hs, HR⟩ := hrel
      by_cases hlt : (k : Int) < m
      · have hk10 : k < 10 := by omega
        go_wp2_with fail
        refine (pick_c B r _ 26 _ HR.out.1 (by omega)).mono ?_
        rintro e w3 ⟨x, rfl, hx0, hx1, hR3, hg3⟩
        have hx1 := hx1 (by omega)
        have hcv := run_convert_bytes_arg (P := Try.prog) (w3.alloc (.cells #[.int .u8 (97 + x)] 5)) 22 5 Try.underlying22 Try.underlying5 w3.heap.size 0 1 1 [97 + x] rfl (fun i hi => by
          obtain rfl : i = 0 := by omega
          exact cell_new rfl rfl) 9 Try.underlying9
        obtain ⟨s1, hs1⟩ : ∃ s1, strOfNums [97 + x] = s1 := ⟨_, rfl⟩
        have hsz : s1.size = 1 := by rw [← hs1]; rfl
        rw [hs1] at hcv
        clear hs1
        have HN := Lib.hid (And.intro (hR3.kept (World.grownBy_alloc w3 (.cells #[.int .u8 (97 + x)] 5) none) (fun k hk => by cases hk)) (grown_trans (grown_trans HR.out.2 hg3) (World.grownBy_alloc w3 (.cells #[.int .u8 (97 + x)] 5) (some r))))
        clear HR hR3 hg3
        go_wp2
        go_roundw
        case rel => exact ⟨k + 1, s ++ s1, by omega, by go_num, rfl, by rw [ByteArray.size_append]; omega, Lib.hid ⟨HN.out.1.le (by omega), HN.out.2⟩⟩
        case measure => simp [intOf]; omega
      · go_wp2
        go_ret
        exact ⟨s, rfl, by omega, HR.out.1.le (by omega), HR.out.2⟩
  · have hcb : (c == 0) = false := by rw [beq_eq_false_iff_ne]; exact hc
    obtain ⟨m, rfl⟩ : ∃ m, m = n0 := ⟨_, rfl⟩
    have hm0 : 0 ≤ m := hn0
    have hm1 : m < 11 := by omega
    go_wp2
    go_loopw [3, 5] (fun o i wr => ∃ (k : Nat) (s : ByteArray), (k : Int) ≤ m ∧ i = .int .i64 k ∧ o = .string s ∧ s.size = k ∧ Hid (Reader B wr r (P + 3 + k) ∧ w.grownBy wr (some r))) (fun _ i _ => m.toNat - (intOf i).toNat)
    case atStart => exact ⟨0, ByteArray.empty, hm0, rfl, rfl, rfl, Lib.hid ⟨hR2.le (by omega), HG.out⟩⟩
    case round =>
      obtain ⟨k, s, hk, rfl, rfl, hs, HR⟩ := hrel
      by_cases hlt : (k : Int) < m
      · have hk10 : k < 10 := by omega
        go_wp2_with fail
        refine (pick_c B r _ 26 _ HR.out.1 (by omega)).mono ?_
        rintro e w3 ⟨x, rfl, hx0, hx1, hR3, hg3⟩
        have hx1 := hx1 (by omega)
        have hcv := run_convert_bytes_arg (P := Try.prog) (w3.alloc (.cells #[.int .u8 (97 + x)] 5)) 22 5 Try.underlying22 Try.underlying5 w3.heap.size 0 1 1 [97 + x] rfl (fun i hi => by
          obtain rfl : i = 0 := by omega
          exact cell_new rfl rfl) 9 Try.underlying9
        obtain ⟨s1, hs1⟩ : ∃ s1, strOfNums [97 + x] = s1 := ⟨_, rfl⟩
        have hsz : s1.size = 1 := by rw [← hs1]; rfl
        rw [hs1] at hcv
        clear hs1
        have HN := Lib.hid (And.intro (hR3.kept (World.grownBy_alloc w3 (.cells #[.int .u8 (97 + x)] 5) none) (fun k hk => by cases hk)) (grown_trans (grown_trans HR.out.2 hg3) (World.grownBy_alloc w3 (.cells #[.int .u8 (97 + x)] 5) (some r))))
        clear HR hR3 hg3
        go_wp2
        go_roundw
        case rel => exact ⟨k + 1, s ++ s1, by omega, by go_num, rfl, by rw [ByteArray.size_append]; omega, Lib.hid ⟨HN.out.1.le (by omega), HN.out.2⟩⟩
        case measure => simp [intOf]; omega
      · go_wp2
        go_ret
        exact ⟨s, rfl, by omega, HR.out.1.le (by omega), HR.out.2⟩
/-- append of one cell to a slice of the call's own -/
theorem wpList_appV {P : Program} (w : World) {ops : Array Oper} {rest : List Oper} {o : Oper} {a : Act} {Q : Exit → Act → World → Prop} (hgd : o.guard = none) (s x : Operand) (t : TypeId)
    (ho : o.op = .call { callee := .builtin .append, args := #[s, x], argTypes := #[t, t] }) (base : Nat) (e : TypeId) (hu : P.underlying t = some (.slice e)) (z : Value) (by_ : Nat)
    (hinfo : (P.info? e).map (fun i => (i.zero, i.size, i.bytes)) = some (some z, 1, by_)) (hz : z.cells.size = 1) (hby : by_ ≤ 16) (v : Value) (n : Nat) (flat : List Value) (hs : a.eval s = v) (hown : w.ownsRow base e 1 v n flat)
    (u : Value) (hu1 : u.oneCell' = true) (T : TypeId) (c : Nat) (hx : a.eval x = .slice (some ⟨w.heap.size, 0, none⟩) 1 c) (hn : n ≤ 1048576) (hb : base ≤ w.heap.size)
    (h : ∀ v' w', w'.ownsRow base e 1 v' (n + 1) (flat ++ [u]) → w.grownBy w' v.ownBlock → wpList P ops Q rest (a.put o.dst v') w') :
    wpList P ops Q (o :: rest) a (w.alloc (.cells #[u] T)) := by
  obtain ⟨i0, hi, hz0, hz1, hz2⟩ := info_parts hinfo
  refine wpList_append_own _ hgd s x t ho base e i0 z 1 by_ hu hi hz0 hz1 hz2 hz (by decide) v n flat hs (hown.alloc _) ⟨w.heap.size, 0, none⟩ 1 c [u] hx rfl ?_ ?_ ?_ ?_ ?_ ?_
  · intro j u' hj
    match j, hj with
    | 0, hj => simp at hj; subst hj; simp [Addr.add]
  · intro u' hu'; simp at hu'; subst hu'; exact hu1
  · unfold maxLen; omega
  · have : (n + 1) * by_ ≤ (n + 1) * 16 := Nat.mul_le_mul_left _ hby
    omega
  · simp; omega
  · intro v' w' h1 h2 _
    exact h v' w' h1 (grown_of_alloc h2)
/-- texts of at most eight bytes, at most sixteen, in memory of the call's own -/
def BlkP (B r P : Nat) (w : World) (e : Ending) (w' : World) : Prop :=
  ∃ (v : Value) (bs : List ByteArray), e = .returned v ∧ w'.ownsRow w.heap.size 9 1 v bs.length (encS bs) ∧ bs.length ≤ 16 ∧ (∀ s ∈ bs, s.size ≤ 8) ∧ Reader B w' r (P + 300) ∧ w.grownBy w' (some r)
theorem grown_own {w w1 w2 : World} {r e sz n : Nat} {v : Value} {xs : List Value} (h : w.grownBy w1 (some r)) (ho : w1.ownsRow w.heap.size e sz v n xs) (hg : w1.grownBy w2 v.ownBlock) : w.grownBy w2 (some r) :=
  ⟨hg.os.trans h.os, hg.tape.trans h.tape, hg.output.trans h.output, Nat.le_trans h.size hg.size, fun k hk hne => (hg.block k (Nat.lt_of_lt_of_le hk h.size) (fun e => by have := (ho.lt k e.symm).1; omega)).trans (h.block k hk hne)⟩
set_option maxHeartbeats 1000000 in
theorem blocks_d (B r P : Nat) (w : World) (h : Reader B w r P) (hP : P ≤ 4294967000) : Calls Try.prog 84 #[.pointer (some ⟨r, 0, none⟩)] w (BlkP B r P w) := by
  have hrB := h.1
  have hBw := h.2.1
  have h0 := h.kept (World.grownBy_alloc w (.cells #[] 9) none) (fun k hk => by cases hk)
  have hown0 := own_empty w w.heap.size 9 1 (Nat.le_refl _)
  have hg0 := World.grownBy_alloc w (.cells #[] 9) (some r)
  go_enter Try.func84, Try.ntmps84
  go_wp2_with fail
  refine (pick_c B r _ 13 _ h0 (by omega)).mono ?_
  rintro e w1 ⟨n0, rfl, hn0, hn1, hR, hg⟩
  have hn1 := hn1 (by omega)
  have hown1 := own_kept_r hown0 hg (Nat.lt_of_lt_of_le hrB hBw)
  clear h
  go_wp2_with fail
  refine (pick_c B r _ 8 _ hR (by omega)).mono ?_
  rintro e w2 ⟨c, rfl, hc0, -, hR2, hg2⟩
  have HO := Lib.hid (own_kept_r hown1 hg2 (Nat.lt_of_lt_of_le hrB hBw))
  have HG := Lib.hid (grown_trans hg0 (grown_trans hg hg2))
  clear hR hg hg2 h0 hown0 hg0 hown1
  by_cases hc : c = 0
  · subst hc
    obtain ⟨m, hm⟩ : ∃ m : Int, m = 16 := ⟨_, rfl⟩
    have hm0 : 0 ≤ m := by omega
    have hm1 : m ≤ 16 := by omega
    go_wp2
    rw [← hm]
    clear hm
    go_loopw [3, 5, 6] (fun o i _ wr => ∃ (k : Nat) (bs : List ByteArray), (k : Int) ≤ m ∧ i = .int .i64 k ∧ bs.length = k ∧ wr.ownsRow w.heap.size 9 1 o bs.length (encS bs) ∧ Hid ((∀ s ∈ bs, s.size ≤ 8) ∧ Reader B wr r (P + 2 + 13 * k) ∧ w.grownBy wr (some r))) (fun _ i _ _ => m.toNat - (intOf i).toNat)
    case atStart => exact ⟨0, [], hm0, rfl, rfl, by exact HO.out, Lib.hid ⟨fun s hs => absurd hs List.not_mem_nil, hR2, HG.out⟩⟩
    case round =>
      obtain ⟨k, bs, hk, rfl, hbl, hown, HR⟩ := hrel
      by_cases hlt : (k : Int) < m
      · have hk16 : k < 16 := by omega
        go_wp2_with fail
        refine (text_d B r _ _ HR.out.2.1 (by omega)).mono ?_
        rintro e w3 ⟨s, rfl, hs10, hR3, hg3⟩
        have hown3 := own_kept_r hown hg3 (Nat.lt_of_lt_of_le hrB hBw)
        have HN := Lib.hid (And.intro HR.out.1 (And.intro hR3 (grown_trans HR.out.2.2 hg3)))
        clear hown HR hR3 hg3
        by_cases h8 : 8 < (s.size : Int)
        · have hsz : (s.extract 0 8).size ≤ 8 := by rw [ByteArray.size_extract]; omega
          go_wp2_with (at_builtin; refine wpList_appV _ rfl _ _ 36 rfl w.heap.size 9 Try.underlying36 (.string ByteArray.empty) 16 info_string rfl (by omega) _ bs.length _ rfl hown3 (.string (s.extract 0 8)) rfl _ _ rfl (by omega) HN.out.2.2.size ?_)
          intro v' w4 hown4 hg4
          have HN4 := Lib.hid (show (∀ s' ∈ bs ++ [s.extract 0 8], s'.size ≤ 8) ∧ _ ∧ _ from ⟨fun s' hs' => by
            rcases List.mem_append.1 hs' with h | h
            · exact HN.out.1 s' h
            · rw [List.mem_singleton.1 h]; exact hsz, HN.out.2.1.kept hg4 (fun k hk => Nat.le_trans hBw (hown3.lt k hk).1), grown_own HN.out.2.2 hown3 hg4⟩)
          rw [← encS_snoc] at hown4
          clear HN hown3 hg4
          go_wp2
          go_roundw
          case rel => exact ⟨k + 1, bs ++ [s.extract 0 8], by omega, by go_num, by simp [hbl], by rw [List.length_append, List.length_singleton, hbl]; exact hbl ▸ hown4, Lib.hid ⟨HN4.out.1, HN4.out.2.1.le (by omega), HN4.out.2.2⟩⟩
          case measure => simp [intOf]; omega
        · have h8' : (s.size : Int) ≤ 8 := by omega
          go_wp2_with (at_builtin; refine wpList_appV _ rfl _ _ 36 rfl w.heap.size 9 Try.underlying36 (.string ByteArray.empty) 16 info_string rfl (by omega) _ bs.length _ rfl hown3 (.string s) rfl _ _ rfl (by omega) HN.out.2.2.size ?_)
          intro v' w4 hown4 hg4
          have HN4 := Lib.hid (show (∀ s' ∈ bs ++ [s], s'.size ≤ 8) ∧ _ ∧ _ from ⟨fun s' hs' => by
            rcases List.mem_append.1 hs' with h | h
            · exact HN.out.1 s' h
            · rw [List.mem_singleton.1 h]; omega, HN.out.2.1.kept hg4 (fun k hk => Nat.le_trans hBw (hown3.lt k hk).1), grown_own HN.out.2.2 hown3 hg4⟩)
          rw [← encS_snoc] at hown4
          clear HN hown3 hg4
          go_wp2
          go_roundw
          case rel => exact ⟨k + 1, bs ++ [s], by omega, by go_num, by simp [hbl], by rw [List.length_append, List.length_singleton, hbl]; exact hbl ▸ hown4, Lib.hid ⟨HN4.out.1, HN4.out.2.1.le (by omega), HN4.out.2.2⟩⟩
          case measure => simp [intOf]; omega
      · go_wp2
        go_ret
        exact ⟨_, bs, rfl, hown, by omega, HR.out.1, HR.out.2.1.le (by omega), HR.out.2.2⟩
  · have hcb : (c == 0) = false := by rw [beq_eq_false_iff_ne]; exact hc
    obtain ⟨m, rfl⟩ : ∃ m, m = n0 := ⟨_, rfl⟩
    have hm0 : 0 ≤ m := hn0
    have hm1 : m ≤ 16 := by omega
    go_wp2
    go_loopw [3, 5, 6] (fun o i _ wr => ∃ (k : Nat) (bs : List ByteArray), (k : Int) ≤ m ∧ i = .int .i64 k ∧ bs.length = k ∧ wr.ownsRow w.heap.size 9 1 o bs.length (encS bs) ∧ Hid ((∀ s ∈ bs, s.size ≤ 8) ∧ Reader B wr r (P + 2 + 13 * k) ∧ w.grownBy wr (some r))) (fun _ i _ _ => m.toNat - (intOf i).toNat)
    case atStart => exact ⟨0, [], hm0, rfl, rfl, by exact HO.out, Lib.hid ⟨fun s hs => absurd hs List.not_mem_nil, hR2, HG.out⟩⟩
    case round =>
      obtain ⟨k, bs, hk, rfl, hbl, hown, HR⟩ := hrel
      by_cases hlt : (k : Int) < m
      · have hk16 : k < 16 := by omega
        go_wp2_with fail
        refine (text_d B r _ _ HR.out.2.1 (by omega)).mono ?_
        rintro e w3 ⟨s, rfl, hs10, hR3, hg3⟩
        have hown3 := own_kept_r hown hg3 (Nat.lt_of_lt_of_le hrB hBw)
        have HN := Lib.hid (And.intro HR.out.1 (And.intro hR3 (grown_trans HR.out.2.2 hg3)))
        clear hown HR hR3 hg3
        by_cases h8 : 8 < (s.size : Int)
        · have hsz : (s.extract 0 8).size ≤ 8 := by rw [ByteArray.size_extract]; omega
          go_wp2_with (at_builtin; refine wpList_appV _ rfl _ _ 36 rfl w.heap.size 9 Try.underlying36 (.string ByteArray.empty) 16 info_string rfl (by omega) _ bs.length _ rfl hown3 (.string (s.extract 0 8)) rfl _ _ rfl (by omega) HN.out.2.2.size ?_)
          intro v' w4 hown4 hg4
          have HN4 := Lib.hid (show (∀ s' ∈ bs ++ [s.extract 0 8], s'.size ≤ 8) ∧ _ ∧ _ from ⟨fun s' hs' => by
            rcases List.mem_append.1 hs' with h | h
            · exact HN.out.1 s' h
            · rw [List.mem_singleton.1 h]; exact hsz, HN.out.2.1.kept hg4 (fun k hk => Nat.le_trans hBw (hown3.lt k hk).1), grown_own HN.out.2.2 hown3 hg4⟩)
          rw [← encS_snoc] at hown4
          clear HN hown3 hg4
          go_wp2
          go_roundw
          case rel => exact ⟨k + 1, bs ++ [s.extract 0 8], by omega, by go_num, by simp [hbl], by rw [List.length_append, List.length_singleton, hbl]; exact hbl ▸ hown4, Lib.hid ⟨HN4.out.1, HN4.out.2.1.le (by omega), HN4.out.2.2⟩⟩
          case measure => simp [intOf]; omega
        · have h8' : (s.size : Int) ≤ 8 := by omega
          go_wp2_with (at_builtin; refine wpList_appV _ rfl _ _ 36 rfl w.heap.size 9 Try.underlying36 (.string ByteArray.empty) 16 info_string rfl (by omega) _ bs.length _ rfl hown3 (.string s) rfl _ _ rfl (by omega) HN.out.2.2.size ?_)
          intro v' w4 hown4 hg4
          have HN4 := Lib.hid (show (∀ s' ∈ bs ++ [s], s'.size ≤ 8) ∧ _ ∧ _ from ⟨fun s' hs' => by
            rcases List.mem_append.1 hs' with h | h
            · exact HN.out.1 s' h
            · rw [List.mem_singleton.1 h]; omega, HN.out.2.1.kept hg4 (fun k hk => Nat.le_trans hBw (hown3.lt k hk).1), grown_own HN.out.2.2 hown3 hg4⟩)
          rw [← encS_snoc] at hown4
          clear HN hown3 hg4
          go_wp2
          go_roundw
          case rel => exact ⟨k + 1, bs ++ [s], by omega, by go_num, by simp [hbl], by rw [List.length_append, List.length_singleton, hbl]; exact hbl ▸ hown4, Lib.hid ⟨HN4.out.1, HN4.out.2.1.le (by omega), HN4.out.2.2⟩⟩
          case measure => simp [intOf]; omega
      · go_wp2
        go_ret
        exact ⟨_, bs, rfl, hown, by omega, HR.out.1, HR.out.2.1.le (by omega), HR.out.2.2⟩
end Go.Proofs.Ytbjndbaljenlgaa
