/- Contracts: DirectorySample of the program and of the reference give the same numbers. -/
import Derived.Test.YtgicdfpcegaooaaDir
import Derived.WalkLawsBesides
namespace Go.Proofs.Ytgicdfpcegaooaa
open Go.RowKit
theorem info_int : (Try.prog.info? 3).map (fun i => (i.zero, i.size, i.bytes)) = some (some (.int .i64 0), 1, 8) := by kernel_rfl
def sampAt (ps : List P2) (seed : Int) (i : Nat) : Int := (ps.getD (((seed % (ps.length : Int)) + i) % (ps.length : Int)).toNat (0, 0)).1
def sampN (ps : List P2) (many : Int) : Nat := (min (max many 0) (ps.length : Int)).toNat
def sampL (ps : List P2) (seed : Int) (k : Nat) : List Int := (List.range k).map (sampAt ps seed)
def samp (ps : List P2) (seed many : Int) : List Int := if DV ps ∧ 0 ≤ seed then sampL ps seed (sampN ps many) else []
theorem sampL_succ (ps : List P2) (seed : Int) (k : Nat) : sampL ps seed (k + 1) = sampL ps seed k ++ [sampAt ps seed k] := by simp [sampL, List.range_succ]
theorem sampL_len (ps : List P2) (seed : Int) (k : Nat) : (sampL ps seed k).length = k := by simp [sampL]
theorem samp_no {ps : List P2} {seed : Int} (many : Int) (h : ¬ (DV ps ∧ 0 ≤ seed)) : samp ps seed many = [] := by unfold samp; rw [if_neg h]
theorem samp_yes {ps : List P2} {seed : Int} (many : Int) (h : DV ps) (h' : 0 ≤ seed) : samp ps seed many = sampL ps seed (sampN ps many) := by unfold samp; rw [if_pos ⟨h, h'⟩]
theorem samp_close {w : World} {B B' T N M : Nat} {o : Value} {qs : List Int} {ps : List P2} {seed : Int} (hown : w.ownsRow B T 1 o qs.length (enc1 qs)) (hq : qs = sampL ps seed N) (hM : M = N) (hB : B' ≤ B) : w.ownsRow B' T 1 o M (enc1 (sampL ps seed M)) := by
  subst hM
  subst hq
  rw [sampL_len] at hown
  exact own_base hown hB
theorem samp_at {ps : List P2} {seed : Int} {k m1 m2 : Nat} {x y : Int} (h1 : seed % (ps.length : Int) = (m1 : Int)) (h2 : ((m1 : Int) + (k : Int)) % (ps.length : Int) = (m2 : Int)) (h : ps.getD m2 (0, 0) = (x, y)) : sampAt ps seed k = x := by
  unfold sampAt
  rw [h1, h2, Int.toNat_natCast, h]
set_option maxHeartbeats 1600000 in
theorem dirSample_c (v : Value) (ps : List P2) (seed many : Int) (w : World) (h : Rd 2 w v ps.length (enc2 ps)) :
    Calls Try.prog 34 #[v, .int .i64 seed, .int .i64 many] w (RetOwn 3 1 (samp ps seed many).length (enc1 (samp ps seed many)) w) := by
  by_cases hd : DV ps ∧ 0 ≤ seed
  · obtain ⟨hd, hs⟩ := hd
    rw [samp_yes many hd hs, sampL_len]
    have hb := dvB_true hd
    have h8 := hd.1
    have HD := Lib.hid hb
    clear hb hd
    have HR := h
    obtain ⟨-, a1, c1, rfl, h1, m1, k1⟩ := h
    unfold maxLen at m1
    go_enter Try.func34, Try.ntmps34
    go_wp2_with fail
    refine (dirValid_c _ ps _ HR).mono ?_
    rintro e w1 ⟨rfl, hb1⟩
    rw [HD.out]
    have HR1 := HR.below hb1
    clear HR k1
    by_cases hm0 : many ≤ 0
    · have HN := Lib.hid (show sampN ps many = 0 by unfold sampN; omega)
      go_wp2
      all_goals try omega
      all_goals
        have hown0 := own_empty w1 w1.heap.size 3 1 (Nat.le_refl _)
        go_loopw [7, 22] (fun o i wr => ∃ (k : Nat) (qs : List Int), k ≤ 0 ∧ i = .int .i64 k ∧ wr.ownsRow w1.heap.size 3 1 o qs.length (enc1 qs) ∧ Below w1.heap.size w1 wr ∧ qs.length ≤ k ∧ Hid (qs = sampL ps seed k)) (fun _ i _ => 0 - (intOf i).toNat)
        case atStart => exact ⟨0, [], Nat.zero_le _, rfl, hown0, (Below.refl _ _).alloc (Nat.le_refl _) _, Nat.le_refl _, rfl⟩
        case round =>
          clear hown0
          obtain ⟨k, qs, hk, rfl, hown, hb, hql, HQ⟩ := hrel
          have hsz := hb.size
          by_cases hlt : k < 0
          · exact absurd hlt (Nat.not_lt_zero _)
          · obtain rfl : k = 0 := by omega
            clear HR1
            go_wp2
            go_ret
            exact ⟨_, rfl, samp_close hown HQ.out HN.out hb1.size, hb1.trans (hb.mono hb1.size)⟩
    · by_cases hm1 : (ps.length : Int) < many
      · have HN := Lib.hid (show sampN ps many = ps.length by unfold sampN; omega)
        go_wp2
        all_goals try omega
        all_goals
          have hown0 := own_empty w1 w1.heap.size 3 1 (Nat.le_refl _)
          go_loopw [7, 22] (fun o i wr => ∃ (k : Nat) (qs : List Int), k ≤ ps.length ∧ i = .int .i64 k ∧ wr.ownsRow w1.heap.size 3 1 o qs.length (enc1 qs) ∧ Below w1.heap.size w1 wr ∧ qs.length ≤ k ∧ Hid (qs = sampL ps seed k)) (fun _ i _ => ps.length - (intOf i).toNat)
          case atStart => exact ⟨0, [], Nat.zero_le _, rfl, hown0, (Below.refl _ _).alloc (Nat.le_refl _) _, Nat.le_refl _, rfl⟩
          case round =>
            clear hown0
            obtain ⟨k, qs, hk, rfl, hown, hb, hql, HQ⟩ := hrel
            have hsz := hb.size
            by_cases hlt : k < ps.length
            · have hpos : 0 < ps.length := by omega
              obtain ⟨p1, hp1, hp1'⟩ : ∃ m : Nat, seed % (ps.length : Int) = (m : Int) ∧ m < ps.length := ⟨(seed % (ps.length : Int)).toNat, by rw [Int.toNat_of_nonneg (Int.emod_nonneg _ (by omega))], by have := Int.emod_lt_of_pos seed (show (0 : Int) < ps.length by omega); omega⟩
              obtain ⟨p2, hp2, hp2'⟩ : ∃ m : Nat, ((p1 : Int) + (k : Int)) % (ps.length : Int) = (m : Int) ∧ m < ps.length := ⟨(p1 + k) % ps.length, by rw [Int.natCast_emod, Int.natCast_add], Nat.mod_lt _ hpos⟩
              obtain ⟨-, a2, c2, e2, -, -, k2⟩ := HR1
              obtain ⟨rfl, -, rfl⟩ : a1 = a2 ∧ ps.length = ps.length ∧ c1 = c2 := by simpa using e2
              clear e2
              obtain ⟨b1, o1, rfl, g1⟩ := k2 (by omega)
              obtain ⟨x, y, e1, u1, -⟩ := at2 hb g1 p2 hp2'
              have HS := Lib.hid (samp_at hp1 hp2 e1)
              clear e1 k2 g1
              go_wp2_with (at_builtin; refine wpList_app1 _ rfl _ _ 43 rfl w1.heap.size 3 Try.underlying43 info_int _ qs rfl hown _ _ _ rfl (by omega) hsz ?_)
              intro v' w4 rs hrs hrl hown4 hg4
              have hb4 := hb.grown hg4 hsz (fun k hk => (hown.lt k hk).1)
              clear hown hb hg4 hp1 hp2
              go_wp2
              go_roundw
              case rel => exact ⟨k + 1, rs, by omega, by go_num, hown4, hb4, by omega, by rw [hrs.out, HQ.out, sampL_succ, HS.out]; rfl⟩
              case measure => simp [intOf]; omega
            · obtain rfl : k = ps.length := by omega
              clear HR1
              go_wp2
              go_ret
              exact ⟨_, rfl, samp_close hown HQ.out HN.out hb1.size, hb1.trans (hb.mono hb1.size)⟩
      · obtain ⟨N, rfl⟩ : ∃ N : Nat, many = (N : Int) := ⟨many.toNat, by omega⟩
        have HN := Lib.hid (show sampN ps (N : Int) = N by unfold sampN; omega)
        go_wp2
        all_goals try omega
        all_goals
          have hown0 := own_empty w1 w1.heap.size 3 1 (Nat.le_refl _)
          go_loopw [7, 22] (fun o i wr => ∃ (k : Nat) (qs : List Int), k ≤ N ∧ i = .int .i64 k ∧ wr.ownsRow w1.heap.size 3 1 o qs.length (enc1 qs) ∧ Below w1.heap.size w1 wr ∧ qs.length ≤ k ∧ Hid (qs = sampL ps seed k)) (fun _ i _ => N - (intOf i).toNat)
          case atStart => exact ⟨0, [], Nat.zero_le _, rfl, hown0, (Below.refl _ _).alloc (Nat.le_refl _) _, Nat.le_refl _, rfl⟩
          case round =>
            clear hown0
            obtain ⟨k, qs, hk, rfl, hown, hb, hql, HQ⟩ := hrel
            have hsz := hb.size
            by_cases hlt : k < N
            · have hpos : 0 < ps.length := by omega
              obtain ⟨p1, hp1, hp1'⟩ : ∃ m : Nat, seed % (ps.length : Int) = (m : Int) ∧ m < ps.length := ⟨(seed % (ps.length : Int)).toNat, by rw [Int.toNat_of_nonneg (Int.emod_nonneg _ (by omega))], by have := Int.emod_lt_of_pos seed (show (0 : Int) < ps.length by omega); omega⟩
              obtain ⟨p2, hp2, hp2'⟩ : ∃ m : Nat, ((p1 : Int) + (k : Int)) % (ps.length : Int) = (m : Int) ∧ m < ps.length := ⟨(p1 + k) % ps.length, by rw [Int.natCast_emod, Int.natCast_add], Nat.mod_lt _ hpos⟩
              obtain ⟨-, a2, c2, e2, -, -, k2⟩ := HR1
              obtain ⟨rfl, -, rfl⟩ : a1 = a2 ∧ ps.length = ps.length ∧ c1 = c2 := by simpa using e2
              clear e2
              obtain ⟨b1, o1, rfl, g1⟩ := k2 (by omega)
              obtain ⟨x, y, e1, u1, -⟩ := at2 hb g1 p2 hp2'
              have HS := Lib.hid (samp_at hp1 hp2 e1)
              clear e1 k2 g1
              go_wp2_with (at_builtin; refine wpList_app1 _ rfl _ _ 43 rfl w1.heap.size 3 Try.underlying43 info_int _ qs rfl hown _ _ _ rfl (by omega) hsz ?_)
              intro v' w4 rs hrs hrl hown4 hg4
              have hb4 := hb.grown hg4 hsz (fun k hk => (hown.lt k hk).1)
              clear hown hb hg4 hp1 hp2
              go_wp2
              go_roundw
              case rel => exact ⟨k + 1, rs, by omega, by go_num, hown4, hb4, by omega, by rw [hrs.out, HQ.out, sampL_succ, HS.out]; rfl⟩
              case measure => simp [intOf]; omega
            · obtain rfl : k = N := by omega
              clear HR1
              go_wp2
              go_ret
              exact ⟨_, rfl, samp_close hown HQ.out HN.out hb1.size, hb1.trans (hb.mono hb1.size)⟩
  · rw [samp_no many hd]
    by_cases hv : DV ps
    · have hs : seed < 0 := by have : ¬ 0 ≤ seed := fun h => hd ⟨hv, h⟩; omega
      have HD := Lib.hid (dvB_true hv)
      clear hd hv
      go_enter Try.func34, Try.ntmps34
      go_wp2_with fail
      refine (dirValid_c _ ps _ h).mono ?_
      rintro e w1 ⟨rfl, hb1⟩
      rw [HD.out]
      go_wp2
      go_ret
      exact ⟨_, rfl, World.ownsRow_nil _ _ _ _, hb1⟩
    · have HD := Lib.hid (dvB_false hv)
      clear hd hv
      go_enter Try.func34, Try.ntmps34
      go_wp2_with fail
      refine (dirValid_c _ ps _ h).mono ?_
      rintro e w1 ⟨rfl, hb1⟩
      rw [HD.out]
      go_wp2
      go_ret
      exact ⟨_, rfl, World.ownsRow_nil _ _ _ _, hb1⟩
set_option maxHeartbeats 1600000 in
theorem specDirSample_c (v : Value) (ps : List P2) (seed many : Int) (w : World) (h : Rd 2 w v ps.length (enc2 ps)) :
    Calls Try.prog 33 #[v, .int .i64 seed, .int .i64 many] w (RetOwn 3 1 (samp ps seed many).length (enc1 (samp ps seed many)) w) := by
  have HR1 := h
  obtain ⟨-, a1, c1, rfl, h1, m1, k1⟩ := h
  unfold maxLen at m1
  clear k1
  by_cases hd : DV ps ∧ 0 ≤ seed
  · obtain ⟨hd, hs⟩ := hd
    rw [samp_yes many hd hs, sampL_len]
    have hb := dvB_true hd
    have h8 := hd.1
    have HD := Lib.hid hb
    clear hb hd
    go_enter Try.func33, Try.ntmps33
    go_wp2
    have hown0 := own_empty w w.heap.size 3 1 (Nat.le_refl _)
    go_loopw [7, 8] (fun o i wr => ∃ (k : Nat) (qs : List Int), k ≤ sampN ps many ∧ i = .int .i64 k ∧ wr.ownsRow w.heap.size 3 1 o qs.length (enc1 qs) ∧ Below w.heap.size w wr ∧ qs.length ≤ k ∧ Hid (qs = sampL ps seed k)) (fun _ i _ => sampN ps many - (intOf i).toNat)
    case atStart => exact ⟨0, [], Nat.zero_le _, rfl, hown0, (Below.refl _ _).alloc (Nat.le_refl _) _, Nat.le_refl _, rfl⟩
    case round =>
      clear hown0
      obtain ⟨k, qs, hk, rfl, hown, hb, hql, HQ⟩ := hrel
      have hsz := hb.size
      by_cases hlt : k < sampN ps many
      · have hpos : 0 < ps.length := by unfold sampN at hlt; omega
        obtain ⟨p1, hp1, hp1'⟩ : ∃ m : Nat, seed % (ps.length : Int) = (m : Int) ∧ m < ps.length := ⟨(seed % (ps.length : Int)).toNat, by rw [Int.toNat_of_nonneg (Int.emod_nonneg _ (by omega))], by have := Int.emod_lt_of_pos seed (show (0 : Int) < ps.length by omega); omega⟩
        obtain ⟨p2, hp2, hp2'⟩ : ∃ m : Nat, ((p1 : Int) + (k : Int)) % (ps.length : Int) = (m : Int) ∧ m < ps.length := ⟨(p1 + k) % ps.length, by rw [Int.natCast_emod, Int.natCast_add], Nat.mod_lt _ hpos⟩
        have HRk := HR1.below hb
        obtain ⟨-, a2, c2, e2, -, -, k2⟩ := HR1
        obtain ⟨rfl, -, rfl⟩ : a1 = a2 ∧ ps.length = ps.length ∧ c1 = c2 := by simpa using e2
        clear e2
        obtain ⟨b1, o1, rfl, g1⟩ := k2 (by omega)
        obtain ⟨x, y, e1, u1, -⟩ := at2 hb g1 p2 hp2'
        have HS := Lib.hid (samp_at hp1 hp2 e1)
        clear e1 k2 g1
        have hkm : (k : Int) < many := by unfold sampN at hlt; omega
        have hkl : k < ps.length := by unfold sampN at hlt; omega
        go_wp2_with fail
        refine (specDirValid_c _ ps _ HRk).mono ?_
        rintro e w3 ⟨rfl, hb3⟩
        rw [HD.out]
        have u1 := cell_keep hb3 u1
        have hown := own_below hown hb3
        have hb := hb.trans (hb3.mono hsz)
        have hsz := hb.size
        clear hb3
        go_wp2_with (at_builtin; refine wpList_app1 _ rfl _ _ 43 rfl w.heap.size 3 Try.underlying43 info_int _ qs rfl hown _ _ _ rfl (by omega) hsz ?_)
        intro v' w4 rs hrs hrl hown4 hg4
        have hb4 := hb.grown hg4 hsz (fun k hk => (hown.lt k hk).1)
        clear hown hb hg4 hp1 hp2
        go_wp2
        go_roundw
        case rel => exact ⟨k + 1, rs, by omega, by go_num, hown4, hb4, by omega, by rw [hrs.out, HQ.out, sampL_succ, HS.out]; rfl⟩
        case measure => simp [intOf]; omega
      · obtain rfl : k = sampN ps many := by omega
        have HRk : Hid (Rd 2 wr (.slice a1 ps.length c1) ps.length (enc2 ps)) := HR1.below hb
        clear HR1
        by_cases hm : many ≤ (sampN ps many : Nat)
        · go_wp2
          go_ret
          exact ⟨_, rfl, samp_close hown HQ.out rfl (Nat.le_refl _), hb⟩
        · have hl : ps.length ≤ sampN ps many := by unfold sampN at hm ⊢; omega
          go_wp2
          go_ret
          exact ⟨_, rfl, samp_close hown HQ.out rfl (Nat.le_refl _), hb⟩
  · rw [samp_no many hd]
    go_enter Try.func33, Try.ntmps33
    go_wp2
    have hown0 := own_empty w w.heap.size 3 1 (Nat.le_refl _)
    have hb0 := (Below.refl w.heap.size w).alloc (Nat.le_refl _) (.cells #[] 3)
    have HR2 := HR1.below hb0
    refine wp_loop_once ?_
    by_cases hm : many ≤ 0
    · clear HR1 HR2
      go_wp2
      go_ret
      exact ⟨_, rfl, hown0, hb0⟩
    · by_cases hl : ps.length = 0
      · have hl' : ps.length ≤ 0 := by omega
        clear HR1 HR2 hl
        go_wp2
        go_ret
        exact ⟨_, rfl, hown0, hb0⟩
      · have hl' : 0 < ps.length := by omega
        by_cases hs : 0 ≤ seed
        · have HD := Lib.hid (dvB_false (ps := ps) (fun hv => hd ⟨hv, hs⟩))
          clear HR1 hl hd
          go_wp2_with fail
          refine (specDirValid_c _ ps _ HR2).mono ?_
          rintro e w3 ⟨rfl, hb3⟩
          rw [HD.out]
          have hown3 := own_below hown0 hb3
          have hb3' := hb0.trans (hb3.mono hb0.size)
          clear hown0 hb0 hb3 HR2
          go_wp2
          go_ret
          exact ⟨_, rfl, hown3, hb3'⟩
        · clear HR1 HR2 hl hd
          go_wp2
          go_ret
          exact ⟨_, rfl, hown0, hb0⟩
end Go.Proofs.Ytgicdfpcegaooaa
