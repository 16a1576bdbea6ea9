/- Contracts of the program's trees of digests: areLeaves, treesFrom, root, roots, digestOf, TreePeaks, TreeDigest, at leaves that are digests. -/
import Derived.Test.YtbjndbaljenlgaaHd
import Derived.Test.YtbjndbaljenlgaaSub
import Derived.IntWalk
namespace Go.Proofs.Ytbjndbaljenlgaa
open Go.RowKit
theorem info_int : (Try.prog.info? 3).map (fun i => (i.zero, i.size, i.bytes)) = some (some (.int .i64 0), 1, 8) := by kernel_rfl
theorem info_tree : (Try.prog.info? 138).map (fun i => (i.zero, i.size, i.bytes)) = some (some zero2, 2, 16) := by kernel_rfl
def RetInt (n : Int) (w : World) (e : Ending) (w' : World) : Prop := e = .returned (.int .i64 n) ∧ Below w.heap.size w w'
def RetBool (b : Bool) (w : World) (e : Ending) (w' : World) : Prop := e = .returned (.bool b) ∧ Below w.heap.size w w'
theorem getD_mem {L : List Int} {k : Nat} (hk : k < L.length) : L.getD k 0 ∈ L := by
  rw [List.getD_eq_getElem?_getD, List.getElem?_eq_getElem hk, Option.getD_some]; exact List.getElem_mem hk
theorem areDigests_c (v : Value) (L : List Int) (w : World) (h : Rd 1 w v L.length (enc1 L)) (hL : ∀ x ∈ L, Dg x) (hn : L.length ≤ 16) : Calls Try.prog 121 #[v] w (RetBool true w) := by
  obtain ⟨-, a, cap, rfl, h1, h2, h3⟩ := h
  unfold maxLen at h2
  have HC := Lib.hid h3
  have HL := Lib.hid hL
  clear h3 hL
  go_enter Try.func121, Try.ntmps121
  go_wp2
  go_loopw [7, 4] (fun i _ wr => ∃ k : Nat, k ≤ L.length ∧ i = .int .i64 k ∧ Below w.heap.size w wr) (fun i _ _ => L.length - (intOf i).toNat)
  case atStart => exact ⟨0, Nat.zero_le _, rfl, Below.refl _ _⟩
  case round =>
    obtain ⟨k, hk, rfl, hb⟩ := hrel
    by_cases hlt : k < L.length
    · obtain ⟨b, off, rfl, hc⟩ := HC.out (by omega)
      obtain ⟨z, hz, c1⟩ := at1 hb hc k hlt
      have hd := inB_t (HL.out z (hz ▸ getD_mem hlt)).1 (HL.out z (hz ▸ getD_mem hlt)).2
      clear hc HC hz
      go_wp2_with fail
      refine (isDigest_c z _).mono ?_
      rintro e w' ⟨rfl, rfl⟩
      go_wp2
      go_roundw
      case rel => exact ⟨k + 1, by omega, by go_num, hb⟩
      case measure => simp [intOf]; omega
    · go_wp2
      go_ret
      exact ⟨rfl, hb⟩
theorem areLeaves_c (v : Value) (L : List Int) (w : World) (h : Rd 1 w v L.length (enc1 L)) (hL : ∀ x ∈ L, Dg x) (hn : L.length ≤ 16) : Calls Try.prog 89 #[v] w (RetBool true w) := by
  have h0 := h
  obtain ⟨-, a, cap, rfl, h1, h2, h3⟩ := h
  have H0 := Lib.hid h0
  have HL := Lib.hid hL
  clear h3 h0 hL
  go_enter Try.func89, Try.ntmps89
  go_wp2_with fail
  refine (areDigests_c _ L _ H0.out HL.out hn).mono ?_
  rintro e w' ⟨rfl, hb⟩
  go_wp2
  go_ret
  exact ⟨rfl, hb⟩
theorem treesFrom_c (n : Nat) (w : World) (hn : n ≤ 16) : Calls Try.prog 124 #[.int .i64 0, .int .i64 n] w (RetOwn 138 2 (trees n).length (enc2 (trs (trees n))) w) := by
  go_enter Try.func124, Try.ntmps124
  go_wp2
  go_loopw [0, 5, 6] (fun i o _ wr => ∃ (a f : Nat) (ts : List (Nat × Nat)), i = .int .i64 a ∧ a ≤ n ∧ ts.length ≤ a ∧ n - a ≤ f ∧ Hid (ts ++ cov n f a = trees n) ∧ wr.ownsRow w.heap.size 138 2 o (trs ts).length (enc2 (trs ts)) ∧ Below w.heap.size w wr) (fun i _ _ _ => n - (intOf i).toNat)
  case atStart => exact ⟨0, 16, [], rfl, Nat.zero_le _, Nat.le_refl _, by omega, Lib.hid rfl, own_empty w w.heap.size _ 2 (Nat.le_refl _), by (repeat' (first | exact Below.refl _ _ | assumption | refine Below.drew ?_ | refine below_drewN ?_ _ | refine Below.alloc ?_ (by omega) _ | refine Below.alloc ?_ (by simp; omega) _ | refine Below.alloc ?_ (by simp) _ | refine Below.setCell ?_ (by omega) _ | refine Below.setCell ?_ (by simp; omega) _ | refine Below.setCell ?_ (by simp) _))⟩
  case round =>
    obtain ⟨a, f, ts, rfl, ha, htl, hf, HT, hown, hb⟩ := hrel
    have hsz := hb.size
    by_cases hlt : a < n
    · go_wp2
      go_loop [6] (fun s => ∃ (j q : Nat), Hid (j ≤ sk a n) ∧ Hid (q = 2 ^ j) ∧ s = .int .i64 q ∧ 1 ≤ q ∧ q ≤ 16) (fun s => 16 - (intOf s).toNat)
      case atStart => exact ⟨0, 1, Lib.hid (Nat.zero_le _), Lib.hid rfl, rfl, by omega, by omega⟩
      case round =>
        obtain ⟨j, q, HJ, HQ, rfl, hq1, hq2⟩ := hrel
        have hq0 : ((2 * (q : Int)) == 0) = false := by rw [beq_eq_false_iff_ne]; omega
        have ht := sk_test hn HJ.out
        rw [← HQ.out] at ht
        by_cases hjs : j < sk a n
        · have ht2 := ht.2 hjs
          have c1 : 2 * (q : Int) ≤ (n : Int) - (a : Int) := by omega
          have c2 : ((a : Int) % (2 * (q : Int)) == 0) = true := by rw [beq_iff_eq]; have := ht2.1; exact_mod_cast congrArg (fun (x : Nat) => (x : Int)) this
          have hq3 : 2 * q ≤ 16 := by omega
          have HJ2 := Lib.hid (show j + 1 ≤ sk a n from hjs)
          have HQ2 := Lib.hid (show 2 * q = 2 ^ (j + 1) by rw [HQ.out, Nat.pow_succ]; omega)
          clear ht ht2 hjs
          go_wp2
          go_round
          case rel => exact ⟨j + 1, 2 * q, HJ2, HQ2, by go_num, by omega, by omega⟩
          case measure => simp [intOf]; omega
        · have hj : j = sk a n := by have := HJ.out; omega
          have hq : q = 2 ^ sk a n := by rw [HQ.out, hj]
          obtain ⟨f', hf', hcv⟩ := cov_go hlt hf
          have hfit := sk_fit hlt
          rw [← hq] at hf' hcv hfit
          have HT2 := Lib.hid (show (ts ++ [(a, sk a n)]) ++ cov n f' (a + q) = trees n by rw [← HT.out, hcv]; simp)
          have HQ2 := Lib.hid hq
          have hnt := fun h => hjs (ht.1 h)
          have hown2 := hown
          have hpl : (trs ts).length ≤ 16 := by rw [trs_len]; omega
          clear ht hjs hj hq hcv hf HQ HT HJ
          by_cases hc1 : 2 * (q : Int) ≤ (n : Int) - (a : Int)
          · have c2 : ((a : Int) % (2 * (q : Int)) == 0) = false := by
              rw [beq_eq_false_iff_ne]
              intro h
              exact hnt ⟨by exact_mod_cast h, by omega⟩
            clear hnt
            go_wp2_with (at_builtin; refine wpList_app2 _ rfl _ _ 133 rfl w.heap.size 138 Try.underlying133 info_tree _ (trs ts) rfl hown2 a q _ _ rfl (by omega) hsz ?_)
            intro v' w4 rs hrs hrl hown4 hg4
            have hb4 := hb.grown hg4 hsz (fun k hk => (hown2.lt k hk).1)
            have e4 : rs = trs (ts ++ [(a, sk a n)]) := by rw [hrs.out, trs_snoc, HQ2.out]
            subst e4
            clear hown hown2 hb hg4 hrs
            go_wp2
            go_roundw
            case rel => exact ⟨a + q, f', _, by go_num, by omega, by simp; omega, by omega, HT2, hown4, hb4⟩
            case measure => simp [intOf]; omega
          · clear hnt
            go_wp2_with (at_builtin; refine wpList_app2 _ rfl _ _ 133 rfl w.heap.size 138 Try.underlying133 info_tree _ (trs ts) rfl hown2 a q _ _ rfl (by omega) hsz ?_)
            intro v' w4 rs hrs hrl hown4 hg4
            have hb4 := hb.grown hg4 hsz (fun k hk => (hown2.lt k hk).1)
            have e4 : rs = trs (ts ++ [(a, sk a n)]) := by rw [hrs.out, trs_snoc, HQ2.out]
            subst e4
            clear hown hown2 hb hg4 hrs
            go_wp2
            go_roundw
            case rel => exact ⟨a + q, f', _, by go_num, by omega, by simp; omega, by omega, HT2, hown4, hb4⟩
            case measure => simp [intOf]; omega
    · have e : ts = trees n := by have := HT.out; rwa [cov_end n f a (by omega), List.append_nil] at this
      subst e
      have hown2 := hown
      rw [trs_len] at hown2
      clear hown HT
      go_wp2
      go_ret
      exact ⟨_, rfl, hown2, hb⟩
theorem root_c (v : Value) (L : List Int) (hL : ∀ x ∈ L, Dg x) (hn : L.length ≤ 16) (k : Nat) : ∀ (s : Nat) (w : World), Rd 1 w v L.length (enc1 L) → s + 2 ^ k ≤ L.length →
    Calls Try.prog 128 #[.agg #[.int .i64 s, .int .i64 ((2 ^ k : Nat) : Int)], v] w (RetInt (rt L k s) w) := by
  induction k with
  | zero =>
    intro s w h hs
    obtain ⟨-, a, cap, rfl, h1, h2, h3⟩ := h
    unfold maxLen at h2
    have hs' : s < L.length := by simp only [Nat.pow_zero] at hs; omega
    obtain ⟨b, off, rfl, hc⟩ := h3 (by omega)
    obtain ⟨z, hz, c1⟩ := at1 (Below.refl _ w) hc s hs'
    have hlt : b < w.heap.size := World.block_lt_of_cell? w _ c1
    have hz' : rt L 0 s = z := by simp only [rt]; exact hz
    rw [hz']
    clear hc h3 hz hz' hs hL
    simp only [Nat.pow_zero]
    go_enter Try.func128, Try.ntmps128
    go_wp2
    go_ret
    exact ⟨rfl, by (repeat' (first | exact Below.refl _ _ | assumption | refine Below.drew ?_ | refine below_drewN ?_ _ | refine Below.alloc ?_ (by omega) _ | refine Below.alloc ?_ (by simp; omega) _ | refine Below.alloc ?_ (by simp) _ | refine Below.setCell ?_ (by omega) _ | refine Below.setCell ?_ (by simp; omega) _ | refine Below.setCell ?_ (by simp) _))⟩
  | succ k ih =>
    intro s w h hs
    have hq1 : 1 ≤ 2 ^ k := Nat.one_le_two_pow
    have hq2 : 2 ^ (k + 1) = 2 * 2 ^ k := by rw [Nat.pow_succ]; omega
    obtain ⟨m, hm⟩ : ∃ m, m = 2 ^ (k + 1) := ⟨_, rfl⟩
    rw [← hm] at hs hq2 ⊢
    have d1 := rt_in hL k s (by omega)
    have d2 := rt_in hL k (s + 2 ^ k) (by omega)
    have i1 : ∀ (W : World) (hb : Below w.heap.size w W), Calls Try.prog 128 #[.agg #[.int .i64 s, .int .i64 ((2 ^ k : Nat) : Int)], v] W (fun e w' => e = .returned (.int .i64 (rt L k s)) ∧ Below W.heap.size W w') := fun (W : World) (hb : Below w.heap.size w W) => ih s W (h.below hb) (by omega)
    have i2 : ∀ (W : World) (hb : Below w.heap.size w W), Calls Try.prog 128 #[.agg #[(.int .i64 ((s : Int) + ((2 ^ k : Nat) : Int))), .int .i64 ((2 ^ k : Nat) : Int)], v] W (fun e w' => e = .returned (.int .i64 (rt L k (s + 2 ^ k))) ∧ Below W.heap.size W w') := fun (W : World) (hb : Below w.heap.size w W) => by have := ih (s + 2 ^ k) W (h.below hb) (by omega); rw [Int.natCast_add] at this; exact this
    have e : rt L (k + 1) s = pair (rt L k s) (rt L k (s + 2 ^ k)) := rfl
    rw [e]
    clear e ih h hm
    generalize rt L k s = x1 at *
    generalize rt L k (s + 2 ^ k) = x2 at *
    generalize 2 ^ k = q at *
    have I1 := Lib.hid i1
    have I2 := Lib.hid i2
    have HD := Lib.hid (And.intro d1 d2)
    obtain ⟨W0, hW0⟩ : ∃ W0, W0 = w.alloc (.cells #[.int .i64 s, .int .i64 m] 138) := ⟨_, rfl⟩
    have hB0 : Below w.heap.size w W0 := by rw [hW0]; (repeat' (first | exact Below.refl _ _ | assumption | refine Below.drew ?_ | refine below_drewN ?_ _ | refine Below.alloc ?_ (by omega) _ | refine Below.alloc ?_ (by simp; omega) _ | refine Below.alloc ?_ (by simp) _ | refine Below.setCell ?_ (by omega) _ | refine Below.setCell ?_ (by simp; omega) _ | refine Below.setCell ?_ (by simp) _))
    have c0 : W0.cell? ⟨w.heap.size, 0, none⟩ = some (.int .i64 s) := by rw [hW0]; simp
    have c1 : W0.cell? ⟨w.heap.size, 1, none⟩ = some (.int .i64 m) := by rw [hW0]; simp
    have HB := Lib.hid hB0
    have e1 : ((m : Int) == 1) = false := by rw [beq_eq_false_iff_ne]; omega
    have e2 : (m : Int) / 2 = (q : Int) := by clear HD I1 I2 HB c0 c1 hW0; omega

    have e3 : IntKind.i64.wrap ((s : Int) + (q : Int)) = (s : Int) + (q : Int) := by clear e2; rw [IntWalk.i64_in _ (by omega)]
    have hs2 : s + q ≤ 16 := by omega
    have hm2 : m ≤ 16 := by omega
    clear i1 i2 d1 d2 hB0 hq2 hq1 hL hs hn
    have z0 := fun (x : Sub W0) => x.cell c0
    have z1 := fun (x : Sub W0) => x.cell c1
    go_enter Try.func128, Try.ntmps128
    go_wp2
    rw [← hW0]
    clear hW0
    refine wp_region_sub (by kernel_rfl) (by kernel_rfl) ?_
    repeat (go_big_quiet_step (with_reducible (first | exact Calls.sub (v := .int .i64 x1) (fun W hb => I1.out W (HB.out.trans (hb.mono HB.out.size))) | exact Calls.sub (v := .int .i64 x2) (fun W hb => I2.out W (HB.out.trans (hb.mono HB.out.size))) | exact Calls.sub_same (v := .int .i64 (pair x1 x2)) (fun W _ => pair_c x1 x2 W HD.out.1 HD.out.2))))
    refine wpQuiet_nil ?_
    rintro _ ⟨xs, rfl⟩
    have HX := Lib.hid (HB.out.trans (xs.b.mono HB.out.size))
    go_wp2
    go_ret
    exact ⟨rfl, HX.out⟩
end Go.Proofs.Ytbjndbaljenlgaa
