/- Contracts of whole, l11Whole, leaves, l11Leaves: a feed by value, its slices read only. -/
import Derived.Test.YtbjndbaljenlgaaLv
namespace Go.Proofs.Ytbjndbaljenlgaa
open Go.RowKit
theorem whole_c (pub len dig sign : Int) (vb vh : Value) (hv : List Bool) (w : World) (h : Rd 1 w vh hv.length (encB hv)) (hn : hv.length ≤ 16) :
    Calls Try.prog 52 #[.agg #[.int .i64 pub, .int .i64 len, .int .i64 dig, .int .i64 sign, vb, vh]] w (RetBool (decide (cnt hv = hv.length)) w) := by
  obtain ⟨-, a, cap, hvh, h1, h2, -⟩ := id h
  subst hvh
  unfold maxLen at h2
  obtain ⟨W0, hW0⟩ : ∃ W0, W0 = w.alloc (.cells #[.int .i64 pub, .int .i64 len, .int .i64 dig, .int .i64 sign, vb, .slice a hv.length cap] 39) := ⟨_, rfl⟩
  have hB0 : Below w.heap.size w W0 := by rw [hW0]; (repeat' (first | exact Below.refl _ _ | assumption | refine Below.drew ?_ | refine below_drewN ?_ _ | refine Below.alloc ?_ (by omega) _ | refine Below.alloc ?_ (by simp; omega) _ | refine Below.alloc ?_ (by simp) _ | refine Below.setCell ?_ (by omega) _ | refine Below.setCell ?_ (by simp; omega) _ | refine Below.setCell ?_ (by simp) _))
  have c5 : W0.cell? ⟨w.heap.size, 5, none⟩ = some (.slice a hv.length cap) := by rw [hW0]; simp
  have HB := Lib.hid hB0
  have z5 := fun (x : Sub W0) => x.cell c5
  obtain ⟨m, hm⟩ : ∃ m, cnt hv = m := ⟨_, rfl⟩
  have HBC := Lib.hid (fun (W : World) (hb : Below w.heap.size w W) => (show Calls _ _ _ _ (fun e w' => e = .returned (.int .i64 (m : Int)) ∧ Below W.heap.size W w') from hm ▸ bitsCount_c _ hv W (h.below hb) hn))
  have HE := Lib.hid (show decide (cnt hv = hv.length) = ((m : Int) == (hv.length : Int)) by rw [hm, Bool.eq_iff_iff]; simp; omega)
  clear h hB0 hm
  go_enter Try.func52, Try.ntmps52
  go_wp2
  rw [← hW0]
  clear hW0
  refine wp_region_sub (by kernel_rfl) (by kernel_rfl) ?_
  repeat (go_big_quiet_step (with_reducible (exact Calls.sub (v := .int .i64 m) (fun W hb => HBC.out W (HB.out.trans (hb.mono HB.out.size))))))
  refine wpQuiet_nil ?_
  rintro _ ⟨xs, rfl⟩
  have HX := Lib.hid (HB.out.trans (xs.b.mono HB.out.size))
  go_wp2
  go_ret
  exact ⟨ret_bb (by rw [HE.out]), HX.out⟩
theorem l11Whole_c (pub len dig sign : Int) (vb vh : Value) (hv : List Bool) (w : World) (h : Rd 1 w vh hv.length (encB hv)) (hn : hv.length ≤ 16) :
    Calls Try.prog 74 #[.agg #[.int .i64 pub, .int .i64 len, .int .i64 dig, .int .i64 sign, vb, vh]] w (RetBool (decide (cnt hv = hv.length)) w) := by
  obtain ⟨-, a, cap, hvh, h1, h2, -⟩ := id h
  subst hvh
  unfold maxLen at h2
  obtain ⟨W0, hW0⟩ : ∃ W0, W0 = w.alloc (.cells #[.int .i64 pub, .int .i64 len, .int .i64 dig, .int .i64 sign, vb, .slice a hv.length cap] 39) := ⟨_, rfl⟩
  have hB0 : Below w.heap.size w W0 := by rw [hW0]; (repeat' (first | exact Below.refl _ _ | assumption | refine Below.drew ?_ | refine below_drewN ?_ _ | refine Below.alloc ?_ (by omega) _ | refine Below.alloc ?_ (by simp; omega) _ | refine Below.alloc ?_ (by simp) _ | refine Below.setCell ?_ (by omega) _ | refine Below.setCell ?_ (by simp; omega) _ | refine Below.setCell ?_ (by simp) _))
  have c5 : W0.cell? ⟨w.heap.size, 5, none⟩ = some (.slice a hv.length cap) := by rw [hW0]; simp
  have HB := Lib.hid hB0
  have z5 := fun (x : Sub W0) => x.cell c5
  obtain ⟨m, hm⟩ : ∃ m, cnt hv = m := ⟨_, rfl⟩
  have HBC := Lib.hid (fun (W : World) (hb : Below w.heap.size w W) => (show Calls _ _ _ _ (fun e w' => e = .returned (.int .i64 (m : Int)) ∧ Below W.heap.size W w') from hm ▸ l4Count_c _ hv W (h.below hb) hn))
  have HE := Lib.hid (show decide (cnt hv = hv.length) = ((m : Int) == (hv.length : Int)) by rw [hm, Bool.eq_iff_iff]; simp; omega)
  clear h hB0 hm
  go_enter Try.func74, Try.ntmps74
  go_wp2
  rw [← hW0]
  clear hW0
  refine wp_region_sub (by kernel_rfl) (by kernel_rfl) ?_
  repeat (go_big_quiet_step (with_reducible (exact Calls.sub (v := .int .i64 m) (fun W hb => HBC.out W (HB.out.trans (hb.mono HB.out.size))))))
  refine wpQuiet_nil ?_
  rintro _ ⟨xs, rfl⟩
  have HX := Lib.hid (HB.out.trans (xs.b.mono HB.out.size))
  go_wp2
  go_ret
  exact ⟨ret_bb (by rw [HE.out]), HX.out⟩
theorem own_empty' (w : World) (base g : Nat) (e : TypeId) (sz : Nat) (hb : base ≤ w.heap.size) (hg : g = w.heap.size) : (w.alloc (.cells #[] e)).ownsRow base e sz (.slice (some ⟨g, 0, none⟩) 0 0) 0 [] := by
  subst hg; exact own_empty w base e sz hb
theorem txts_take (bs : List ByteArray) (k : Nat) (h : k < bs.length) : (bs.take (k + 1)).map txt = (bs.take k).map txt ++ [txt (bs.getD k ByteArray.empty)] := by
  rw [take_snoc_getD bs k ByteArray.empty h, List.map_append]; rfl
theorem leaves_c (pub len dig sign : Int) (vb vh : Value) (bs : List ByteArray) (w : World) (h : Rd 1 w vb bs.length (encS bs)) (hn : bs.length ≤ 16) (hs : ∀ i, i < bs.length → (bs.getD i ByteArray.empty).size ≤ 8) :
    Calls Try.prog 61 #[.agg #[.int .i64 pub, .int .i64 len, .int .i64 dig, .int .i64 sign, vb, vh]] w (RetOwn 3 1 (bs.map txt).length (enc1 (bs.map txt)) w) := by
  obtain ⟨-, a, cap, rfl, h1, h2, h3⟩ := h
  unfold maxLen at h2
  have HC := Lib.hid h3
  have HS := Lib.hid hs
  obtain ⟨w0, hw0⟩ : ∃ w0, w0 = w := ⟨_, rfl⟩
  have HW := Lib.hid hw0
  clear h3 hs hw0
  go_enter Try.func61, Try.ntmps61
  go_wp2
  go_loopw [10, 3, 5] (fun i o _ wr => ∃ (k : Nat) (rs : List Int), k ≤ bs.length ∧ i = .int .i64 k ∧ rs.length ≤ k ∧ Hid (rs = (bs.take k).map txt) ∧ wr.ownsRow w.heap.size 3 1 o rs.length (enc1 rs) ∧ Below w.heap.size w wr) (fun i _ _ _ => bs.length - (intOf i).toNat)
  case atStart => exact ⟨0, [], Nat.zero_le _, rfl, Nat.zero_le _, Lib.hid rfl, own_empty' _ _ _ _ 1 (by simp) (by simp), by (repeat' (first | exact Below.refl _ _ | assumption | refine Below.drew ?_ | refine below_drewN ?_ _ | refine Below.alloc ?_ (by omega) _ | refine Below.alloc ?_ (by simp; omega) _ | refine Below.alloc ?_ (by simp) _ | refine Below.setCell ?_ (by omega) _ | refine Below.setCell ?_ (by simp; omega) _ | refine Below.setCell ?_ (by simp) _))⟩
  case round =>
    obtain ⟨k, rs, hk, rfl, hrl, HR, hown, hb⟩ := hrel
    have hsz := hb.size
    by_cases hlt : k < bs.length
    · obtain ⟨b, off, rfl, hc⟩ := HC.out (by omega)
      have c1 := cell_keep hb (hc k _ (encS_at bs k hlt))
      have hsz8 := HS.out k hlt
      have HT := Lib.hid (txts_take bs k hlt)
      generalize bs.getD k ByteArray.empty = s at *
      have TC := Lib.hid (fun W => text_c s W hsz8)
      clear hc HC hsz8
      generalize txt s = t at *
      go_wp2_with fail
      refine (TC.out _).mono ?_
      rintro e w2 ⟨rfl, rfl⟩
      go_wp2_with (at_builtin; refine wpList_app1 _ rfl _ _ 48 rfl w.heap.size 3 Try.underlying48 info_int _ rs rfl hown _ _ _ rfl (by omega) hsz ?_)
      intro v' w4 qs hqs hql hown4 hg4
      have hb4 := hb.grown hg4 hsz (fun k hk => (hown.lt k hk).1)
      have HQ4 := Lib.hid (show qs = (bs.take (k + 1)).map txt by rw [hqs.out, HR.out, HT.out])
      clear hown hb hg4 hqs HR HT
      go_wp2
      go_roundw
      case rel => exact ⟨k + 1, qs, by omega, by go_num, by omega, HQ4, hown4, hb4⟩
      case measure => simp [intOf]; omega
    · have e : rs = bs.map txt := by have := HR.out; rwa [List.take_of_length_le (by omega)] at this
      subst e
      go_wp2
      go_ret
      exact ⟨_, rfl, hown, hb⟩
theorem l11Leaves_c (vb : Value) (bs : List ByteArray) (w : World) (h : Rd 1 w vb bs.length (encS bs)) (hn : bs.length ≤ 16) (hs : ∀ i, i < bs.length → (bs.getD i ByteArray.empty).size ≤ 8) :
    Calls Try.prog 76 #[vb] w (RetOwn 3 1 (bs.map txt).length (enc1 (bs.map txt)) w) := by
  obtain ⟨-, a, cap, rfl, h1, h2, h3⟩ := h
  unfold maxLen at h2
  have HC := Lib.hid h3
  have HS := Lib.hid hs
  clear h3 hs
  go_enter Try.func76, Try.ntmps76
  go_wp2
  go_loopw [4, 3] (fun i o wr => ∃ (k : Nat) (rs : List Int), k ≤ bs.length ∧ i = .int .i64 k ∧ rs.length ≤ k ∧ Hid (rs = (bs.take k).map txt) ∧ wr.ownsRow w.heap.size 3 1 o rs.length (enc1 rs) ∧ Below w.heap.size w wr) (fun i _ _ => bs.length - (intOf i).toNat)
  case atStart => exact ⟨0, [], Nat.zero_le _, rfl, Nat.zero_le _, Lib.hid rfl, own_empty _ _ _ 1 (Nat.le_refl _), by (repeat' (first | exact Below.refl _ _ | assumption | refine Below.drew ?_ | refine below_drewN ?_ _ | refine Below.alloc ?_ (by omega) _ | refine Below.alloc ?_ (by simp; omega) _ | refine Below.alloc ?_ (by simp) _ | refine Below.setCell ?_ (by omega) _ | refine Below.setCell ?_ (by simp; omega) _ | refine Below.setCell ?_ (by simp) _))⟩
  case round =>
    obtain ⟨k, rs, hk, rfl, hrl, HR, hown, hb⟩ := hrel
    have hsz := hb.size
    by_cases hlt : k < bs.length
    · obtain ⟨b, off, rfl, hc⟩ := HC.out (by omega)
      have c1 := cell_keep hb (hc k _ (encS_at bs k hlt))
      have hsz8 := HS.out k hlt
      have HT := Lib.hid (txts_take bs k hlt)
      generalize bs.getD k ByteArray.empty = s at *
      have TC := Lib.hid (fun W => l1Text_c s W (by omega))
      clear hc HC hsz8
      generalize txt s = t at *
      go_wp2_with fail
      refine (TC.out _).mono ?_
      rintro e w2 ⟨rfl, rfl⟩
      go_wp2_with (at_builtin; refine wpList_app1 _ rfl _ _ 48 rfl w.heap.size 3 Try.underlying48 info_int _ rs rfl hown _ _ _ rfl (by omega) hsz ?_)
      intro v' w4 qs hqs hql hown4 hg4
      have hb4 := hb.grown hg4 hsz (fun k hk => (hown.lt k hk).1)
      have HQ4 := Lib.hid (show qs = (bs.take (k + 1)).map txt by rw [hqs.out, HR.out, HT.out])
      clear hown hb hg4 hqs HR HT
      go_wp2
      go_roundw
      case rel => exact ⟨k + 1, qs, by omega, by go_num, by omega, HQ4, hown4, hb4⟩
      case measure => simp [intOf]; omega
    · have e : rs = bs.map txt := by have := HR.out; rwa [List.take_of_length_le (by omega)] at this
      subst e
      go_wp2
      go_ret
      exact ⟨_, rfl, hown, hb⟩
end Go.Proofs.Ytbjndbaljenlgaa
