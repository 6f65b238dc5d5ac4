/-
  The walks of the statements ShaBlocks and ShaSums.
-/
import Derived.Test.YtoophccelcbbfaaDoorRefE
import Derived.Test.YtoophccelcbbfaaDoorHold
import Derived.Test.YtoophccelcbbfaaDoorEq
set_option linter.unusedVariables false
set_option linter.unusedSimpArgs false
namespace Go.Proofs.YtoophccelcbbfaaDoor
open Go.RowKit

set_option maxHeartbeats 1000000 in
theorem law_blocks (s : List Nat) (hs : s.length = 8) (hsb : ∀ x ∈ s, x < 4294967296) (b : List UInt8) (hb : b.length = 64) (w : World) (hT : Tab w) :
    Calls Tryd.prog 4 #[.agg (wvs s).toArray, .agg (bvs b).toArray] w fun e w' => e = .returned (.bool true) ∧ Below w.heap.size w w' := by
  have HS := Lib.hid hs; have HSB := Lib.hid hsb; have HB := Lib.hid hb; have HT := Lib.hid hT
  clear hs hsb hb hT
  go_enter Tryd.func4, Tryd.ntmps4
  go_wp2
  have f0 : ((w.alloc (.cells (wvs s).toArray 32)).alloc (.cells (bvs b).toArray 33)).heap[w.heap.size]? = some (.cells (wvs s).toArray 32 (0, 0)) := blk_old _ (blk_new _ rfl)
  have f1 : ((w.alloc (.cells (wvs s).toArray 32)).alloc (.cells (bvs b).toArray 33)).heap[w.heap.size + 1]? = some (.cells (bvs b).toArray 33 (0, 0)) := blk_new _ (by simp)
  have f2 : Below w.heap.size w ((w.alloc (.cells (wvs s).toArray 32)).alloc (.cells (bvs b).toArray 33)) := below_alloc (below_alloc (Below.refl _ _) _) _
  obtain ⟨W, hW⟩ : ∃ W, W = (w.alloc (.cells (wvs s).toArray 32)).alloc (.cells (bvs b).toArray 33) := ⟨_, rfl⟩
  rw [← hW] at f0 f1 f2 ⊢
  clear hW
  have l0 : ∀ W', Below W.heap.size W W' → (loadVar 32 ⟨w.heap.size, 0, none⟩).run Tryd.prog W' = .ok (.agg (wvs s).toArray) W' := fun W' h =>
    run_load_blk W' 32 _ _ _ _ (blk_below f0 h (Array.getElem?_eq_some_iff.1 f0).1) 8 31 Tryd.underlying32 (by kernel_rfl) (by rw [wvs_length, HS.out])
  have l1 : ∀ W', Below W.heap.size W W' → (loadVar 33 ⟨w.heap.size + 1, 0, none⟩).run Tryd.prog W' = .ok (.agg (bvs b).toArray) W' := fun W' h =>
    run_load_blk W' 33 _ _ _ _ (blk_below f1 h (Array.getElem?_eq_some_iff.1 f1).1) 64 5 Tryd.underlying33 (by kernel_rfl) (by rw [bvs_length, HB.out])
  refine Last.region_hold (fun W' => Below W.heap.size W W') [0, 1, 3, 4] [2, 5, 6, 7, 8, 9, 10] [5, 6, 7, 8, 9, 10] (by kernel_rfl) (by kernel_rfl) (fun d _ _ _ _ h => by cases d <;> exact h) (below_drewN (Below.refl _ _) 1) ?_
  refine Last.hold_load _ _ _ _ _ rfl rfl rfl rfl l0 ?_
  refine Last.hold_load _ _ _ _ _ rfl rfl rfl rfl l1 ?_
  refine Last.hold_load _ _ _ _ _ rfl rfl rfl rfl l0 ?_
  refine Last.hold_load _ _ _ _ _ rfl rfl rfl rfl l1 ?_
  clear l0 l1
  refine Last.mid_call _ 24 #[.agg (wvs s).toArray, .agg (bvs b).toArray] rfl rfl (by kernel_rfl) ?_
  refine (block_c s HS.out HSB.out b HB.out _ ((HT.out.below f2).drewN 1)).mono ?_
  rintro e w1 ⟨rfl, hb1⟩
  have hb1' : Below W.heap.size W w1 := (below_drewN (Below.refl _ _) 1).trans hb1
  refine ⟨_, rfl, fun _ _ => hb1', ?_⟩
  refine Last.mid_tail 5 (by kernel_rfl) (by decide) ?_
  simp only [List.drop_succ_cons, List.drop_zero]
  have heq := eq_state (Sen.block s b) (Sen.block_length _ _ HS.out)
  have HB1 := Lib.hid (f2.trans (hb1'.mono f2.size))
  clear f0 f1 f2 hb1 hb1'
  go_wp2_with (first | (go_at_call 25; refine (ref_block_c s HS.out HSB.out b HB.out _).mono ?_; rintro e w2 ⟨rfl, hb2⟩; have HB2 := Lib.hid (HB1.out.trans (hb2.mono HB1.out.size)); clear hb2) | (go_at_call 23; refine (works4_c _ (HT.out.below HB2.out)).mono ?_; rintro e w3 ⟨rfl, hb3⟩))
  go_ret
  exact ⟨rfl, HB2.out.trans (hb3.mono HB2.out.size)⟩
set_option maxHeartbeats 1000000 in
theorem law_sums (A : Option Addr) (c : Nat) (l : List UInt8) (m : Int) (w : World) (hc : l.length ≤ c) (hR : RB w A l) (hm : -9223372036854775808 ≤ m ∧ m ≤ 9223372036854775807) (hT : Tab w) :
    Calls Tryd.prog 3 #[.slice A l.length c, .int .i64 m] w fun e w' => e = .returned (.bool true) ∧ Below w.heap.size w w' := by
  have HC := Lib.hid hc; have HR := Lib.hid hR; have HT := Lib.hid hT; have HM := Lib.hid hm
  clear hc hR hT hm
  go_enter Tryd.func3, Tryd.ntmps3
  go_wp2_with fail
  refine (short4_c A c l _ HC.out HR.out.1).mono ?_
  rintro e w2 ⟨rfl, rfl⟩
  obtain ⟨s, hs⟩ : ∃ s, s = l.take 300 := ⟨_, rfl⟩
  have hr1 := HR.out.take 300
  have hsl : (l.take 300).length ≤ 300 := by simp; omega
  rw [← hs] at hr1 hsl ⊢
  have HS := Lib.hid hr1; have HSL := Lib.hid hsl
  clear hr1 hsl hs HR HC
  go_wp2_with fail
  refine (bytes_c A c s _ (by have := HSL.out; omega) HS.out).mono ?_
  rintro e w1 ⟨v, rfl, ho1, hb1⟩
  obtain ⟨A1, c1, rfl, hc1, hr1⟩ := ho1.reads (by have := HSL.out; omega)
  have HO := Lib.hid hr1; have HB1 := Lib.hid hb1
  clear ho1 hc1 hr1 hb1
  have heq := eq_sum (Sen.sum s) (Sen.sum_length s)
  go_wp2_with fail
  refine (sum_c A1 c1 s _ (by have := HSL.out; omega) HO.out (HT.out.below HB1.out)).mono ?_
  rintro e w2 ⟨rfl, hb2⟩
  have HB2 := Lib.hid (HB1.out.trans (hb2.mono HB1.out.size)); have HD2 := Lib.hid hb2
  clear hb2
  go_wp2_with fail
  refine (ref_sum_c A c s _ (by have := HSL.out; omega) (HS.out.below HB2.out)).mono ?_
  rintro e w3 ⟨rfl, hb3⟩
  have HB3 := Lib.hid (HB2.out.trans (hb3.mono HB2.out.size)); have HD3 := Lib.hid (HD2.out.trans (hb3.mono HD2.out.size))
  clear hb3
  go_wp2_with fail
  refine (pad_c A1 c1 s _ (by have := HSL.out; omega) (HO.out.below HD3.out)).mono ?_
  rintro e w4 ⟨v4, rfl, g4, rfl, hg4, hge4, hb4⟩
  have hpl : (Sen.pad s).length ≤ 140737488351232 := by have := Sen.pad_le s; have := HSL.out; omega
  have HP4 := Lib.hid (rb_of_row hg4 hpl); have HPL := Lib.hid hpl
  have HB4 := Lib.hid (HB3.out.trans (hb4.mono HB3.out.size)); have HD4 := Lib.hid (HD3.out.trans (hb4.mono HD3.out.size))
  clear hb4 hg4 hge4 hpl
  go_wp2_with fail
  refine (ref_pad_c A c s _ (by have := HSL.out; omega) (HS.out.below HB4.out)).mono ?_
  rintro e w5 ⟨v5, rfl, ho5, hb5⟩
  obtain ⟨A5, c5, rfl, hc5, hr5⟩ := ho5.reads HPL.out
  have HB5 := Lib.hid (HB4.out.trans (hb5.mono HB4.out.size)); have HD5 := Lib.hid (HD4.out.trans (hb5.mono HD4.out.size))
  have HP5 := Lib.hid (HP4.out.below hb5); have HQ5 := Lib.hid hr5
  clear ho5 hc5 hr5 hb5
  go_wp2_with fail
  refine (same_c _ _ _ _ (Sen.pad s) (Sen.pad s) _ HP5.out HQ5.out).mono ?_
  rintro e w6 ⟨rfl, rfl⟩
  rw [decide_eq_true (rfl : Sen.pad s = Sen.pad s)]
  go_wp2_with fail
  refine (prefix_c A1 c1 s m _ (by have := HSL.out; omega) HM.out (HO.out.below HD5.out) (HT.out.below HB5.out)).mono ?_
  rintro e w7 ⟨rfl, hb7⟩
  have HB7 := Lib.hid (HB5.out.trans (hb7.mono HB5.out.size)); have HD7 := Lib.hid (HD5.out.trans (hb7.mono HD5.out.size))
  clear hb7
  go_wp2_with fail
  refine (ref_prefix_c A c s m _ (by have := HSL.out; omega) (HS.out.below HB7.out)).mono ?_
  rintro e w8 ⟨rfl, hb8⟩
  have HB8 := Lib.hid (HB7.out.trans (hb8.mono HB7.out.size)); have HD8 := Lib.hid (HD7.out.trans (hb8.mono HD7.out.size))
  clear hb8
  go_wp2_with fail
  refine (same_c A1 A c1 c s s _ (HO.out.below HD8.out) (HS.out.below HB8.out)).mono ?_
  rintro e w9 ⟨rfl, rfl⟩
  rw [decide_eq_true (rfl : s = s)]
  go_wp2_with fail
  refine (works4_c _ (HT.out.below HB8.out)).mono ?_
  rintro e w9 ⟨rfl, hb9⟩
  go_wp2
  go_ret
  exact ⟨rfl, HB8.out.trans (hb9.mono HB8.out.size)⟩
end Go.Proofs.YtoophccelcbbfaaDoor
