/-
  mac: the walks of padded, Sum.
-/
import Derived.Test.YteplaginenhfkaaDoorOwn
import Derived.Test.YteplaginenhfkaaDoorHold
import Derived.Test.YteplaginenhfkaaDoorMacP
set_option linter.unusedVariables false
set_option linter.unusedSimpArgs false
namespace Go.Proofs.YteplaginenhfkaaDoor
open Go.RowKit

theorem zero64' (w : World) : (zeroValue 93).run Tryd.prog w = .ok (.agg (bvs (List.replicate 64 0)).toArray) w := by kernel_rfl
theorem xor_byte (a b : UInt8) : bits .xor .u8 ((a.toNat : Nat) : Int) ((b.toNat : Nat) : Int) = (((a ^^^ b).toNat : Nat) : Int) := by
  rw [xor8 _ _ a.toNat_lt b.toNat_lt, UInt8.toNat_xor]
  rfl
def PadPostM (w : World) (l : List UInt8) (e : Ending) (w' : World) : Prop := ∃ A, e = .returned (.slice A 64 64) ∧ RB w' A l ∧ Below w.heap.size w w'
set_option maxRecDepth 100000 in
set_option maxHeartbeats 1000000 in
theorem padded_c (A : Option Addr) (c : Nat) (key : List UInt8) (z : Int) (x : UInt8) (hz : z = ((x.toNat : Nat) : Int)) (w : World) (hl : key.length ≤ 1048576) (hR : RB w A key) (hT : Tab w) :
    Calls Tryd.prog 48 #[.slice A key.length c, .int .u8 z] w (PadPostM w (Sen.full key x)) := by
  obtain ⟨n, hn⟩ : ∃ n, n = key.length := ⟨_, rfl⟩
  have hn1 : n ≤ 1048576 := by omega
  have hz2 := zero64'
  have hz3 := zero24
  obtain ⟨z64, hz64⟩ : ∃ z64, z64 = List.replicate 64 (0 : UInt8) := ⟨_, rfl⟩
  rw [← hz64] at hz2
  have HZ := Lib.hid hz64; have HX := Lib.hid hz; have HN := Lib.hid hn; have HR := Lib.hid hR; have HT := Lib.hid hT
  rw [← hn]
  clear hz64 hz hn hl hR hT
  have hzl : (bvs z64).length = 64 := by rw [HZ.out]; rfl
  have HZL := Lib.hid hzl
  clear hzl
  have hsa := fun g W => run_sliceAt_all 93 5 64 Tryd.underlying93 rfl g 0 W
  have hsb := fun g W => run_sliceAt_all 75 5 32 Tryd.underlying75 rfl g 0 W
  by_cases h64 : 64 < n
  · have t0 : decide ((n : Int) > 64) = true := by simp; omega
    have hk := Lib.hid (show Sen.keyOf key = Sen.sum key by unfold Sen.keyOf; rw [if_pos (by rw [← HN.out]; exact h64)])
    have HSL := Lib.hid (show (bvs (Sen.sum key)).length = 32 by rw [bvs_length, Sen.sum_length])
    go_enter Tryd.func48, Tryd.ntmps48
    go_wp2_with fail
    have hsm := sum_c A c key (w.alloc (.cells (bvs z64).toArray 93)) (by rw [← HN.out]; exact hn1) (HR.out.below (below_alloc (Below.refl _ _) _)) (HT.out.below (below_alloc (Below.refl _ _) _))
    rw [← HN.out] at hsm
    refine hsm.mono ?_
    rintro e w1 ⟨rfl, hb1⟩
    clear hsm
    have HB1 := Lib.hid hb1
    clear hb1
    go_wp2_with (first | (with_reducible refine wpList_store_any rfl 75 _ _ rfl _ (bvs (Sen.sum key)) rfl rfl 75 _ (blk_new _ rfl) 32 (by kernel_rfl) HSL.out (by kernel_rfl) (bvs_one _) ?_ rfl; rw [setRow_alloc]) | (refine wpList_copy_splice rfl (.tmp 15) (.tmp 16) 24 24 rfl 5 Tryd.underlying24 rfl _ _ _ _ _ _ rfl rfl w.heap.size 0 (bvs z64) 93 (blk_old _ (blk_below (blk_new _ rfl) HB1.out (by simp))) (bvs (Sen.sum key)) (by rw [HSL.out]; rfl) (fun h => ⟨rfl, (rb_of_row (blk_new _ rfl) (by rw [Sen.sum_length]; decide)).src (Below.refl _ _) h⟩) (by rw [HSL.out, HZL.out]; decide) (bvs_one _) w.heap.size w (below_alloc ((below_alloc (Below.refl _ _) _).trans (HB1.out.mono (by simp))) _) (Nat.le_refl _) ?_; intro w2 hg2 hb2))
    have hg3 := hg2.out
    rw [HZ.out, splice_zero 64 _ (by rw [Sen.sum_length]; decide), ← hk.out] at hg3
    have G := Lib.hid hg3
    have HB2 := Lib.hid hb2
    clear hg2 hg3 hb2 hk HSL HB1 t0
    obtain ⟨kk, hkk⟩ : ∃ kk, kk = Sen.keyOf key ++ List.replicate (64 - (Sen.keyOf key).length) 0 := ⟨_, rfl⟩
    have hkl : kk.length = 64 := by have := Sen.keyOf_length key; rw [hkk]; simp; omega
    have hfull : Sen.full key x = Sen.mcells kk x 64 := by rw [← hkl, Sen.mcells_all, hkk]; rfl
    have G := Lib.hid (show w2.heap[w.heap.size]? = some (.cells (bvs kk).toArray 93 (0, 0)) by rw [hkk]; exact G.out)
    have HKL := Lib.hid hkl; have HF := Lib.hid hfull
    clear hkk hkl hfull
    have hset := fun cs i v => row_set G.out cs i v
    have hcell := fun cs j => row_cell G.out cs j
    have hfro := fun cs j => row_frozen G.out cs j
    go_loopw [18] (fun vi wx => ∃ i : Nat, i ≤ 64 ∧ vi = .int .i64 i ∧ wx = w2.setRow w.heap.size (bvs (Sen.mcells kk x i)).toArray) (fun i _ => 64 - (intOf i).toNat)
    case atStart => exact ⟨0, by omega, rfl, by rw [Sen.mcells_zero]; exact (row_same G.out).symm⟩
    case round =>
      obtain ⟨i, hi, rfl, rfl⟩ := hrel
      by_cases hlt : i < 64
      · have d64 : decide ((i : Int) < 64) = true := by simp; omega
        have i64 : (i : Int) < 64 := by omega
        obtain ⟨y, hy, ey, cy⟩ := getD_at (Sen.mcells kk x i) i (by rw [Sen.mcells_length _ _ _ (by rw [HKL.out]; exact hi), HKL.out]; exact hlt)
        have SET := Lib.hid (show (bvs (Sen.mcells kk x i)).set i (.int .u8 (bits .xor .u8 (y : Int) z)) = bvs (Sen.mcells kk x (i + 1)) by
          rw [bvs_set _ _ (kk.getD i 0 ^^^ x) _ (by rw [HX.out, ey, Sen.mcells_at _ _ _ (by rw [HKL.out]; exact hlt), xor_byte]), Sen.mcells_set _ _ _ (by rw [HKL.out]; exact hlt)])
        clear ey
        go_wp2
        exact ⟨⟨i + 1, by omega, by go_num, congrArg (fun c => w2.setRow w.heap.size (List.toArray c)) SET.out⟩, by simp [intOf]; omega⟩
      · obtain rfl : i = 64 := by omega
        rw [show ((64 : Nat) : Int) = 64 from rfl]
        go_wp2
        go_ret
        refine ⟨_, rfl, ?_, below_setRow HB2.out (Nat.le_refl _) _⟩
        rw [HF.out]
        exact rb_of_row (setRow_heap _ _ _ _ _ _ G.out) (by rw [Sen.mcells_length _ _ _ (by rw [HKL.out]; exact Nat.le_refl _), HKL.out]; decide)
  · have t0 : decide ((n : Int) > 64) = false := by simp; omega
    have hk := Lib.hid (show Sen.keyOf key = key by unfold Sen.keyOf; rw [if_neg (by rw [← HN.out]; exact h64)])
    have hmin : Nat.min n 64 = n := Nat.min_eq_left (by omega)
    have HM := Lib.hid hmin
    clear hmin
    go_enter Tryd.func48, Tryd.ntmps48
    go_wp2_with (refine wpList_copy_splice rfl (.tmp 15) (.tmp 16) 24 24 rfl 5 Tryd.underlying24 rfl _ _ _ _ _ _ rfl rfl w.heap.size 0 (bvs z64) 93 (blk_new _ rfl) (bvs key) (by rw [bvs_length, ← HN.out]; exact HM.out.symm) (fun h => ⟨rfl, HR.out.src (below_alloc (Below.refl _ _) _) h⟩) (by rw [bvs_length, HZL.out, ← HN.out]; omega) (bvs_one _) w.heap.size w (below_alloc (Below.refl _ _) _) (Nat.le_refl _) ?_; intro w2 hg2 hb2)
    have hg3 := hg2.out
    rw [HZ.out, splice_zero 64 _ (by rw [← HN.out]; omega)] at hg3
    have e : key ++ List.replicate (64 - key.length) 0 = Sen.keyOf key ++ List.replicate (64 - (Sen.keyOf key).length) 0 := by rw [hk.out]
    rw [e] at hg3
    have G := Lib.hid hg3
    have HB2 := Lib.hid hb2
    clear hg2 hg3 hb2 hk HM t0 e
    obtain ⟨kk, hkk⟩ : ∃ kk, kk = Sen.keyOf key ++ List.replicate (64 - (Sen.keyOf key).length) 0 := ⟨_, rfl⟩
    have hkl : kk.length = 64 := by have := Sen.keyOf_length key; rw [hkk]; simp; omega
    have hfull : Sen.full key x = Sen.mcells kk x 64 := by rw [← hkl, Sen.mcells_all, hkk]; rfl
    have G := Lib.hid (show w2.heap[w.heap.size]? = some (.cells (bvs kk).toArray 93 (0, 0)) by rw [hkk]; exact G.out)
    have HKL := Lib.hid hkl; have HF := Lib.hid hfull
    clear hkk hkl hfull
    have hset := fun cs i v => row_set G.out cs i v
    have hcell := fun cs j => row_cell G.out cs j
    have hfro := fun cs j => row_frozen G.out cs j
    go_loopw [18] (fun vi wx => ∃ i : Nat, i ≤ 64 ∧ vi = .int .i64 i ∧ wx = w2.setRow w.heap.size (bvs (Sen.mcells kk x i)).toArray) (fun i _ => 64 - (intOf i).toNat)
    case atStart => exact ⟨0, by omega, rfl, by rw [Sen.mcells_zero]; exact (row_same G.out).symm⟩
    case round =>
      obtain ⟨i, hi, rfl, rfl⟩ := hrel
      by_cases hlt : i < 64
      · have d64 : decide ((i : Int) < 64) = true := by simp; omega
        have i64 : (i : Int) < 64 := by omega
        obtain ⟨y, hy, ey, cy⟩ := getD_at (Sen.mcells kk x i) i (by rw [Sen.mcells_length _ _ _ (by rw [HKL.out]; exact hi), HKL.out]; exact hlt)
        have SET := Lib.hid (show (bvs (Sen.mcells kk x i)).set i (.int .u8 (bits .xor .u8 (y : Int) z)) = bvs (Sen.mcells kk x (i + 1)) by
          rw [bvs_set _ _ (kk.getD i 0 ^^^ x) _ (by rw [HX.out, ey, Sen.mcells_at _ _ _ (by rw [HKL.out]; exact hlt), xor_byte]), Sen.mcells_set _ _ _ (by rw [HKL.out]; exact hlt)])
        clear ey
        go_wp2
        exact ⟨⟨i + 1, by omega, by go_num, congrArg (fun c => w2.setRow w.heap.size (List.toArray c)) SET.out⟩, by simp [intOf]; omega⟩
      · obtain rfl : i = 64 := by omega
        rw [show ((64 : Nat) : Int) = 64 from rfl]
        go_wp2
        go_ret
        refine ⟨_, rfl, ?_, below_setRow HB2.out (Nat.le_refl _) _⟩
        rw [HF.out]
        exact rb_of_row (setRow_heap _ _ _ _ _ _ G.out) (by rw [Sen.mcells_length _ _ _ (by rw [HKL.out]; exact Nat.le_refl _), HKL.out]; decide)
end Go.Proofs.YteplaginenhfkaaDoor
