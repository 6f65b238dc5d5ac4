/-
  The walks of the statements ShaPrefixes, ShaWhole, ShaParts.
-/
import Derived.Test.YtoophccelcbbfaaDoorLaw4
set_option linter.unusedVariables false
set_option linter.unusedSimpArgs false
namespace Go.Proofs.YtoophccelcbbfaaDoor
open Go.RowKit

/-! ### ShaPrefixes -/
set_option maxRecDepth 100000 in
set_option maxHeartbeats 2000000 in
theorem law_prefixes (A : Option Addr) (c : Nat) (l : List UInt8) (n : Int) (w : World) (hc : l.length ≤ c) (hR : RB w A l) (hT : Tab w) :
    Calls Tryd.prog 6 #[.slice A l.length c, .int .i64 n] w fun e w' => e = .returned (.bool true) ∧ Below w.heap.size w w' := by
  have hz := zero24
  have HC := Lib.hid hc; have HR := Lib.hid hR; have HT := Lib.hid hT
  clear hc hR hT
  go_enter Tryd.func6, Tryd.ntmps6
  go_wp2_with fail
  refine (works4_c _ HT.out).mono ?_
  rintro e w1 ⟨rfl, hb1⟩
  go_wp2_with fail
  refine (short4_c A c l _ HC.out HR.out.1).mono ?_
  rintro e w2 ⟨rfl, rfl⟩
  obtain ⟨s, hs⟩ : ∃ s, s = l.take 300 := ⟨_, rfl⟩
  have hr1 := (HR.out.below hb1).take 300
  have ht1 := HT.out.below hb1
  rw [← hs] at hr1 ⊢
  have hsl : s.length ≤ 1048576 := by rw [hs]; simp; omega
  have HR1 := Lib.hid hr1; have HT1 := Lib.hid ht1; have HSL := Lib.hid hsl
  clear hr1 ht1 hsl hs HR HC HT
  go_wp2_with fail
  refine (among_c n 65 (by decide) (by decide) _).mono ?_
  rintro e w2 ⟨r, hr, rfl, rfl⟩
  go_wp2_with fail
  refine (prefix_c A c s 64 _ HSL.out (by decide) HR1.out HT1.out).mono ?_
  rintro e w2 ⟨rfl, hb2⟩
  have hr2 := HR1.out.below hb2
  have ht2 := HT1.out.below hb2
  have hB2 : Below w.heap.size w w2 := hb1.trans (hb2.mono hb1.size)
  have HR2 := Lib.hid hr2; have HT2 := Lib.hid ht2
  clear hr2 ht2
  go_wp2_with fail
  refine (sum_c A c s _ HSL.out HR2.out HT2.out).mono ?_
  rintro e w3 ⟨rfl, hb3⟩
  have hB3 : Below w.heap.size w w3 := hB2.trans (hb3.mono hB2.size)
  have H32 := Lib.hid (show (bvs (Sen.sum s)).length = 32 by rw [bvs_length, Sen.sum_length])
  go_wp2_with (with_reducible refine wpList_store_any rfl 24 _ _ rfl _ (bvs (Sen.sum s)) rfl rfl 24 _ (blk_new _ rfl) 32 (by kernel_rfl) H32.out (by kernel_rfl) (bvs_one _) ?_ rfl)
  rw [setRow_alloc]
  have hBX : Below w.heap.size w (w3.alloc (.cells (bvs (Sen.sum s)).toArray 24)) := below_alloc hB3 _
  have hX : (w3.alloc (.cells (bvs (Sen.sum s)).toArray 24)).heap[w3.heap.size]? = some (.cells (bvs (Sen.sum s)).toArray 24) := blk_new _ rfl
  have hrx := (HR2.out.below hb3).below (below_alloc (Below.refl _ _) (.cells (bvs (Sen.sum s)).toArray 24))
  have htx := (HT2.out.below hb3).below (below_alloc (Below.refl _ _) (.cells (bvs (Sen.sum s)).toArray 24))
  obtain ⟨X, hXX⟩ : ∃ X, X = w3.alloc (.cells (bvs (Sen.sum s)).toArray 24) := ⟨_, rfl⟩
  rw [← hXX] at hBX hX hrx htx ⊢
  have HX := Lib.hid hX; have HRX := Lib.hid hrx; have HTX := Lib.hid htx
  clear hXX hX hz hrx htx HR1 HT1 HR2 HT2
  go_loop [7, 8] (fun vx vi => ∃ k x : Nat, k ≤ 8 ∧ vi = .int .i64 k ∧ vx = .int .u64 x ∧ Hid (x = Sen.val (Sen.sum s) k)) (fun _ i => 8 - (intOf i).toNat)
  case atStart => exact ⟨0, 0, by omega, rfl, rfl, Lib.hid rfl⟩
  case round =>
    obtain ⟨k, x, hk, rfl, rfl, hx⟩ := hrel
    by_cases hk8 : k < 8
    · have d8 : decide ((k : Int) < 8) = true := by simp; omega
      have k8 : (k : Int) < 32 := by omega
      have hxs : x < 72057594037927936 := by rw [hx.out]; exact Sen.val_small _ _ hk8
      obtain ⟨y, hy, ey, cy⟩ := getD_at (Sen.sum s) k (by rw [Sen.sum_length]; omega)
      have hc : X.cell? ⟨w3.heap.size, k, none⟩ = some (.int .u8 (y : Int)) := (cell_of_row X _ k _ _ _ HX.out).trans (by simpa using cy)
      have EY := Lib.hid ey
      clear ey cy
      go_wp2
      go_round
      case rel => exact ⟨k + 1, x * 256 + y, by omega, by go_num, congrArg (Value.int .u64) (or_byte x y hxs hy), Lib.hid (by rw [hx.out, EY.out]; rfl)⟩
      case measure => simp [intOf]; omega
    · obtain rfl : k = 8 := by omega
      have d8 : decide (((8 : Nat) : Int) < 8) = false := by decide
      have hv := hx.out
      have e64 : Sen.beginning s 64 = x := by unfold Sen.beginning; rw [if_neg (by decide), ← hv]; exact Nat.div_one x
      have e99 : Sen.beginning s 99 = x := by unfold Sen.beginning; rw [if_neg (by decide), ← hv]; exact Nat.div_one x
      have e5 : Sen.beginning s (-5) = 0 := by unfold Sen.beginning; rw [if_pos (by decide)]
      have E64 := Lib.hid e64; have E99 := Lib.hid e99; have E5 := Lib.hid e5
      clear hv e64 e99 e5
      by_cases h0 : r = 0
      · subst h0
        have t0 : decide (((0 : Nat) : Int) > 0) = false := by decide
        have er : Sen.beginning s ((0 : Nat) : Int) = 0 := by unfold Sen.beginning; rw [if_pos (by decide)]
        have ER := Lib.hid er
        clear er
        rw [E64.out]
        go_wp2_with fail
        refine (prefix_c A c s 0 _ HSL.out (by decide) HRX.out HTX.out).mono ?_
        rintro e w4 ⟨rfl, hb4⟩
        rw [show Sen.beginning s 0 = 0 from ER.out]
        have hB4 : Below w.heap.size w w4 := hBX.trans (hb4.mono hBX.size)
        go_wp2_with fail
        refine (prefix_c A c s 99 _ HSL.out (by decide) (HRX.out.below hb4) (HTX.out.below hb4)).mono ?_
        rintro e w5 ⟨rfl, hb5⟩
        rw [E99.out]
        have hB5 : Below w.heap.size w w5 := hB4.trans (hb5.mono hB4.size)
        go_wp2_with fail
        refine (prefix_c A c s (-5) _ HSL.out (by decide) ((HRX.out.below hb4).below hb5) ((HTX.out.below hb4).below hb5)).mono ?_
        rintro e w6 ⟨rfl, hb6⟩
        rw [E5.out]
        have hB6 : Below w.heap.size w w6 := hB5.trans (hb6.mono hB5.size)
        go_wp2
        go_ret
        exact ⟨rfl, hB6⟩
      · have t0 : decide ((r : Int) > 0) = true := by simp; omega
        have t1 : (0 : Int) < r := by omega
        obtain ⟨q, hq⟩ : ∃ q : Nat, q = Sen.beginning s (r : Int) := ⟨_, rfl⟩
        have e1 : (x : Int) / 2 ^ (64 - r) = (q : Int) := by
          rw [hq]; unfold Sen.beginning
          rw [if_neg (by omega), ← hx.out, show 64 - (min (r : Int) 64).toNat = 64 - r by omega, Int.natCast_ediv, Int.natCast_pow]
          rfl
        have HQ := Lib.hid hq
        clear hq
        have r64 : (r : Int) ≤ 64 := by omega
        rw [E64.out]
        go_wp2_with fail
        refine (prefix_c A c s r _ HSL.out (by omega) HRX.out HTX.out).mono ?_
        rintro e w4 ⟨rfl, hb4⟩
        rw [← HQ.out]
        have hB4 : Below w.heap.size w w4 := hBX.trans (hb4.mono hBX.size)
        go_wp2_with fail
        refine (prefix_c A c s 99 _ HSL.out (by decide) (HRX.out.below hb4) (HTX.out.below hb4)).mono ?_
        rintro e w5 ⟨rfl, hb5⟩
        rw [E99.out]
        have hB5 : Below w.heap.size w w5 := hB4.trans (hb5.mono hB4.size)
        go_wp2_with fail
        refine (prefix_c A c s (-5) _ HSL.out (by decide) ((HRX.out.below hb4).below hb5) ((HTX.out.below hb4).below hb5)).mono ?_
        rintro e w6 ⟨rfl, hb6⟩
        rw [E5.out]
        have hB6 : Below w.heap.size w w6 := hB5.trans (hb6.mono hB5.size)
        go_wp2
        go_ret
        exact ⟨rfl, hB6⟩
end Go.Proofs.YtoophccelcbbfaaDoor
