/-
  Extract, of mac and of its reference.
-/
import Derived.Test.YtoophccelcbbfaaDoorMac3
import Derived.Test.YtoophccelcbbfaaDoorRefM2
set_option linter.unusedVariables false
set_option linter.unusedSimpArgs false
namespace Go.Proofs.YtoophccelcbbfaaDoor
open Go.RowKit

set_option maxHeartbeats 1000000 in
theorem extract_c (A B : Option Addr) (c d : Nat) (salt b : List UInt8) (w : World) (hk : salt.length ≤ 1048000) (hb : b.length ≤ 1048000) (hA : RB w A salt) (hB : RB w B b) (hT : Tab w) :
    Calls Tryd.prog 34 #[.slice A salt.length c, .slice B b.length d] w fun e w' => e = .returned (.agg (bvs (Sen.extract salt b)).toArray) ∧ Below w.heap.size w w' := by
  have hz := zero24
  have hmk := fun W => run_make_bytes 32 (by decide) 32 rfl W
  obtain ⟨z32, hz32⟩ : ∃ z32, z32 = List.replicate 32 (0 : UInt8) := ⟨_, rfl⟩
  rw [← hz32] at hmk
  obtain ⟨n, hn⟩ : ∃ n, n = salt.length := ⟨_, rfl⟩
  obtain ⟨m, hm⟩ : ∃ m, m = b.length := ⟨_, rfl⟩
  have HZ := Lib.hid hz32; have HK := Lib.hid hk; have HBB := Lib.hid hb; have HA := Lib.hid hA; have HB := Lib.hid hB; have HN := Lib.hid hn; have HM := Lib.hid hm; have HT := Lib.hid hT
  rw [← hn, ← hm]
  clear hz32 hk hb hA hB hn hm hT
  have HSO := Lib.hid (show (bvs (Sen.extract salt b)).length = 32 by rw [bvs_length]; exact Sen.hmac_length _ _)
  by_cases h0 : n = 0
  · subst h0
    have e := Lib.hid (show Sen.extract salt b = Sen.hmac z32 b by unfold Sen.extract; rw [if_pos HN.out.symm, HZ.out])
    have hzl := Lib.hid (show 32 = z32.length by rw [HZ.out]; rfl)
    go_enter Tryd.func34, Tryd.ntmps34
    go_wp2_with fail
    have hc := mac_sum_c (some ⟨w.heap.size + 1, 0, none⟩) B 32 d z32 b ((w.alloc (.cells (bvs zeros32).toArray 24)).alloc (.cells (bvs z32).toArray 5)) (by rw [← hzl.out]; decide) HBB.out (rb_of_row (blk_new _ (by simp)) (by rw [← hzl.out]; decide)) (HB.out.below (below_alloc (below_alloc (Below.refl _ _) _) _)) (HT.out.below (below_alloc (below_alloc (Below.refl _ _) _) _))
    rw [← hzl.out, ← HM.out, ← e.out] at hc
    refine hc.mono ?_
    clear hc
    rintro e w1 ⟨rfl, hb1⟩
    have hz1 : w1.heap[w.heap.size]? = some (.cells (bvs zeros32).toArray 24 (0, 0)) := blk_below (blk_old _ (blk_new _ rfl)) hb1 (by simp; omega)
    have hB1 : Below w.heap.size w w1 := (below_alloc (below_alloc (Below.refl _ _) _) _).trans (hb1.mono (by simp; omega))
    have HZ1 := Lib.hid hz1; have HB1 := Lib.hid hB1
    clear hz1 hB1 hb1
    go_wp2_with (with_reducible refine wpList_store_any rfl 24 _ _ rfl w.heap.size (bvs (Sen.extract salt b)) rfl rfl 24 _ HZ1.out 32 (by kernel_rfl) HSO.out (by kernel_rfl) (bvs_one _) ?_ rfl)
    refine bodyPost_ret (v := .agg (bvs (Sen.extract salt b)).toArray) ?_ rfl ?_
    · exact results_array rfl _ _ w.heap.size _ _ (0, 0) 32 5 rfl (setRow_heap _ _ _ _ _ _ HZ1.out) Tryd.underlying24 (by kernel_rfl) HSO.out
    · exact ⟨rfl, below_setRow HB1.out (Nat.le_refl _) _⟩
  · have e := Lib.hid (show Sen.extract salt b = Sen.hmac salt b by unfold Sen.extract; rw [if_neg (by rw [← HN.out]; exact h0)])
    have t0 : ((n : Int) == 0) = false := by simp; omega
    go_enter Tryd.func34, Tryd.ntmps34
    go_wp2_with fail
    have hc := mac_sum_c A B c d salt b (w.alloc (.cells (bvs zeros32).toArray 24)) HK.out HBB.out (HA.out.below (below_alloc (Below.refl _ _) _)) (HB.out.below (below_alloc (Below.refl _ _) _)) (HT.out.below (below_alloc (Below.refl _ _) _))
    rw [← HN.out, ← HM.out, ← e.out] at hc
    refine hc.mono ?_
    clear hc
    rintro e w1 ⟨rfl, hb1⟩
    have hz1 : w1.heap[w.heap.size]? = some (.cells (bvs zeros32).toArray 24 (0, 0)) := blk_below (blk_new _ rfl) hb1 (by simp)
    have hB1 : Below w.heap.size w w1 := (below_alloc (Below.refl _ _) _).trans (hb1.mono (by simp))
    have HZ1 := Lib.hid hz1; have HB1 := Lib.hid hB1
    clear hz1 hB1 hb1
    go_wp2_with (with_reducible refine wpList_store_any rfl 24 _ _ rfl w.heap.size (bvs (Sen.extract salt b)) rfl rfl 24 _ HZ1.out 32 (by kernel_rfl) HSO.out (by kernel_rfl) (bvs_one _) ?_ rfl)
    refine bodyPost_ret (v := .agg (bvs (Sen.extract salt b)).toArray) ?_ rfl ?_
    · exact results_array rfl _ _ w.heap.size _ _ (0, 0) 32 5 rfl (setRow_heap _ _ _ _ _ _ HZ1.out) Tryd.underlying24 (by kernel_rfl) HSO.out
    · exact ⟨rfl, below_setRow HB1.out (Nat.le_refl _) _⟩
set_option maxHeartbeats 1000000 in
theorem ref_extract_c (A B : Option Addr) (c d : Nat) (salt b : List UInt8) (w : World) (hk : salt.length ≤ 1048000) (hb : b.length ≤ 1048000) (hA : RB w A salt) (hB : RB w B b) :
    Calls Tryd.prog 35 #[.slice A salt.length c, .slice B b.length d] w fun e w' => e = .returned (.agg (bvs (Sen.extract salt b)).toArray) ∧ Below w.heap.size w w' := by
  have hz := zero24
  have hmk := fun W => run_make_bytes 32 (by decide) 32 rfl W
  obtain ⟨z32, hz32⟩ : ∃ z32, z32 = List.replicate 32 (0 : UInt8) := ⟨_, rfl⟩
  rw [← hz32] at hmk
  obtain ⟨n, hn⟩ : ∃ n, n = salt.length := ⟨_, rfl⟩
  obtain ⟨m, hm⟩ : ∃ m, m = b.length := ⟨_, rfl⟩
  have HZ := Lib.hid hz32; have HK := Lib.hid hk; have HBB := Lib.hid hb; have HA := Lib.hid hA; have HB := Lib.hid hB; have HN := Lib.hid hn; have HM := Lib.hid hm
  rw [← hn, ← hm]
  clear hz32 hk hb hA hB hn hm
  have HSO := Lib.hid (show (bvs (Sen.extract salt b)).length = 32 by rw [bvs_length]; exact Sen.hmac_length _ _)
  by_cases h0 : n = 0
  · subst h0
    have e := Lib.hid (show Sen.extract salt b = Sen.hmac z32 b by unfold Sen.extract; rw [if_pos HN.out.symm, HZ.out])
    have hzl := Lib.hid (show 32 = z32.length by rw [HZ.out]; rfl)
    go_enter Tryd.func35, Tryd.ntmps35
    go_wp2_with fail
    have hc := ref_mac_sum_c (some ⟨w.heap.size + 1, 0, none⟩) B 32 d z32 b ((w.alloc (.cells (bvs zeros32).toArray 24)).alloc (.cells (bvs z32).toArray 5)) (by rw [← hzl.out]; decide) HBB.out (rb_of_row (blk_new _ (by simp)) (by rw [← hzl.out]; decide)) (HB.out.below (below_alloc (below_alloc (Below.refl _ _) _) _))
    rw [← hzl.out, ← HM.out, ← e.out] at hc
    refine hc.mono ?_
    clear hc
    rintro e w1 ⟨rfl, hb1⟩
    have hz1 : w1.heap[w.heap.size]? = some (.cells (bvs zeros32).toArray 24 (0, 0)) := blk_below (blk_old _ (blk_new _ rfl)) hb1 (by simp; omega)
    have hB1 : Below w.heap.size w w1 := (below_alloc (below_alloc (Below.refl _ _) _) _).trans (hb1.mono (by simp; omega))
    have HZ1 := Lib.hid hz1; have HB1 := Lib.hid hB1
    clear hz1 hB1 hb1
    go_wp2_with (with_reducible refine wpList_store_any rfl 24 _ _ rfl w.heap.size (bvs (Sen.extract salt b)) rfl rfl 24 _ HZ1.out 32 (by kernel_rfl) HSO.out (by kernel_rfl) (bvs_one _) ?_ rfl)
    refine bodyPost_ret (v := .agg (bvs (Sen.extract salt b)).toArray) ?_ rfl ?_
    · exact results_array rfl _ _ w.heap.size _ _ (0, 0) 32 5 rfl (setRow_heap _ _ _ _ _ _ HZ1.out) Tryd.underlying24 (by kernel_rfl) HSO.out
    · exact ⟨rfl, below_setRow HB1.out (Nat.le_refl _) _⟩
  · have e := Lib.hid (show Sen.extract salt b = Sen.hmac salt b by unfold Sen.extract; rw [if_neg (by rw [← HN.out]; exact h0)])
    have t0 : ((n : Int) == 0) = false := by simp; omega
    go_enter Tryd.func35, Tryd.ntmps35
    go_wp2_with fail
    have hc := ref_mac_sum_c A B c d salt b (w.alloc (.cells (bvs zeros32).toArray 24)) HK.out HBB.out (HA.out.below (below_alloc (Below.refl _ _) _)) (HB.out.below (below_alloc (Below.refl _ _) _))
    rw [← HN.out, ← HM.out, ← e.out] at hc
    refine hc.mono ?_
    clear hc
    rintro e w1 ⟨rfl, hb1⟩
    have hz1 : w1.heap[w.heap.size]? = some (.cells (bvs zeros32).toArray 24 (0, 0)) := blk_below (blk_new _ rfl) hb1 (by simp)
    have hB1 : Below w.heap.size w w1 := (below_alloc (Below.refl _ _) _).trans (hb1.mono (by simp))
    have HZ1 := Lib.hid hz1; have HB1 := Lib.hid hB1
    clear hz1 hB1 hb1
    go_wp2_with (with_reducible refine wpList_store_any rfl 24 _ _ rfl w.heap.size (bvs (Sen.extract salt b)) rfl rfl 24 _ HZ1.out 32 (by kernel_rfl) HSO.out (by kernel_rfl) (bvs_one _) ?_ rfl)
    refine bodyPost_ret (v := .agg (bvs (Sen.extract salt b)).toArray) ?_ rfl ?_
    · exact results_array rfl _ _ w.heap.size _ _ (0, 0) 32 5 rfl (setRow_heap _ _ _ _ _ _ HZ1.out) Tryd.underlying24 (by kernel_rfl) HSO.out
    · exact ⟨rfl, below_setRow HB1.out (Nat.le_refl _) _⟩
end Go.Proofs.YtoophccelcbbfaaDoor
