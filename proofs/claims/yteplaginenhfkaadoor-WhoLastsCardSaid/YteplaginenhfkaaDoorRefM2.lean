/-
  The reference of layer 5: Sum.
-/
import Derived.Test.YteplaginenhfkaaDoorRefM1
import Derived.Test.YteplaginenhfkaaDoorHold
set_option linter.unusedVariables false
set_option linter.unusedSimpArgs false
namespace Go.Proofs.YteplaginenhfkaaDoor
open Go.RowKit

set_option maxRecDepth 100000 in
set_option maxHeartbeats 1000000 in
theorem ref_mac_sum_c (A B : Option Addr) (c d : Nat) (key b : List UInt8) (w : World) (hk : key.length ≤ 1048000) (hb : b.length ≤ 1048000) (hA : RB w A key) (hB : RB w B b) :
    Calls Tryd.prog 46 #[.slice A key.length c, .slice B b.length d] w fun e w' => e = .returned (.agg (bvs (Sen.hmac key b)).toArray) ∧ Below w.heap.size w w' := by
  have hz := zero24
  obtain ⟨n, hn⟩ : ∃ n, n = key.length := ⟨_, rfl⟩
  obtain ⟨m, hm⟩ : ∃ m, m = b.length := ⟨_, rfl⟩
  have HK := Lib.hid hk; have HBB := Lib.hid hb; have HA := Lib.hid hA; have HB := Lib.hid hB; have HN := Lib.hid hn; have HM := Lib.hid hm
  rw [← hn, ← hm]
  clear hk hb hA hB hn hm
  have HSI := Lib.hid (show (bvs (Sen.sum (Sen.full key 54 ++ b))).length = 32 by rw [bvs_length, Sen.sum_length])
  have HSO := Lib.hid (show (bvs (Sen.hmac key b)).length = 32 by rw [bvs_length, Sen.hmac_length])
  go_enter Tryd.func46, Tryd.ntmps46
  go_wp2_with fail
  have hp1 := full_c A c key 54 54 rfl (w.alloc (.cells (bvs zeros32).toArray 75)) (by have := HK.out; omega) (HA.out.below (below_alloc (Below.refl _ _) _))
  rw [← HN.out] at hp1
  refine hp1.mono ?_
  clear hp1
  rintro e w1 ⟨v1, rfl, ho1, hb1⟩
  have hB1 : Below w.heap.size w w1 := (below_alloc (Below.refl _ _) _).trans (hb1.mono (by simp))
  have hz1 : w1.heap[w.heap.size]? = some (.cells (bvs zeros32).toArray 75 (0, 0)) := blk_below (blk_new _ rfl) hb1 (by simp)
  have hlt1 : w.heap.size + 1 ≤ w1.heap.size := by have := hb1.size; simpa using this
  have HO1 := Lib.hid (show Own w1 (w.heap.size + 1) v1 (Sen.full key 54) by simpa using ho1); have HB1 := Lib.hid hB1; have HZ1 := Lib.hid hz1
  clear ho1 hb1 hB1 hz1
  go_wp2_with (at_builtin; refine app_bytes (.tmp 7) (.tmp 8) (w.heap.size + 1) (Sen.full key 54) b rfl rfl _ _ _ _ rfl rfl HM.out HO1.out (HB.out.below HB1.out) hlt1 (by rw [Sen.full_length]; have := HBB.out; omega) ?_; intro v2 w2 ho2 hb2)
  have hz2 : w2.heap[w.heap.size]? = some (.cells (bvs zeros32).toArray 75 (0, 0)) := blk_below HZ1.out hb2 (by omega)
  have hB2 : Below w.heap.size w w2 := HB1.out.trans (hb2.mono (by omega))
  have hlen : (Sen.full key 54 ++ b).length ≤ 1048576 := by rw [List.length_append, Sen.full_length]; have := HBB.out; omega
  obtain ⟨A2, c2, rfl, hc2, hr2⟩ := ho2.reads (by omega)
  have HZ2 := Lib.hid hz2; have HB2 := Lib.hid hB2
  clear hz2 hB2 hb2 ho2
  refine (ref_sum_c A2 c2 (Sen.full key 54 ++ b) _ hlen hr2).mono ?_
  clear hlen hc2 hr2
  rintro e w3 ⟨rfl, hb3⟩
  have hz3 : w3.heap[w.heap.size]? = some (.cells (bvs zeros32).toArray 75 (0, 0)) := blk_below HZ2.out hb3 (Array.getElem?_eq_some_iff.1 HZ2.out).1
  have hB3 : Below w.heap.size w w3 := HB2.out.trans (hb3.mono HB2.out.size)
  have HZ3 := Lib.hid hz3; have HB3 := Lib.hid hB3
  clear hz3 hB3 hb3
  go_wp2_with (with_reducible refine wpList_store_any rfl 75 _ _ rfl _ (bvs (Sen.sum (Sen.full key 54 ++ b))) rfl rfl 75 _ (blk_new _ rfl) 32 (by kernel_rfl) HSI.out (by kernel_rfl) (bvs_one _) ?_ rfl)
  rw [setRow_alloc]
  obtain ⟨W, hW⟩ : ∃ W, W = w3.alloc (.cells (bvs (Sen.sum (Sen.full key 54 ++ b))).toArray 75) := ⟨_, rfl⟩
  have f1 : W.heap[w3.heap.size]? = some (.cells (bvs (Sen.sum (Sen.full key 54 ++ b))).toArray 75 (0, 0)) := by rw [hW]; exact blk_new _ rfl
  have f0 : W.heap[w.heap.size]? = some (.cells (bvs zeros32).toArray 75 (0, 0)) := by rw [hW]; exact blk_old _ HZ3.out
  have f2 : Below w.heap.size w W := by rw [hW]; exact below_alloc HB3.out _
  rw [← hW]
  clear hW
  refine Last.region_hold (fun W' => Below W.heap.size W W') [0, 2] [1, 3, 4, 5] [3, 4, 5] (by kernel_rfl) (by kernel_rfl) (fun d _ _ _ _ h => by cases d <;> exact h) (below_drewN (Below.refl _ _) 1) ?_
  refine Last.hold_move _ _ rfl rfl rfl ?_
  refine Last.hold_read _ (.slice (some ⟨w3.heap.size, 0, none⟩) 32 32) rfl rfl (fun W' _ => by kernel_rfl) ?_
  have hp2 := full_c A c key 92 92 rfl (W.drewN 1) (by have := HK.out; omega) ((HA.out.below f2).drewN 1)
  rw [← HN.out] at hp2
  refine Last.mid_call _ 50 #[.slice A n c, .int .u8 92] rfl rfl (by kernel_rfl) ?_
  refine hp2.mono ?_
  clear hp2
  rintro e w4 ⟨v4, rfl, ho4, hb4⟩
  have hb4' : Below W.heap.size W w4 := (below_drewN (Below.refl _ _) 1).trans hb4
  refine ⟨_, rfl, fun _ _ => hb4', ?_⟩
  refine Last.mid_tail 3 (by kernel_rfl) (by decide) ?_
  simp only [List.drop_succ_cons, List.drop_zero]
  have g1 := blk_below f1 hb4' (Array.getElem?_eq_some_iff.1 f1).1
  have g0 := blk_below f0 hb4' (Array.getElem?_eq_some_iff.1 f0).1
  have g2 := f2.trans (hb4'.mono f2.size)
  have hlt4 : W.heap.size ≤ w4.heap.size := hb4'.size
  have hWlt : w.heap.size < W.heap.size := (Array.getElem?_eq_some_iff.1 f0).1
  have O4 := Lib.hid (show Own w4 W.heap.size v4 (Sen.full key 92) from ho4); have G1 := Lib.hid g1; have G0 := Lib.hid g0; have G2 := Lib.hid g2
  clear f0 f1 f2 hb4 hb4' ho4 g0 g1 g2
  go_wp2_with (at_builtin; refine app_bytes (.tmp 12) (.tmp 13) W.heap.size (Sen.full key 92) (Sen.sum (Sen.full key 54 ++ b)) rfl rfl _ _ _ _ rfl rfl (Sen.sum_length _).symm O4.out (rb_of_row G1.out (by rw [Sen.sum_length]; decide)) hlt4 (by rw [Sen.full_length, Sen.sum_length]; decide) ?_; intro v5 w5 ho5 hb5)
  have hz5 : w5.heap[w.heap.size]? = some (.cells (bvs zeros32).toArray 75 (0, 0)) := blk_below G0.out hb5 hWlt
  have hB5 : Below w.heap.size w w5 := G2.out.trans (hb5.mono (by omega))
  have hlen : (Sen.full key 92 ++ Sen.sum (Sen.full key 54 ++ b)).length ≤ 1048576 := by rw [List.length_append, Sen.full_length, Sen.sum_length]; decide
  obtain ⟨A5, c5, rfl, hc5, hr5⟩ := ho5.reads (by omega)
  have HZ5 := Lib.hid hz5; have HB5 := Lib.hid hB5
  clear hz5 hB5 hb5 ho5
  refine (ref_sum_c A5 c5 (Sen.full key 92 ++ Sen.sum (Sen.full key 54 ++ b)) _ hlen hr5).mono ?_
  rw [show Sen.sum (Sen.full key 92 ++ Sen.sum (Sen.full key 54 ++ b)) = Sen.hmac key b from rfl]
  clear hlen hc5 hr5
  rintro e w6 ⟨rfl, hb6⟩
  have hz6 : w6.heap[w.heap.size]? = some (.cells (bvs zeros32).toArray 75 (0, 0)) := blk_below HZ5.out hb6 (Array.getElem?_eq_some_iff.1 HZ5.out).1
  have hB6 : Below w.heap.size w w6 := HB5.out.trans (hb6.mono HB5.out.size)
  have HZ6 := Lib.hid hz6; have HB6 := Lib.hid hB6
  clear hb6 hz6 hB6
  go_wp2_with (with_reducible refine wpList_store_any rfl 75 _ _ rfl w.heap.size (bvs (Sen.hmac key b)) rfl rfl 75 _ HZ6.out 32 (by kernel_rfl) HSO.out (by kernel_rfl) (bvs_one _) ?_ rfl)
  refine bodyPost_ret (v := .agg (bvs (Sen.hmac key b)).toArray) ?_ rfl ?_
  · exact results_array rfl _ _ w.heap.size _ _ (0, 0) 32 5 rfl (setRow_heap _ _ _ _ _ _ HZ6.out) Tryd.underlying75 (by kernel_rfl) HSO.out
  · exact ⟨rfl, below_setRow HB6.out (Nat.le_refl _) _⟩
end Go.Proofs.YteplaginenhfkaaDoor
