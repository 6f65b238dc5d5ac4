/-
  mac: the walk of Sum.
-/
import Derived.Test.YteplaginenhfkaaDoorMac1
set_option linter.unusedVariables false
set_option linter.unusedSimpArgs false
namespace Go.Proofs.YteplaginenhfkaaDoor
open Go.RowKit

/-- Two slices of bytes in a row. -/
theorem rbs2 {w : World} {g : Nat} {t : TypeId} {fr : Nat × Nat} {A1 A2 : Option Addr} {n1 n2 c1 c2 : Nat} {l1 l2 : List UInt8} (h : w.heap[g]? = some (.cells #[.slice A1 n1 c1, .slice A2 n2 c2] t fr)) (h1 : n1 = l1.length) (h2 : n2 = l2.length)
    (r1 : RB w A1 l1) (r2 : RB w A2 l2) : RBs w (some ⟨g, 0, none⟩) [l1, l2] := by
  subst h1 h2
  intro i hi
  obtain rfl | rfl : i = 0 ∨ i = 1 := by simp at hi; omega
  · exact ⟨g, 0, A1, c1, rfl, by rw [cell_of_row w g _ _ _ _ h]; rfl, r1⟩
  · exact ⟨g, 0, A2, c2, rfl, by rw [cell_of_row w g _ _ _ _ h]; rfl, r2⟩
theorem hmac_two (x y : List UInt8) : [x, y].flatten = x ++ y := by simp
set_option maxRecDepth 100000 in
set_option maxHeartbeats 1000000 in
theorem mac_sum_c (A B : Option Addr) (c d : Nat) (key b : List UInt8) (w : World) (hk : key.length ≤ 1048000) (hb : b.length ≤ 1048000) (hA : RB w A key) (hB : RB w B b) (hT : Tab w) :
    Calls Tryd.prog 45 #[.slice A key.length c, .slice B b.length d] w fun e w' => e = .returned (.agg (bvs (Sen.hmac key b)).toArray) ∧ Below w.heap.size w w' := by
  have hz := zero24
  obtain ⟨n, hn⟩ : ∃ n, n = key.length := ⟨_, rfl⟩
  obtain ⟨m, hm⟩ : ∃ m, m = b.length := ⟨_, rfl⟩
  have HK := Lib.hid hk; have HBB := Lib.hid hb; have HA := Lib.hid hA; have HB := Lib.hid hB; have HT := Lib.hid hT; have HN := Lib.hid hn; have HM := Lib.hid hm
  rw [← hn, ← hm]
  clear hk hb hA hB hT hn hm
  have HSI := Lib.hid (show (bvs (Sen.sum (Sen.full key 54 ++ b))).length = 32 by rw [bvs_length, Sen.sum_length])
  have HSO := Lib.hid (show (bvs (Sen.hmac key b)).length = 32 by rw [bvs_length, Sen.hmac_length])
  go_enter Tryd.func45, Tryd.ntmps45
  go_wp2_with fail
  have hp1 := padded_c A c key 54 54 rfl (w.alloc (.cells (bvs zeros32).toArray 75)) (by have := HK.out; omega) (HA.out.below (below_alloc (Below.refl _ _) _)) (HT.out.below (below_alloc (Below.refl _ _) _))
  rw [← HN.out] at hp1
  refine hp1.mono ?_
  clear hp1
  rintro e w1 ⟨A1, rfl, hr1, hb1⟩
  have HR1 := Lib.hid hr1; have HB1 := Lib.hid hb1
  clear hr1 hb1
  have hB1 : Below w.heap.size w w1 := (below_alloc (Below.refl _ _) _).trans (HB1.out.mono (by simp))
  have HB1' := Lib.hid hB1
  clear hB1
  go_wp2_with fail
  have hblk : (w1.alloc (.cells #[.slice A1 64 64, .slice B m d] 24)).heap[w1.heap.size]? = some (.cells #[.slice A1 64 64, .slice B m d] 24) := blk_new _ rfl
  have hrs := rbs2 (l1 := Sen.full key 54) (l2 := b) hblk (Sen.full_length _ _).symm HM.out (HR1.out.below (below_alloc (Below.refl _ _) _)) (HB.out.below (below_alloc HB1'.out _))
  refine (parts_c _ 2 [Sen.full key 54, b] _ (by rw [hmac_two, List.length_append, Sen.full_length]; have := HBB.out; omega) (by simp) hrs (HT.out.below (below_alloc HB1'.out _))).mono ?_
  rw [hmac_two]
  clear hblk hrs
  rintro e w2 ⟨rfl, hb2⟩
  have hB2 : Below w.heap.size w w2 := (below_alloc HB1'.out _).trans (hb2.mono (by have := HB1'.out.size; simp; omega))
  have hz0 : w2.heap[w.heap.size]? = some (.cells (bvs zeros32).toArray 75 (0, 0)) := blk_below (blk_old _ (blk_below (blk_new _ rfl) HB1.out (by simp))) hb2 (by have := HB1.out.size; simp at this ⊢; omega)
  have HB2 := Lib.hid hB2; have HZ0 := Lib.hid hz0
  clear hb2 hB2 hz0
  go_wp2_with (with_reducible refine wpList_store_any rfl 75 _ _ rfl _ (bvs (Sen.sum (Sen.full key 54 ++ b))) rfl rfl 75 _ (blk_new _ rfl) 32 (by kernel_rfl) HSI.out (by kernel_rfl) (bvs_one _) ?_ rfl)
  rw [setRow_alloc]
  obtain ⟨W, hW⟩ : ∃ W, W = w2.alloc (.cells (bvs (Sen.sum (Sen.full key 54 ++ b))).toArray 75) := ⟨_, rfl⟩
  have f1 : W.heap[w2.heap.size]? = some (.cells (bvs (Sen.sum (Sen.full key 54 ++ b))).toArray 75 (0, 0)) := by rw [hW]; exact blk_new _ rfl
  have f0 : W.heap[w.heap.size]? = some (.cells (bvs zeros32).toArray 75 (0, 0)) := by rw [hW]; exact blk_old _ HZ0.out
  have f2 : Below w.heap.size w W := by rw [hW]; exact below_alloc HB2.out _
  rw [← hW]
  clear hW
  refine Last.region_hold (fun W' => Below W.heap.size W W') [0, 2] [1, 3, 4, 5] [3, 4, 5] (by kernel_rfl) (by kernel_rfl) (fun d _ _ _ _ h => by cases d <;> exact h) (below_drewN (Below.refl _ _) 1) ?_
  refine Last.hold_move _ _ rfl rfl rfl ?_
  refine Last.hold_read _ (.slice (some ⟨w2.heap.size, 0, none⟩) 32 32) rfl rfl (fun W' _ => by kernel_rfl) ?_
  have hp2 := padded_c A c key 92 92 rfl (W.drewN 1) (by have := HK.out; omega) ((HA.out.below f2).drewN 1) ((HT.out.below f2).drewN 1)
  rw [← HN.out] at hp2
  refine Last.mid_call _ 48 #[.slice A n c, .int .u8 92] rfl rfl (by kernel_rfl) ?_
  refine hp2.mono ?_
  clear hp2
  rintro e w3 ⟨A2, rfl, hr2, hb3⟩
  have hb3' : Below W.heap.size W w3 := (below_drewN (Below.refl _ _) 1).trans hb3
  refine ⟨_, rfl, fun _ _ => hb3', ?_⟩
  refine Last.mid_tail 3 (by kernel_rfl) (by decide) ?_
  simp only [List.drop_succ_cons, List.drop_zero]
  have g1 := blk_below f1 hb3' (Array.getElem?_eq_some_iff.1 f1).1
  have g0 := blk_below f0 hb3' (Array.getElem?_eq_some_iff.1 f0).1
  have g2 := f2.trans (hb3'.mono f2.size)
  have R2 := Lib.hid hr2; have G1 := Lib.hid g1; have G0 := Lib.hid g0; have G2 := Lib.hid g2
  clear f0 f1 f2 hb3 hb3' hr2 g0 g1 g2
  go_wp2_with fail
  have hblk : (w3.alloc (.cells #[.slice A2 64 64, .slice (some ⟨w2.heap.size, 0, none⟩) 32 32] 24)).heap[w3.heap.size]? = some (.cells #[.slice A2 64 64, .slice (some ⟨w2.heap.size, 0, none⟩) 32 32] 24) := blk_new _ rfl
  have hrs := rbs2 (l1 := Sen.full key 92) (l2 := Sen.sum (Sen.full key 54 ++ b)) hblk (Sen.full_length _ _).symm (Sen.sum_length _).symm (R2.out.below (below_alloc (Below.refl _ _) _)) (rb_of_row (blk_old _ G1.out) (by rw [Sen.sum_length]; decide))
  refine (parts_c _ 2 [Sen.full key 92, Sen.sum (Sen.full key 54 ++ b)] _ (by rw [hmac_two, List.length_append, Sen.full_length, Sen.sum_length]; decide) (by simp) hrs (HT.out.below (below_alloc G2.out _))).mono ?_
  rw [hmac_two, show Sen.sum (Sen.full key 92 ++ Sen.sum (Sen.full key 54 ++ b)) = Sen.hmac key b from rfl]
  clear hblk hrs
  rintro e w4 ⟨rfl, hb4⟩
  have hz4 : w4.heap[w.heap.size]? = some (.cells (bvs zeros32).toArray 75 (0, 0)) := blk_below (blk_old _ G0.out) hb4 (by have := (Array.getElem?_eq_some_iff.1 G0.out).1; simp; omega)
  have hB4 : Below w.heap.size w w4 := (below_alloc G2.out _).trans (hb4.mono (by have := G2.out.size; simp; omega))
  have HZ4 := Lib.hid hz4; have HB4 := Lib.hid hB4
  clear hb4 hz4 hB4
  go_wp2_with (with_reducible refine wpList_store_any rfl 75 _ _ rfl w.heap.size (bvs (Sen.hmac key b)) rfl rfl 75 _ HZ4.out 32 (by kernel_rfl) HSO.out (by kernel_rfl) (bvs_one _) ?_ rfl)
  refine bodyPost_ret (v := .agg (bvs (Sen.hmac key b)).toArray) ?_ rfl ?_
  · exact results_array rfl _ _ w.heap.size _ _ (0, 0) 32 5 rfl (setRow_heap _ _ _ _ _ _ HZ4.out) Tryd.underlying75 (by kernel_rfl) HSO.out
  · exact ⟨rfl, below_setRow HB4.out (Nat.le_refl _) _⟩
end Go.Proofs.YteplaginenhfkaaDoor
