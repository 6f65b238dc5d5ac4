/-
  Parts, of mac and of its reference.
-/
import Derived.Test.YteplaginenhfkaaDoorMac3
import Derived.Test.YteplaginenhfkaaDoorRefM2
set_option linter.unusedVariables false
set_option linter.unusedSimpArgs false
namespace Go.Proofs.YteplaginenhfkaaDoor
open Go.RowKit

theorem rb_be32 {w : World} {g : Nat} {t : TypeId} {fr : Nat × Nat} (n : Nat) (z0 z1 z2 z3 : Int) (h : w.heap[g]? = some (.cells #[.int .u8 z0, .int .u8 z1, .int .u8 z2, .int .u8 z3] t fr))
    (e0 : z0 = ((n / 16777216 % 256 : Nat) : Int)) (e1 : z1 = ((n / 65536 % 256 : Nat) : Int)) (e2 : z2 = ((n / 256 % 256 : Nat) : Int)) (e3 : z3 = ((n % 256 : Nat) : Int)) : RB w (some ⟨g, 0, none⟩) (Sen.be32 n) := by
  have e : (bvs (Sen.be32 n)).toArray = #[.int .u8 z0, .int .u8 z1, .int .u8 z2, .int .u8 z3] := by
    subst e0 e1 e2 e3
    simp [bvs, bv, Sen.be32, UInt8.toNat_ofNat']
  rw [← e] at h
  exact rb_of_row h (by simp [Sen.be32])
set_option maxRecDepth 100000 in
set_option maxHeartbeats 2000000 in
theorem mac_parts_c (A B : Option Addr) (c d : Nat) (key : List UInt8) (ls : List (List UInt8)) (w : World) (hk : key.length ≤ 1048000) (hl : 4 * ls.length + ls.flatten.length ≤ 1048000) (hA : RB w A key) (hB : RBs w B ls) (hT : Tab w) :
    Calls Tryd.prog 35 #[.slice A key.length c, .slice B ls.length d] w fun e w' => e = .returned (.agg (bvs (Sen.hmac key (Sen.partsOf ls))).toArray) ∧ Below w.heap.size w w' := by
  have hz := zero24
  obtain ⟨n, hn⟩ : ∃ n, n = key.length := ⟨_, rfl⟩
  obtain ⟨Z, hZ⟩ : ∃ Z, Z = ls.length := ⟨_, rfl⟩
  have hZ1 : Z ≤ 1048000 := by omega
  have hfl : ∀ k, k ≤ ls.length → (Sen.partsOf (ls.take k)).length ≤ 1048000 := fun k hk => by
    rw [Sen.partsOf_length]
    have : ls.flatten.length = (ls.take k).flatten.length + (ls.drop k).flatten.length := by rw [← List.length_append, ← List.flatten_append, List.take_append_drop]
    rw [List.length_take]
    omega
  have HF := Lib.hid hfl
  have HK := Lib.hid hk; have HL := Lib.hid hl; have HA := Lib.hid hA; have HB := Lib.hid hB; have HN := Lib.hid hn; have HZ := Lib.hid hZ; have HT := Lib.hid hT
  rw [← hn, ← hZ]
  clear hk hl hA hB hn hZ hfl hT
  have HSO := Lib.hid (show (bvs (Sen.hmac key (Sen.partsOf ls))).length = 32 by rw [bvs_length, Sen.hmac_length])
  go_enter Tryd.func35, Tryd.ntmps35
  go_wp2
  go_loopw [5, 11] (fun va vi wr => ∃ k : Nat, k ≤ Z ∧ vi = .int .i64 k ∧ Own wr (w.heap.size + 1) va (Sen.partsOf (ls.take k)) ∧ Below (w.heap.size + 1) (w.alloc (.cells (bvs zeros32).toArray 75)) wr) (fun _ i _ => Z - (intOf i).toNat)
  case atStart => exact ⟨0, by omega, rfl, Own.nil _ _, Below.refl _ _⟩
  case round =>
    obtain ⟨k, hk, rfl, hown, hB⟩ := hrel
    have hBw : Below w.heap.size w wr := (below_alloc (Below.refl _ _) _).trans (hB.mono (by omega))
    have hsz : w.heap.size + 1 ≤ wr.heap.size := by have := hB.size; simpa using this
    by_cases hlt : k < Z
    · have t0 : decide ((k : Int) < (Z : Int)) = true := by simp; omega
      have k0 : (k : Int) < (Z : Int) := by omega
      obtain ⟨b, off, A', c', rfl, hc0, hr⟩ := HB.out k (by rw [← HZ.out]; exact hlt)
      obtain ⟨y, hy⟩ : ∃ y, y = ls[k]'(by rw [← HZ.out]; exact hlt) := ⟨_, rfl⟩
      have hnext : Sen.partsOf (ls.take (k + 1)) = Sen.partsOf (ls.take k) ++ Sen.be32 y.length ++ y := by rw [List.take_succ_eq_append_getElem (by rw [← HZ.out]; exact hlt), Sen.partsOf_snoc, hy]
      have hle : (Sen.partsOf (ls.take k)).length + 4 + y.length ≤ 1048000 := by
        have := HF.out (k + 1) (by rw [← HZ.out]; omega)
        rw [hnext, List.length_append, List.length_append] at this
        exact this
      rw [← hy] at hc0 hr
      obtain ⟨L, hL⟩ : ∃ L, L = y.length := ⟨_, rfl⟩
      rw [← hL] at hc0 hnext hle
      have hL1 : L ≤ 1048000 := by omega
      have hblt : b < w.heap.size := World.block_lt_of_cell? w _ hc0
      have hc := (hBw.cell (p := ⟨b, off + k, none⟩) hblt).trans hc0
      have HN2 := Lib.hid hnext; have HLE := Lib.hid hle; have HL2 := Lib.hid hL; have HR := Lib.hid hr; have HOWN := Lib.hid hown; have HBr := Lib.hid hB; have HC0 := Lib.hid hc0; have HBW := Lib.hid hBw
      clear hy hnext hle hL hr hown hB hc0 hBw
      go_wp2_with (first | (at_builtin; refine app_bytes (.tmp 18) (.tmp 30) (w.heap.size + 1) (Sen.partsOf (ls.take k)) (Sen.be32 L) rfl rfl _ _ _ _ rfl rfl rfl (HOWN.out.alloc _) (rb_be32 L _ _ _ _ (blk_new _ rfl) ?_ ?_ ?_ ?_) (by simp; omega) (by have := HLE.out; simp only [Sen.be32, List.length_cons, List.length_nil]; omega) ?_; all_goals first | omega | skip; intro v1 w1 ho1 hb1; have HO1 := Lib.hid ho1; have HB1 := Lib.hid ((Below.alloc (Below.refl _ _) hsz _).trans hb1); have HBW1 := Lib.hid (HBW.out.trans (HB1.out.mono (Nat.le_succ _))); have hsz1 := Nat.le_trans hsz HB1.out.size; have hc1 := (HBW1.out.cell (p := ⟨b, off + k, none⟩) hblt).trans HC0.out; clear ho1 hb1) | (at_builtin; refine app_bytes (.tmp 32) (.tmp 33) (w.heap.size + 1) (Sen.partsOf (ls.take k) ++ Sen.be32 L) y rfl rfl _ _ _ _ rfl rfl HL2.out HO1.out (HR.out.below HBW1.out) hsz1 (by rw [List.length_append, ← HL2.out]; have := HLE.out; simp only [Sen.be32, List.length_cons, List.length_nil]; omega) ?_; intro v2 w2 ho2 hb2))
      exact ⟨⟨k + 1, by omega, by go_num, by rw [HN2.out]; exact ho2, HBr.out.trans (HB1.out.trans hb2)⟩, by simp [intOf]; omega⟩
    · obtain rfl : k = Z := by omega
      have t0 : decide ((k : Int) < (k : Int)) = false := by simp
      have hown2 := hown
      rw [HZ.out, List.take_length] at hown2
      have hpl : (Sen.partsOf ls).length ≤ 1048000 := by rw [Sen.partsOf_length]; exact HL.out
      obtain ⟨A2, c2, rfl, hc2, hr2⟩ := hown2.reads (by omega)
      have hz : wr.heap[w.heap.size]? = some (.cells (bvs zeros32).toArray 75 (0, 0)) := blk_below (blk_new _ rfl) hB (by omega)
      have HPL := Lib.hid hpl; have HR2 := Lib.hid hr2; have HZ0 := Lib.hid hz; have HBW := Lib.hid hBw
      clear hown hown2 hpl hc2 hr2 hz hBw hB
      go_wp2_with fail
      have hcs := mac_sum_c A A2 c c2 key (Sen.partsOf ls) wr HK.out HPL.out (HA.out.below HBW.out) HR2.out (HT.out.below HBW.out)
      rw [← HN.out] at hcs
      refine hcs.mono ?_
      clear hcs
      rintro e w1 ⟨rfl, hb1⟩
      have hz1 : w1.heap[w.heap.size]? = some (.cells (bvs zeros32).toArray 75 (0, 0)) := blk_below HZ0.out hb1 (Array.getElem?_eq_some_iff.1 HZ0.out).1
      have hB1 : Below w.heap.size w w1 := HBW.out.trans (hb1.mono HBW.out.size)
      have HZ1 := Lib.hid hz1; have HB1 := Lib.hid hB1
      clear hz1 hB1 hb1
      go_wp2_with (with_reducible refine wpList_store_any rfl 75 _ _ rfl w.heap.size (bvs (Sen.hmac key (Sen.partsOf ls))) rfl rfl 75 _ HZ1.out 32 (by kernel_rfl) HSO.out (by kernel_rfl) (bvs_one _) ?_ rfl)
      refine bodyPost_ret (v := .agg (bvs (Sen.hmac key (Sen.partsOf ls))).toArray) ?_ rfl ?_
      · exact results_array rfl _ _ w.heap.size _ _ (0, 0) 32 5 rfl (setRow_heap _ _ _ _ _ _ HZ1.out) Tryd.underlying75 (by kernel_rfl) HSO.out
      · exact ⟨rfl, below_setRow HB1.out (Nat.le_refl _) _⟩
set_option maxRecDepth 100000 in
set_option maxHeartbeats 2000000 in
theorem ref_mac_parts_c (A B : Option Addr) (c d : Nat) (key : List UInt8) (ls : List (List UInt8)) (w : World) (hk : key.length ≤ 1048000) (hl : 4 * ls.length + ls.flatten.length ≤ 1048000) (hA : RB w A key) (hB : RBs w B ls) :
    Calls Tryd.prog 38 #[.slice A key.length c, .slice B ls.length d] w fun e w' => e = .returned (.agg (bvs (Sen.hmac key (Sen.partsOf ls))).toArray) ∧ Below w.heap.size w w' := by
  have hz := zero24
  obtain ⟨n, hn⟩ : ∃ n, n = key.length := ⟨_, rfl⟩
  obtain ⟨Z, hZ⟩ : ∃ Z, Z = ls.length := ⟨_, rfl⟩
  have hZ1 : Z ≤ 1048000 := by omega
  have hfl : ∀ k, k ≤ ls.length → (Sen.partsOf (ls.take k)).length ≤ 1048000 := fun k hk => by
    rw [Sen.partsOf_length]
    have : ls.flatten.length = (ls.take k).flatten.length + (ls.drop k).flatten.length := by rw [← List.length_append, ← List.flatten_append, List.take_append_drop]
    rw [List.length_take]
    omega
  have HF := Lib.hid hfl
  have HK := Lib.hid hk; have HL := Lib.hid hl; have HA := Lib.hid hA; have HB := Lib.hid hB; have HN := Lib.hid hn; have HZ := Lib.hid hZ
  rw [← hn, ← hZ]
  clear hk hl hA hB hn hZ hfl
  have HSO := Lib.hid (show (bvs (Sen.hmac key (Sen.partsOf ls))).length = 32 by rw [bvs_length, Sen.hmac_length])
  go_enter Tryd.func38, Tryd.ntmps38
  go_wp2
  go_loopw [5, 6] (fun va vi wr => ∃ k : Nat, k ≤ Z ∧ vi = .int .i64 k ∧ Own wr (w.heap.size + 1) va (Sen.partsOf (ls.take k)) ∧ Below (w.heap.size + 1) (w.alloc (.cells (bvs zeros32).toArray 75)) wr) (fun _ i _ => Z - (intOf i).toNat)
  case atStart => exact ⟨0, by omega, rfl, by have := Own.new (w.alloc (.cells (bvs zeros32).toArray 75)) (w.heap.size + 1) (by simp); simpa [Sen.partsOf] using this, Below.alloc (Below.refl _ _) (by simp) _⟩
  case round =>
    obtain ⟨k, hk, rfl, hown, hB⟩ := hrel
    have hBw : Below w.heap.size w wr := (below_alloc (Below.refl _ _) _).trans (hB.mono (by omega))
    have hsz : w.heap.size + 1 ≤ wr.heap.size := by have := hB.size; simpa using this
    by_cases hlt : k < Z
    · have t0 : decide ((k : Int) < (Z : Int)) = true := by simp; omega
      have k0 : (k : Int) < (Z : Int) := by omega
      obtain ⟨b, off, A', c', rfl, hc0, hr⟩ := HB.out k (by rw [← HZ.out]; exact hlt)
      obtain ⟨y, hy⟩ : ∃ y, y = ls[k]'(by rw [← HZ.out]; exact hlt) := ⟨_, rfl⟩
      have hnext : Sen.partsOf (ls.take (k + 1)) = Sen.partsOf (ls.take k) ++ Sen.be32 y.length ++ y := by rw [List.take_succ_eq_append_getElem (by rw [← HZ.out]; exact hlt), Sen.partsOf_snoc, hy]
      have hle : (Sen.partsOf (ls.take k)).length + 4 + y.length ≤ 1048000 := by
        have := HF.out (k + 1) (by rw [← HZ.out]; omega)
        rw [hnext, List.length_append, List.length_append] at this
        exact this
      rw [← hy] at hc0 hr
      obtain ⟨L, hL⟩ : ∃ L, L = y.length := ⟨_, rfl⟩
      rw [← hL] at hc0 hnext hle
      have hL1 : L ≤ 1048000 := by omega
      have hblt : b < w.heap.size := World.block_lt_of_cell? w _ hc0
      have hc := (hBw.cell (p := ⟨b, off + k, none⟩) hblt).trans hc0
      have HN2 := Lib.hid hnext; have HLE := Lib.hid hle; have HL2 := Lib.hid hL; have HR := Lib.hid hr; have HOWN := Lib.hid hown; have HBr := Lib.hid hB; have HC0 := Lib.hid hc0; have HBW := Lib.hid hBw
      clear hy hnext hle hL hr hown hB hc0 hBw
      go_wp2_with (first | (at_builtin; refine app_bytes (.tmp 20) (.tmp 36) (w.heap.size + 1) (Sen.partsOf (ls.take k)) (Sen.be32 L) rfl rfl _ _ _ _ rfl rfl rfl (HOWN.out.alloc _) (rb_be32 L _ _ _ _ (blk_new _ rfl) ?_ ?_ ?_ ?_) (by simp; omega) (by have := HLE.out; simp only [Sen.be32, List.length_cons, List.length_nil]; omega) ?_; all_goals first | omega | skip; intro v1 w1 ho1 hb1; have HO1 := Lib.hid ho1; have HB1 := Lib.hid ((Below.alloc (Below.refl _ _) hsz _).trans hb1); have HBW1 := Lib.hid (HBW.out.trans (HB1.out.mono (Nat.le_succ _))); have hsz1 := Nat.le_trans hsz HB1.out.size; have hc1 := (HBW1.out.cell (p := ⟨b, off + k, none⟩) hblt).trans HC0.out; clear ho1 hb1) | (at_builtin; refine app_bytes (.tmp 38) (.tmp 42) (w.heap.size + 1) (Sen.partsOf (ls.take k) ++ Sen.be32 L) y rfl rfl _ _ _ _ rfl rfl HL2.out HO1.out (HR.out.below HBW1.out) hsz1 (by rw [List.length_append, ← HL2.out]; have := HLE.out; simp only [Sen.be32, List.length_cons, List.length_nil]; omega) ?_; intro v2 w2 ho2 hb2))
      exact ⟨⟨k + 1, by omega, by go_num, by rw [HN2.out]; exact ho2, HBr.out.trans (HB1.out.trans hb2)⟩, by simp [intOf]; omega⟩
    · obtain rfl : k = Z := by omega
      have t0 : decide ((k : Int) < (k : Int)) = false := by simp
      have hown2 := hown
      rw [HZ.out, List.take_length] at hown2
      have hpl : (Sen.partsOf ls).length ≤ 1048000 := by rw [Sen.partsOf_length]; exact HL.out
      obtain ⟨A2, c2, rfl, hc2, hr2⟩ := hown2.reads (by omega)
      have hz : wr.heap[w.heap.size]? = some (.cells (bvs zeros32).toArray 75 (0, 0)) := blk_below (blk_new _ rfl) hB (by omega)
      have HPL := Lib.hid hpl; have HR2 := Lib.hid hr2; have HZ0 := Lib.hid hz; have HBW := Lib.hid hBw
      clear hown hown2 hpl hc2 hr2 hz hBw hB
      go_wp2_with fail
      have hcs := ref_mac_sum_c A A2 c c2 key (Sen.partsOf ls) wr HK.out HPL.out (HA.out.below HBW.out) HR2.out
      rw [← HN.out] at hcs
      refine hcs.mono ?_
      clear hcs
      rintro e w1 ⟨rfl, hb1⟩
      have hz1 : w1.heap[w.heap.size]? = some (.cells (bvs zeros32).toArray 75 (0, 0)) := blk_below HZ0.out hb1 (Array.getElem?_eq_some_iff.1 HZ0.out).1
      have hB1 : Below w.heap.size w w1 := HBW.out.trans (hb1.mono HBW.out.size)
      have HZ1 := Lib.hid hz1; have HB1 := Lib.hid hB1
      clear hz1 hB1 hb1
      go_wp2_with (with_reducible refine wpList_store_any rfl 75 _ _ rfl w.heap.size (bvs (Sen.hmac key (Sen.partsOf ls))) rfl rfl 75 _ HZ1.out 32 (by kernel_rfl) HSO.out (by kernel_rfl) (bvs_one _) ?_ rfl)
      refine bodyPost_ret (v := .agg (bvs (Sen.hmac key (Sen.partsOf ls))).toArray) ?_ rfl ?_
      · exact results_array rfl _ _ w.heap.size _ _ (0, 0) 32 5 rfl (setRow_heap _ _ _ _ _ _ HZ1.out) Tryd.underlying75 (by kernel_rfl) HSO.out
      · exact ⟨rfl, below_setRow HB1.out (Nat.le_refl _) _⟩
end Go.Proofs.YteplaginenhfkaaDoor
