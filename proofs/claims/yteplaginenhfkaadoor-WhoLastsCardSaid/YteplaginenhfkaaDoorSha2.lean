/-
  sha: the walk of Parts.
-/
import Derived.Test.YteplaginenhfkaaDoorSumW
import Derived.Test.YteplaginenhfkaaDoorApp
set_option linter.unusedVariables false
set_option linter.unusedSimpArgs false
namespace Go.Proofs.YteplaginenhfkaaDoor
open Go.RowKit

/-! ### Parts: the slices of bytes, one behind the other -/
/-- A slice of slices of bytes that is read. -/
def RBs (w : World) (A : Option Addr) (ls : List (List UInt8)) : Prop :=
  ∀ i, (h : i < ls.length) → ∃ b off A' c, A = some ⟨b, off, none⟩ ∧ w.cell? ⟨b, off + i, none⟩ = some (.slice A' (ls[i]'h).length c) ∧ RB w A' (ls[i]'h)
theorem RBs.below {w w1 : World} {A : Option Addr} {ls : List (List UInt8)} (h : RBs w A ls) (hb : Below w.heap.size w w1) : RBs w1 A ls := fun i hi => by
  obtain ⟨b, off, A', c, e, hc, hr⟩ := h i hi
  exact ⟨b, off, A', c, e, (hb.cell (World.block_lt_of_cell? w _ hc)).trans hc, hr.below hb⟩
set_option maxRecDepth 100000 in
set_option maxHeartbeats 1000000 in
theorem parts_c (A : Option Addr) (c : Nat) (ls : List (List UInt8)) (w : World) (hl : ls.flatten.length ≤ 1048576) (hn : ls.length ≤ 1048576) (hR : RBs w A ls) (hT : Tab w) :
    Calls Tryd.prog 47 #[.slice A ls.length c] w fun e w' => e = .returned (.agg (bvs (Sen.sum ls.flatten)).toArray) ∧ Below w.heap.size w w' := by
  have hz := zero24
  have HSL := Lib.hid (show (bvs (Sen.sum ls.flatten)).length = 32 by rw [bvs_length, Sen.sum_length])
  have HR := Lib.hid hR; have HT := Lib.hid hT; have HL := Lib.hid hl
  clear hR hT hl
  have hfl : ∀ k, k ≤ ls.length → (ls.take k).flatten.length ≤ 1048576 := fun k _ => by
    have : ls.flatten.length = (ls.take k).flatten.length + (ls.drop k).flatten.length := by rw [← List.length_append, ← List.flatten_append, List.take_append_drop]
    have := HL.out
    omega
  have HF := Lib.hid hfl
  clear hfl
  go_enter Tryd.func47, Tryd.ntmps47
  go_wp2
  go_loopw [3, 8] (fun va vi wr => ∃ k : Nat, k ≤ ls.length ∧ vi = .int .i64 k ∧ Own wr (w.heap.size + 1) va (ls.take k).flatten ∧ Below (w.heap.size + 1) (w.alloc (.cells (bvs zeros32).toArray 75)) wr) (fun _ i _ => ls.length - (intOf i).toNat)
  case atStart => exact ⟨0, by omega, rfl, Own.nil _ _, Below.refl _ _⟩
  case round =>
    obtain ⟨k, hk, rfl, hown, hB⟩ := hrel
    have hBw : Below w.heap.size w wr := (below_alloc (Below.refl _ _) _).trans (hB.mono (by omega))
    by_cases hlt : k < ls.length
    · have t0 : decide ((k : Int) < (ls.length : Int)) = true := by simp; omega
      have k0 : (k : Int) < (ls.length : Int) := by omega
      obtain ⟨b, off, A', c', rfl, hc, hr⟩ := (HR.out.below hBw) k hlt
      obtain ⟨y, hy⟩ : ∃ y, y = ls[k]'hlt := ⟨_, rfl⟩
      have hnext : (ls.take (k + 1)).flatten = (ls.take k).flatten ++ y := by rw [List.take_succ_eq_append_getElem hlt, List.flatten_append, hy]; simp
      have hle : (ls.take k).flatten.length + y.length ≤ 1048576 := by
        have := HF.out (k + 1) hlt
        rw [hnext, List.length_append] at this
        exact this
      rw [← hy] at hc hr
      have HN := Lib.hid hnext; have HLE := Lib.hid hle
      clear hy hnext hle
      go_wp2_with (refine wpList_append_bytes rfl _ _ rfl (w.heap.size + 1) _ (ls.take k).flatten y _ _ _ rfl rfl rfl hown hr (by have := hB.size; simpa using this) (by have := HLE.out; omega) ?_; intro v1 w1 ho1 hg1)
      exact ⟨⟨k + 1, by omega, by go_num, by rw [HN.out]; exact ho1, own_below hB hown hg1 (Nat.le_refl _) (by have := hB.size; simpa using this)⟩, by simp [intOf]; omega⟩
    · obtain rfl : k = ls.length := by omega
      have t0 : decide ((ls.length : Int) < (ls.length : Int)) = false := by simp
      rw [List.take_length] at hown
      obtain ⟨fl, hfl⟩ : ∃ fl, fl = ls.flatten := ⟨_, rfl⟩
      rw [← hfl] at hown HL
      have HFL := Lib.hid hfl
      have HS2 := Lib.hid (show (bvs (Sen.sum fl)).length = 32 by rw [bvs_length, Sen.sum_length])
      clear hfl
      obtain ⟨A2, c2, rfl, hc2, hr2⟩ := hown.reads (by have := HL.out; omega)
      have hT2 := HT.out.below hBw
      have hz : wr.heap[w.heap.size]? = some (.cells (bvs zeros32).toArray 75 (0, 0)) := blk_below (blk_new _ rfl) hB (by omega)
      have HZ := Lib.hid hz; have HT2 := Lib.hid hT2; have HR2 := Lib.hid hr2; have HBw := Lib.hid hBw
      have hlt2 : w.heap.size < wr.heap.size := (Array.getElem?_eq_some_iff.1 hz).1
      clear hz hT2 hr2 hBw hown
      go_wp2_with (first | (go_at_call 51; refine (sum_c A2 c2 fl _ HL.out HR2.out HT2.out).mono ?_; rintro e w1 ⟨rfl, hb1⟩) | (with_reducible refine wpList_store_any rfl 75 _ _ rfl w.heap.size (bvs (Sen.sum fl)) rfl rfl 75 _ (blk_below HZ.out hb1 hlt2) 32 (by kernel_rfl) HS2.out (by kernel_rfl) (bvs_one _) ?_ rfl))
      refine bodyPost_ret (v := .agg (bvs (Sen.sum fl)).toArray) ?_ rfl ?_
      · exact results_array rfl _ _ w.heap.size _ _ (0, 0) 32 5 rfl (setRow_heap _ _ _ _ _ _ (blk_below HZ.out hb1 hlt2)) Tryd.underlying75 (by kernel_rfl) HS2.out
      · exact ⟨by rw [HFL.out], below_setRow (HBw.out.trans (hb1.mono (by omega))) (Nat.le_refl _) _⟩
end Go.Proofs.YteplaginenhfkaaDoor
