/-
  The helpers of the statements of layer 5: short, works; the walk of MacSame.
-/
import Derived.Test.YtoophccelcbbfaaDoorMac3
import Derived.Test.YtoophccelcbbfaaDoorMac2
import Derived.Test.YtoophccelcbbfaaDoorEq
set_option linter.unusedVariables false
set_option linter.unusedSimpArgs false
namespace Go.Proofs.YtoophccelcbbfaaDoor
open Go.RowKit

theorem short5_c (A : Option Addr) (c : Nat) (l : List UInt8) (w : World) (hc : l.length ≤ c) (hl : l.length ≤ 140737488351232) :
    Calls Tryd.prog 29 #[.slice A l.length c] w fun e w' => e = .returned (.slice A (l.take 300).length c) ∧ w = w' := by
  obtain ⟨n, hn⟩ : ∃ n, n = l.length := ⟨_, rfl⟩
  have e : (l.take 300).length = min 300 n := by rw [List.length_take, hn]
  rw [e, ← hn]
  rw [← hn] at hc hl
  clear e hn l
  by_cases h : n ≤ 300
  · have hsl := fun W => run_slice_to A n c n hc W
    have hm : (n : Int) ≤ 300 := by omega
    rw [show min 300 n = n by omega]
    go_enter Tryd.func29, Tryd.ntmps29
    go_wp2
    go_ret
    exact ⟨rfl, rfl⟩
  · have hsl := fun W => run_slice_to A n c 300 (by omega) W
    rw [show ((300 : Nat) : Int) = 300 from rfl] at hsl
    have hm : ¬ (n : Int) ≤ 300 := by omega
    have hm2 : (300 : Int) < n := by omega
    rw [show min 300 n = 300 by omega]
    go_enter Tryd.func29, Tryd.ntmps29
    go_wp2
    go_ret
    exact ⟨rfl, rfl⟩
def keyBytes : List UInt8 := [107, 101, 121]
def foxBytes : List UInt8 := [84, 104, 101, 32, 113, 117, 105, 99, 107, 32, 98, 114, 111, 119, 110, 32, 102, 111, 120, 32, 106, 117, 109, 112, 115, 32, 111, 118, 101, 114, 32, 116, 104, 101, 32, 108, 97, 122, 121, 32, 100, 111, 103]
theorem hmac_fox' : ∃ r, Sen.hmac keyBytes foxBytes = [0xf7, 0xbc, 0x83, 0xf4] ++ r := ⟨(Sen.hmac keyBytes foxBytes).drop 4, by rw [← Sen.hmac_fox]; exact (List.take_append_drop 4 _).symm⟩
set_option maxHeartbeats 1000000 in
theorem works5_c (w : World) (hT : Tab w) : Calls Tryd.prog 31 #[] w fun e w' => e = .returned (.bool true) ∧ Below w.heap.size w w' := by
  have kc := fun (w : World) (C : Array Value) (n c : Nat) => Lib.run_convert_bytes_const (P := Tryd.prog) w 22 5 C n c Tryd.underlying22 Tryd.underlying5
  have HT := Lib.hid hT
  have hz := zero24
  clear hT
  go_enter Tryd.func31, Tryd.ntmps31
  have kc2 := kc (w.alloc (.cells #[Value.int IntKind.u8 107, Value.int IntKind.u8 101, Value.int IntKind.u8 121] 5 (3, 4))) #[Value.int IntKind.u8 84, Value.int IntKind.u8 104, Value.int IntKind.u8 101, Value.int IntKind.u8 32, Value.int IntKind.u8 113, Value.int IntKind.u8 117, Value.int IntKind.u8 105, Value.int IntKind.u8 99, Value.int IntKind.u8 107, Value.int IntKind.u8 32, Value.int IntKind.u8 98, Value.int IntKind.u8 114, Value.int IntKind.u8 111, Value.int IntKind.u8 119, Value.int IntKind.u8 110, Value.int IntKind.u8 32, Value.int IntKind.u8 102, Value.int IntKind.u8 111, Value.int IntKind.u8 120, Value.int IntKind.u8 32, Value.int IntKind.u8 106, Value.int IntKind.u8 117, Value.int IntKind.u8 109, Value.int IntKind.u8 112, Value.int IntKind.u8 115, Value.int IntKind.u8 32, Value.int IntKind.u8 111, Value.int IntKind.u8 118, Value.int IntKind.u8 101, Value.int IntKind.u8 114, Value.int IntKind.u8 32, Value.int IntKind.u8 116, Value.int IntKind.u8 104, Value.int IntKind.u8 101, Value.int IntKind.u8 32, Value.int IntKind.u8 108, Value.int IntKind.u8 97, Value.int IntKind.u8 122, Value.int IntKind.u8 121, Value.int IntKind.u8 32, Value.int IntKind.u8 100, Value.int IntKind.u8 111, Value.int IntKind.u8 103] 43 43
  rw [show (w.alloc (.cells #[Value.int IntKind.u8 107, Value.int IntKind.u8 101, Value.int IntKind.u8 121] 5 (3, 4))).heap.size = w.heap.size + 1 from by simp] at kc2
  go_wp2_with fail
  rw [show #[Value.int IntKind.u8 107, Value.int IntKind.u8 101, Value.int IntKind.u8 121] = (bvs keyBytes).toArray from rfl, show #[Value.int IntKind.u8 84, Value.int IntKind.u8 104, Value.int IntKind.u8 101, Value.int IntKind.u8 32, Value.int IntKind.u8 113, Value.int IntKind.u8 117, Value.int IntKind.u8 105, Value.int IntKind.u8 99, Value.int IntKind.u8 107, Value.int IntKind.u8 32, Value.int IntKind.u8 98, Value.int IntKind.u8 114, Value.int IntKind.u8 111, Value.int IntKind.u8 119, Value.int IntKind.u8 110, Value.int IntKind.u8 32, Value.int IntKind.u8 102, Value.int IntKind.u8 111, Value.int IntKind.u8 120, Value.int IntKind.u8 32, Value.int IntKind.u8 106, Value.int IntKind.u8 117, Value.int IntKind.u8 109, Value.int IntKind.u8 112, Value.int IntKind.u8 115, Value.int IntKind.u8 32, Value.int IntKind.u8 111, Value.int IntKind.u8 118, Value.int IntKind.u8 101, Value.int IntKind.u8 114, Value.int IntKind.u8 32, Value.int IntKind.u8 116, Value.int IntKind.u8 104, Value.int IntKind.u8 101, Value.int IntKind.u8 32, Value.int IntKind.u8 108, Value.int IntKind.u8 97, Value.int IntKind.u8 122, Value.int IntKind.u8 121, Value.int IntKind.u8 32, Value.int IntKind.u8 100, Value.int IntKind.u8 111, Value.int IntKind.u8 103] = (bvs foxBytes).toArray from rfl]
  clear kc kc2
  have hB0 : Below w.heap.size w ((w.alloc (.cells (bvs keyBytes).toArray 5 (3, 4))).alloc (.cells (bvs foxBytes).toArray 5 (43, 44))) := below_alloc (below_alloc (Below.refl _ _) _) _
  refine (mac_sum_c (some ⟨w.heap.size, 0, none⟩) (some ⟨w.heap.size + 1, 0, none⟩) 3 43 keyBytes foxBytes _ (by decide) (by decide) (rb_of_row (blk_old _ (blk_new _ rfl)) (by decide)) (rb_of_row (blk_new _ (by simp)) (by decide)) (HT.out.below hB0)).mono ?_
  rintro e w1 ⟨rfl, hb1⟩
  have hB1 : Below w.heap.size w w1 := hB0.trans (hb1.mono (by simp; omega))
  have hl := Sen.hmac_length keyBytes foxBytes
  obtain ⟨r, hr⟩ := hmac_fox'
  obtain ⟨M, hM⟩ : ∃ M, M = Sen.hmac keyBytes foxBytes := ⟨_, rfl⟩
  rw [← hM] at hl hr ⊢
  have HSL := Lib.hid (show (bvs M).length = 32 by rw [bvs_length, hl])
  have hX : (w1.alloc (.cells (bvs M).toArray 24)).heap[w1.heap.size]? = some (.cells (bvs M).toArray 24 (0, 0)) := blk_new _ rfl
  have hc := fun i => cell_of_row _ w1.heap.size i _ _ _ hX
  have c0 : (w1.alloc (.cells (bvs M).toArray 24)).cell? ⟨w1.heap.size, 0, none⟩ = some (.int .u8 247) := (hc 0).trans (by rw [hr]; rfl)
  have c1 : (w1.alloc (.cells (bvs M).toArray 24)).cell? ⟨w1.heap.size, 1, none⟩ = some (.int .u8 188) := (hc 1).trans (by rw [hr]; rfl)
  have c2 : (w1.alloc (.cells (bvs M).toArray 24)).cell? ⟨w1.heap.size, 2, none⟩ = some (.int .u8 131) := (hc 2).trans (by rw [hr]; rfl)
  have c3 : (w1.alloc (.cells (bvs M).toArray 24)).cell? ⟨w1.heap.size, 3, none⟩ = some (.int .u8 244) := (hc 3).trans (by rw [hr]; rfl)
  have HB1 := Lib.hid hB1
  obtain ⟨X, hXX⟩ : ∃ X, X = w1.alloc (.cells (bvs M).toArray 24) := ⟨_, rfl⟩
  have hBX : Below w.heap.size w X := by rw [hXX]; exact below_alloc hB1 _
  rw [← hXX] at c0 c1 c2 c3
  have HBX := Lib.hid hBX; have HXX := Lib.hid hXX
  clear hX hc hb1 hB0 hB1 hM hl hr hXX hBX
  go_wp2_with (with_reducible refine wpList_store_any rfl 24 _ _ rfl _ (bvs M) rfl rfl 24 _ (blk_new _ rfl) 32 (by kernel_rfl) HSL.out (by kernel_rfl) (bvs_one _) ?_ rfl; rw [setRow_alloc, ← HXX.out])
  refine (msame_c _ _ 1 1 [1] [1] _ (rb_of_row (blk_old _ (blk_new _ rfl)) (by decide)) (rb_of_row (blk_new _ (by simp)) (by decide))).mono ?_
  rintro e w2 ⟨rfl, rfl⟩
  rw [show decide (([1] : List UInt8) = [1]) = true from rfl]
  go_wp2_with fail
  refine (msame_c _ _ 1 1 [1] [2] _ (rb_of_row (blk_old _ (blk_new _ (by simp))) (by decide)) (rb_of_row (blk_new _ (by simp)) (by decide))).mono ?_
  rintro e w2 ⟨rfl, rfl⟩
  rw [show decide (([1] : List UInt8) = [2]) = false from rfl]
  go_wp2_with fail
  go_ret
  exact ⟨rfl, below_alloc (below_alloc (below_alloc (below_alloc HBX.out _) _) _) _⟩
end Go.Proofs.YtoophccelcbbfaaDoor
