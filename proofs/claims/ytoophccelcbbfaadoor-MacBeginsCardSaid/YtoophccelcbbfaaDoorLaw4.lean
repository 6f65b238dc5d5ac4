/-
  The helpers of the statements of layer 4: short, Among, Bytes, SameBytes, First, works.
-/
import Derived.Test.YtoophccelcbbfaaDoorSha2
import Derived.Lib.SlBytesConst
set_option linter.unusedVariables false
set_option linter.unusedSimpArgs false
namespace Go.Proofs.YtoophccelcbbfaaDoor
open Go.RowKit

theorem run_slice_to (A : Option Addr) (len cap hi : Nat) (h : hi ≤ cap) (W : World) : (Instr.slice 22 (.slice A len cap) none (some (.int .i64 (hi : Int))) none).run Tryd.prog W = .ok (.slice A hi cap) W := by
  have h1 := run_bound .i64 hi cap .sliceAcap h W
  have hsz := run_size 5 1 rfl W
  have e : A.map (fun a => a.add 0) = A := by cases A <;> rfl
  unfold Instr.slice Instr.sliceBounds
  simp only [Sem.run_bind, run_underlying Tryd.underlying22 W, Result.andThen_ok, Sem.run_pure, if_true, h1, hsz, Nat.zero_mul, Nat.sub_zero, e]
  split <;> rfl
theorem short4_c (A : Option Addr) (c : Nat) (l : List UInt8) (w : World) (hc : l.length ≤ c) (hl : l.length ≤ 140737488351232) :
    Calls Tryd.prog 14 #[.slice A l.length c] w fun e w' => e = .returned (.slice A (l.take 300).length c) ∧ w = w' := by
  obtain ⟨n, hn⟩ : ∃ n, n = l.length := ⟨_, rfl⟩
  have e : (l.take 300).length = min 300 n := by rw [List.length_take, hn]
  rw [e, ← hn]
  rw [← hn] at hc hl
  clear e hn l
  by_cases h : n ≤ 300
  · have hsl := fun W => run_slice_to A n c n hc W
    have hm : (n : Int) ≤ 300 := by omega
    rw [show min 300 n = n by omega]
    go_enter Tryd.func14, Tryd.ntmps14
    go_wp2
    go_ret
    exact ⟨rfl, rfl⟩
  · have hsl := fun W => run_slice_to A n c 300 (by omega) W
    rw [show ((300 : Nat) : Int) = 300 from rfl] at hsl
    have hm : ¬ (n : Int) ≤ 300 := by omega
    have hm2 : (300 : Int) < n := by omega
    rw [show min 300 n = 300 by omega]
    go_enter Tryd.func14, Tryd.ntmps14
    go_wp2
    go_ret
    exact ⟨rfl, rfl⟩
def AmongPost (n : Nat) (w : World) (e : Ending) (w' : World) : Prop := ∃ r : Nat, r < n ∧ e = .returned (.int .i64 (r : Int)) ∧ w = w'
theorem among_c (x : Int) (n : Nat) (h1 : 1 ≤ n) (h2 : n ≤ 1099511627776) (w : World) : Calls Tryd.prog 27 #[.int .i64 x, .int .i64 (n : Int)] w (AmongPost n w) := by
  have t0 : decide ((n : Int) < 1) = false := by simp; omega
  go_enter Tryd.func27, Tryd.ntmps27
  go_wp2
  go_ret
  have h0 := wrap_u64_nonneg x
  have hm : (IntKind.u64.wrap x).tmod (n : Int) = IntKind.u64.wrap x % (n : Int) := Int.tmod_eq_emod_of_nonneg h0
  have h3 := Int.emod_nonneg (IntKind.u64.wrap x) (show (n : Int) ≠ 0 by omega)
  have h4 := Int.emod_lt_of_pos (IntKind.u64.wrap x) (show (0 : Int) < n by omega)
  refine ⟨(IntKind.u64.wrap x % (n : Int)).toNat, by omega, congrArg Ending.returned (congrArg (Value.int IntKind.i64) ?_), rfl⟩
  rw [hm, IntWalk.wrap64_in _ (by omega)]
  omega
theorem ref_first_c (w : World) : Calls Tryd.prog 26 #[] w fun e w' => e = .returned (.agg (wvs Sen.H0).toArray) ∧ Below w.heap.size w w' := by
  go_enter Tryd.func26, Tryd.ntmps26
  go_wp2
  exact bodyPost_ret (v := .agg (wvs Sen.H0).toArray) (by simp [results, Tryd.results26, go_sem]; rfl) rfl ⟨rfl, below_alloc (Below.refl _ _) _⟩
def abcs : List UInt8 := [97, 98, 99]
set_option maxHeartbeats 1000000 in
theorem works4_c (w : World) (hT : Tab w) : Calls Tryd.prog 23 #[] w fun e w' => e = .returned (.bool true) ∧ Below w.heap.size w w' := by
  have kc := fun (w : World) (C : Array Value) (n c : Nat) => Lib.run_convert_bytes_const (P := Tryd.prog) w 22 5 C n c Tryd.underlying22 Tryd.underlying5
  have HT := Lib.hid hT
  have hz := zero24
  clear hT
  go_enter Tryd.func23, Tryd.ntmps23
  go_wp2_with fail
  rw [show #[Value.int IntKind.u8 97, Value.int IntKind.u8 98, Value.int IntKind.u8 99] = (bvs abcs).toArray from rfl]
  refine (sum_c (some ⟨w.heap.size, 0, none⟩) 3 abcs _ (by decide) (rb_of_row (blk_new _ rfl) (by decide)) (HT.out.below (below_alloc (Below.refl _ _) _))).mono ?_
  rintro e w1 ⟨rfl, hb1⟩
  have HSL := Lib.hid (show (bvs (Sen.sum abcs)).length = 32 by rw [bvs_length, Sen.sum_length])
  have hX : ((w1.alloc (.cells (bvs zeros32).toArray 24)).setRow w1.heap.size (bvs (Sen.sum abcs)).toArray).heap[w1.heap.size]? = some (.cells (bvs (Sen.sum abcs)).toArray 24 (0, 0)) := setRow_heap _ _ _ _ _ _ (blk_new _ rfl)
  have hc := fun i => cell_of_row _ w1.heap.size i _ _ _ hX
  have ed : (bvs (Sen.sum abcs)).toArray = (bvs [186, 120, 22, 191, 143, 1, 207, 234, 65, 65, 64, 222, 93, 174, 34, 35, 176, 3, 97, 163, 150, 23, 122, 156, 180, 16, 255, 97, 242, 0, 21, 173]).toArray := congrArg (fun l => (bvs l).toArray) Sen.sum_abc
  have c0 : ((w1.alloc (.cells (bvs zeros32).toArray 24)).setRow w1.heap.size (bvs (Sen.sum abcs)).toArray).cell? ⟨w1.heap.size, 0, none⟩ = some (.int .u8 186) := (hc 0).trans (by rw [ed]; rfl)
  have c1 : ((w1.alloc (.cells (bvs zeros32).toArray 24)).setRow w1.heap.size (bvs (Sen.sum abcs)).toArray).cell? ⟨w1.heap.size, 1, none⟩ = some (.int .u8 120) := (hc 1).trans (by rw [ed]; rfl)
  have c2 : ((w1.alloc (.cells (bvs zeros32).toArray 24)).setRow w1.heap.size (bvs (Sen.sum abcs)).toArray).cell? ⟨w1.heap.size, 2, none⟩ = some (.int .u8 22) := (hc 2).trans (by rw [ed]; rfl)
  have c3 : ((w1.alloc (.cells (bvs zeros32).toArray 24)).setRow w1.heap.size (bvs (Sen.sum abcs)).toArray).cell? ⟨w1.heap.size, 3, none⟩ = some (.int .u8 191) := (hc 3).trans (by rw [ed]; rfl)
  have hB : Below w.heap.size w ((w1.alloc (.cells (bvs zeros32).toArray 24)).setRow w1.heap.size (bvs (Sen.sum abcs)).toArray) := below_setRow (below_alloc ((below_alloc (Below.refl _ _) _).trans (hb1.mono (by simp))) _) (by have := hb1.size; simp at this; omega) _
  clear hX hc ed
  have hp := Sen.beginning_nil
  go_wp2_with (first | (with_reducible refine wpList_store_any rfl 24 _ _ rfl _ (bvs (Sen.sum abcs)) rfl rfl 24 _ (blk_new _ rfl) 32 (by kernel_rfl) HSL.out (by kernel_rfl) (bvs_one _) ?_ rfl) | (go_at_call 21; refine (prefix_c none 0 [] 16 _ (by decide) (by decide) (RB.nil _ _) (HT.out.below hB)).mono ?_; rintro e w3 ⟨rfl, hb3⟩))
  go_ret
  exact ⟨rfl, hB.trans (hb3.mono hB.size)⟩
end Go.Proofs.YtoophccelcbbfaaDoor
