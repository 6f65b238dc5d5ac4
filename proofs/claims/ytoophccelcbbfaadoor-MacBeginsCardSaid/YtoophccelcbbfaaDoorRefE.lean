/-
  The reference of layer 4: Prefix.
-/
import Derived.Test.YtoophccelcbbfaaDoorRefD
set_option linter.unusedVariables false
set_option linter.unusedSimpArgs false
namespace Go.Proofs.YtoophccelcbbfaaDoor
open Go.RowKit

theorem Sen.val_digit (l : List UInt8) (k : Nat) : ∀ j, j < k → Sen.val l k / 256 ^ (k - 1 - j) % 256 = (l.getD j 0).toNat := by
  induction k with
  | zero => intro j h; omega
  | succ k ih =>
    intro j h
    have hd := (l.getD k 0).toNat_lt
    by_cases e : j = k
    · subst e
      rw [show j + 1 - 1 - j = 0 by omega, Sen.val]
      omega
    · rw [← ih j (by omega), show k + 1 - 1 - j = (k - 1 - j) + 1 by omega, Nat.pow_succ, Nat.mul_comm, ← Nat.div_div_eq_div_mul, Sen.val]
      congr 2
      omega
theorem Sen.val_bit (l : List UInt8) (i : Nat) (hi : i < 64) : (l.getD (i / 8) 0).toNat / 2 ^ (7 - i % 8) % 2 = Sen.val l 8 / 2 ^ (63 - i) % 2 := by
  rw [← Sen.val_digit l 8 (i / 8) (by omega)]
  have e : 63 - i = 8 * (8 - 1 - i / 8) + (7 - i % 8) := by omega
  rw [e, Nat.pow_add, ← Nat.div_div_eq_div_mul, show (2 : Nat) ^ (8 * (8 - 1 - i / 8)) = 256 ^ (8 - 1 - i / 8) by rw [Nat.pow_mul]]
  generalize Sen.val l 8 / 256 ^ (8 - 1 - i / 8) = A
  have hr : 7 - i % 8 ≤ 7 := by omega
  generalize 7 - i % 8 = r at hr ⊢
  obtain rfl | rfl | rfl | rfl | rfl | rfl | rfl | rfl : r = 0 ∨ r = 1 ∨ r = 2 ∨ r = 3 ∨ r = 4 ∨ r = 5 ∨ r = 6 ∨ r = 7 := by omega
  all_goals omega
theorem Sen.val_next (l : List UInt8) (i : Nat) (hi : i < 64) : 2 * (Sen.val l 8 / 2 ^ (64 - i)) + (l.getD (i / 8) 0).toNat / 2 ^ (7 - i % 8) % 2 = Sen.val l 8 / 2 ^ (64 - (i + 1)) := by
  rw [Sen.val_bit l i hi, show 64 - i = (63 - i) + 1 by omega, Nat.pow_succ, ← Nat.div_div_eq_div_mul, show 64 - (i + 1) = 63 - i by omega]
  omega
theorem Sen.val_half (l : List UInt8) (i : Nat) (hi : i < 64) : Sen.val l 8 / 2 ^ (64 - i) < 9223372036854775808 := by
  have h := Sen.val_le l 8 (by decide)
  rw [show 64 - i = 1 + (63 - i) by omega, Nat.pow_add, ← Nat.div_div_eq_div_mul]
  exact Nat.lt_of_le_of_lt (Nat.div_le_self _ _) (by omega)
theorem Sen.beginning_eq (l : List UInt8) (m : Int) : Sen.beginning l m = Sen.val (Sen.sum l) 8 / 2 ^ (64 - (max 0 (min m 64)).toNat) := by
  unfold Sen.beginning
  by_cases h : m < 1
  · rw [if_pos h, show (max 0 (min m 64)).toNat = 0 by omega]
    exact (Nat.div_eq_of_lt (Sen.val_le _ 8 (by decide))).symm
  · rw [if_neg h, show (max 0 (min m 64)).toNat = (min m 64).toNat by omega]

set_option maxHeartbeats 1000000 in
theorem ref_prefix_c (A : Option Addr) (c : Nat) (l : List UInt8) (m : Int) (w : World) (hl : l.length ≤ 1048576) (hR : RB w A l) :
    Calls Tryd.prog 22 #[.slice A l.length c, .int .i64 m] w fun e w' => e = .returned (.int .u64 ((Sen.beginning l m : Nat) : Int)) ∧ Below w.heap.size w w' := by
  have hz := zero24
  have HSL := Lib.hid (show (bvs (Sen.sum l)).length = 32 by rw [bvs_length, Sen.sum_length])
  have HR := Lib.hid hR; have HL := Lib.hid hl
  have HBG := Lib.hid (Sen.beginning_eq l m)
  clear hR hl
  obtain ⟨b, hb⟩ : ∃ b : Nat, (b : Int) = max 0 (min m 64) := ⟨(max 0 (min m 64)).toNat, by omega⟩
  have hb64 : b ≤ 64 := by omega
  have HB := Lib.hid hb
  clear hb
  have hcase : m < 0 ∨ m = 0 ∨ (0 < m ∧ m < 64) ∨ m = 64 ∨ 64 < m := by omega
  rcases hcase with h1 | rfl | ⟨h1, h2⟩ | rfl | h1
  all_goals
    first
    | have HT : Hid (∀ i : Nat, decide ((i : Int) < 0) = decide (i < b)) := Lib.hid (fun i => by have := HB.out; rw [decide_eq_decide]; omega)
    | have HT : Hid (∀ i : Nat, decide ((i : Int) < 64) = decide (i < b)) := Lib.hid (fun i => by have := HB.out; rw [decide_eq_decide]; omega)
    | have HT : Hid (∀ i : Nat, decide ((i : Int) < m) = decide (i < b)) := Lib.hid (fun i => by have := HB.out; rw [decide_eq_decide]; omega)
    go_enter Tryd.func22, Tryd.ntmps22
    go_wp2_with (first | (go_at_call 17; refine (ref_sum_c A c l _ HL.out HR.out).mono ?_; rintro e w1 ⟨rfl, hb1⟩) | (with_reducible refine wpList_store_any rfl 24 _ _ rfl _ (bvs (Sen.sum l)) rfl rfl 24 _ (blk_new _ rfl) 32 (by kernel_rfl) HSL.out (by kernel_rfl) (bvs_one _) ?_ rfl))
    rw [setRow_alloc]
    have hB : Below w.heap.size w (w1.alloc (.cells (bvs (Sen.sum l)).toArray 24)) := below_alloc hb1 _
    have hX : (w1.alloc (.cells (bvs (Sen.sum l)).toArray 24)).heap[w1.heap.size]? = some (.cells (bvs (Sen.sum l)).toArray 24) := blk_new _ rfl
    obtain ⟨X, hXX⟩ : ∃ X, X = w1.alloc (.cells (bvs (Sen.sum l)).toArray 24) := ⟨_, rfl⟩
    rw [← hXX] at hB hX ⊢
    have HX := Lib.hid hX
    clear hXX hX hz
    go_loopw [6, 7] (fun vn vi wx => ∃ i n : Nat, i ≤ b ∧ vi = .int .i64 i ∧ vn = .int .u64 n ∧ Hid (n = Sen.val (Sen.sum l) 8 / 2 ^ (64 - i)) ∧ wx = X) (fun _ i _ => b - (intOf i).toNat)
    case atStart => exact ⟨0, 0, by omega, rfl, rfl, Lib.hid (Nat.div_eq_of_lt (Sen.val_le _ 8 (by decide))).symm, rfl⟩
    case round =>
      obtain ⟨i, n, hi, rfl, rfl, hn, rfl⟩ := hrel
      by_cases hlt : i < b
      · have d1 := HT.out i
        rw [decide_eq_true hlt] at d1
        have hnb : n < 9223372036854775808 := by rw [hn.out]; exact Sen.val_half _ _ (by omega)
        have q1 : (i : Int) / 8 < 32 := by omega
        have q2 : 0 ≤ (i : Int) / 8 := by omega
        have q3 : ((i : Int) / 8).toNat = i / 8 := by omega
        obtain ⟨y, hy, ey, cy⟩ := getD_at (Sen.sum l) (i / 8) (by rw [Sen.sum_length]; omega)
        have hc : wr.cell? ⟨w1.heap.size, i / 8, none⟩ = some (.int .u8 (y : Int)) := (cell_of_row wr _ _ _ _ _ HX.out).trans (by simpa using cy)
        have EY := Lib.hid ey
        clear ey cy
        go_wp2
        go_loopw [8, 9] (fun vx vk wx => ∃ k x : Nat, k ≤ 7 - i % 8 ∧ vk = .int .i64 k ∧ vx = .int .u8 x ∧ Hid (x = y / 2 ^ k) ∧ x < 256 ∧ wx = wr) (fun _ k _ => 8 - (intOf k).toNat)
        case atStart => exact ⟨0, y, by omega, rfl, rfl, Lib.hid (by simp), hy, rfl⟩
        case round =>
          obtain ⟨k, x, hk, rfl, rfl, hx, hxb, rfl⟩ := hrel
          by_cases hk7 : k < 7 - i % 8
          · have d2 : decide ((k : Int) < 7 - (i : Int) % 8) = true := by simp; omega
            go_wp2
            exact ⟨⟨k + 1, x / 2, by omega, by go_num, congrArg (Value.int .u8) (by omega), Lib.hid (by rw [hx.out, Nat.div_div_eq_div_mul, Nat.pow_succ]), by omega, by trivial⟩, by simp [intOf]; omega⟩
          · obtain rfl : k = 7 - i % 8 := by omega
            have d2 : decide (((7 - i % 8 : Nat) : Int) < 7 - (i : Int) % 8) = false := by simp; omega
            have NX := Lib.hid (show 2 * n + x % 2 = Sen.val (Sen.sum l) 8 / 2 ^ (64 - (i + 1)) by rw [← Sen.val_next _ _ (by omega), hn.out, hx.out, EY.out])
            go_wp2
            exact ⟨⟨i + 1, 2 * n + x % 2, by omega, by go_num, congrArg (Value.int .u64) (by omega), NX, by trivial⟩, by simp [intOf]; omega⟩
      · have d1 := HT.out i
        rw [decide_eq_false hlt] at d1
        obtain rfl : i = b := by omega
        have NX := Lib.hid (show Sen.beginning l _ = n by rw [HBG.out, hn.out, ← HB.out, Int.toNat_natCast])
        go_wp2
        go_ret
        rw [NX.out]
        exact ⟨rfl, hB⟩
end Go.Proofs.YtoophccelcbbfaaDoor
