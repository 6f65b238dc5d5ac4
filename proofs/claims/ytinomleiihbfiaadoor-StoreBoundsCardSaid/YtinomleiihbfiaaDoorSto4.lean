/-
  store: the walks of wire.Int, wire.ReadInt; append onto what is full; sealed.
-/
import Derived.Test.YtinomleiihbfiaaDoorSto1
import Derived.Test.YtinomleiihbfiaaDoorMac3
import Derived.Deep.AppendSrc
import Derived.Lib.AppendZeros
set_option linter.unusedVariables false
set_option linter.unusedSimpArgs false
namespace Go.Proofs.YtinomleiihbfiaaDoor
open Go.RowKit

def IntPost (w : World) (l : List UInt8) (e : Ending) (w' : World) : Prop := ∃ A, e = .returned (.slice A 8 8) ∧ RB w' A l ∧ Below w.heap.size w w'
theorem zero8b (w : World) : (zeroValue 60).run Tryd.prog w = .ok (.agg (bvs (List.replicate 8 0)).toArray) w := by kernel_rfl
set_option maxRecDepth 100000 in
set_option maxHeartbeats 1000000 in
theorem int_c (n : Nat) (hn : n < 9223372036854775808) (w : World) : Calls Tryd.prog 26 #[.int .i64 (n : Int)] w (IntPost w (Sen.be64 n)) := by
  have hz := zero8b
  rw [show (bvs (List.replicate 8 0)).toArray = #[.int .u8 0, .int .u8 0, .int .u8 0, .int .u8 0, .int .u8 0, .int .u8 0, .int .u8 0, .int .u8 0] from rfl] at hz
  go_enter Tryd.func26, Tryd.ntmps26
  go_wp2
  have hG : (w.alloc (.cells #[.int .u8 0, .int .u8 0, .int .u8 0, .int .u8 0, .int .u8 0, .int .u8 0, .int .u8 0, .int .u8 0] 60)).heap[w.heap.size]? = some (.cells #[.int .u8 0, .int .u8 0, .int .u8 0, .int .u8 0, .int .u8 0, .int .u8 0, .int .u8 0, .int .u8 0] 60 (0, 0)) := blk_new _ rfl
  obtain ⟨X, hX⟩ : ∃ X, X = w.alloc (.cells #[.int .u8 0, .int .u8 0, .int .u8 0, .int .u8 0, .int .u8 0, .int .u8 0, .int .u8 0, .int .u8 0] 60) := ⟨_, rfl⟩
  have hB : Below w.heap.size w X := by rw [hX]; exact below_alloc (Below.refl _ _) _
  rw [← hX] at hG ⊢
  have G := Lib.hid hG; have HB := Lib.hid hB
  rw [← row_same hG]
  clear hX hG hB hz
  have hset := fun cs i v => row_set G.out cs i v
  have hcell := fun cs j => row_cell G.out cs j
  have hfro := fun cs j => row_frozen G.out cs j
  refine wp_loop_rounds 9 ?_
  iterate 9 (rw [rounds_succ]; go_wp2)
  go_ret
  refine ⟨_, rfl, ?_, below_setRow HB.out (Nat.le_refl _) _⟩
  refine rb_of_row (t := 60) (fr := (0, 0)) (l := Sen.be64 n) ((setRow_heap X _ _ _ _ _ G.out).trans ?_) (by simp [Sen.be64])
  congr 2
  simp [bvs, bv, Sen.be64, UInt8.toNat_ofNat']
  omega
/-! ### ReadInt -/
theorem or_low (x c : Nat) (hx : x < 36028797018963968) (hc : c < 256) : bits .or .i64 ((x : Int) * 256) (c : Int) = ((x * 256 + c : Nat) : Int) := by
  show IntKind.i64.wrap ((BitVec.ofInt 64 ((x : Int) * 256) ||| BitVec.ofInt 64 (c : Int)).toNat : Int) = _
  rw [show (x : Int) * 256 = ((x * 256 : Nat) : Int) by omega, BitVec.toNat_or, ofInt_nat 64 _ (by omega), ofInt_nat 64 c (by omega)]
  have h2 := Nat.two_pow_add_eq_or_of_lt (i := 8) (b := c) (by omega) x
  rw [show x * 256 ||| c = x * 256 + c by rw [Nat.mul_comm x 256]; exact h2.symm]
  exact IntWalk.i64_in _ (by omega)
theorem wrap_sgn (n : Nat) (h : n < 18446744073709551616) : IntKind.i64.wrap (n : Int) = Sen.sgn n := by
  rw [IntKind.wrap_i64]
  unfold Sen.sgn
  split <;> omega
theorem or_high (x c : Nat) (hx : x < 72057594037927936) (hc : c < 256) : bits .or .i64 (wrap64 ((x : Int) * 256)) (c : Int) = Sen.sgn (x * 256 + c) := by
  show IntKind.i64.wrap ((BitVec.ofInt 64 (wrap64 ((x : Int) * 256)) ||| BitVec.ofInt 64 (c : Int)).toNat : Int) = _
  have e : (BitVec.ofInt 64 (wrap64 ((x : Int) * 256))).toNat = x * 256 := by
    rw [BitVec.toNat_ofInt]
    unfold wrap64
    omega
  rw [BitVec.toNat_or, e, ofInt_nat 64 c (by omega)]
  have h2 := Nat.two_pow_add_eq_or_of_lt (i := 8) (b := c) (by omega) x
  rw [show x * 256 ||| c = x * 256 + c by rw [Nat.mul_comm x 256]; exact h2.symm]
  exact wrap_sgn _ (by omega)
set_option maxRecDepth 100000 in
set_option maxHeartbeats 1000000 in
theorem readint_c (A : Option Addr) (c : Nat) (b : List UInt8) (hb : b.length = 8) (w : World) (hR : RB w A b) :
    Calls Tryd.prog 30 #[.slice A 8 c] w fun e w' => e = .returned (.tuple #[.int .i64 (Sen.rd8 b), .int .i64 0]) ∧ w = w' := by
  have HB := Lib.hid hb; have HR := Lib.hid hR
  clear hb hR
  go_enter Tryd.func30, Tryd.ntmps30
  go_wp2
  go_loop [4, 12] (fun vn vi => ∃ k : Nat, k ≤ 8 ∧ vi = .int .i64 k ∧ vn = .int .i64 (Sen.sgn (Sen.val b k))) (fun _ i => 8 - (intOf i).toNat)
  case atStart => exact ⟨0, by omega, rfl, rfl⟩
  case round =>
    obtain ⟨k, hk, rfl, rfl⟩ := hrel
    by_cases hlt : k < 8
    · have t0 : decide ((k : Int) < 8) = true := by simp; omega
      have k0 : (k : Int) < 8 := by omega
      obtain ⟨bb, off, rfl, _, hcl⟩ := HR.out.addr (by rw [HB.out]; decide)
      obtain ⟨y, hy, ey⟩ : ∃ y : Nat, y < 256 ∧ y = (b.getD k 0).toNat := ⟨_, UInt8.toNat_lt _, rfl⟩
      have hc := hcl k (by rw [HB.out]; exact hlt)
      rw [← ey] at hc
      have hv := Sen.val_lt b k
      have hp : 256 ^ k ≤ 256 ^ 7 := Nat.pow_le_pow_right (by decide) (by omega)
      have h7 : 256 ^ 7 = 72057594037927936 := by decide
      have hx : Sen.val b k < 72057594037927936 := by omega
      have hs : Sen.sgn (Sen.val b k) = ((Sen.val b k : Nat) : Int) := by unfold Sen.sgn; rw [if_pos (by omega)]
      have hnx : Sen.val b (k + 1) = Sen.val b k * 256 + y := by rw [ey]; rfl
      obtain ⟨x, hxx⟩ : ∃ x, x = Sen.val b k := ⟨_, rfl⟩
      rw [← hxx] at hx hnx hs
      rw [← hxx, hs]
      have HNX := Lib.hid hnx
      have OH := Lib.hid (or_high x y hx hy)
      have hx7 : k < 7 → x < 281474976710656 := fun h => by
        have h6 : 256 ^ k ≤ 256 ^ 6 := Nat.pow_le_pow_right (by decide) (by omega)
        have h66 : 256 ^ 6 = 281474976710656 := by decide
        rw [hxx]; omega
      have HX7 := Lib.hid hx7
      clear hs hnx hxx hv hp h7 hcl ey hx7
      by_cases hk7 : x < 36028797018963968
      · have OL := Lib.hid (or_low x y hk7 hy)
        go_wp2
        go_round
        case rel =>
          refine ⟨k + 1, by omega, by go_num, ?_⟩
          rw [HNX.out]
          refine congrArg (Value.int .i64) ?_
          rw [OL.out]
          unfold Sen.sgn
          rw [if_pos (by omega)]
        case measure => simp [intOf]; omega
      · go_wp2
        go_round
        case rel =>
          refine ⟨k + 1, by omega, by go_num, ?_⟩
          rw [HNX.out]
          exact congrArg (Value.int .i64) OH.out
        case measure => simp [intOf]; omega
    · obtain rfl : k = 8 := by omega
      have t0 : decide (((8 : Nat) : Int) < 8) = false := by decide
      go_wp2
      go_ret2
      exact ⟨rfl, rfl⟩
end Go.Proofs.YtinomleiihbfiaaDoor
