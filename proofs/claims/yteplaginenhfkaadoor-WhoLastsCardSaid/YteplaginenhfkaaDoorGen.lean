/-
  Small things: a slice cut at its end; base.Among.
-/
import Derived.Test.YteplaginenhfkaaDoorSha2
import Derived.Lib.SlBytesConst
set_option linter.unusedVariables false
set_option linter.unusedSimpArgs false
namespace Go.Proofs.YteplaginenhfkaaDoor
open Go.RowKit

set_option maxRecDepth 100000 in
theorem run_slice_to (A : Option Addr) (len cap hi : Nat) (h : hi ≤ cap) (W : World) : (Instr.slice 24 (.slice A len cap) none (some (.int .i64 (hi : Int))) none).run Tryd.prog W = .ok (.slice A hi cap) W := by
  have h1 := run_bound .i64 hi cap .sliceAcap h W
  have hsz := run_size 5 1 rfl W
  have e : A.map (fun a => a.add 0) = A := by cases A <;> rfl
  unfold Instr.slice Instr.sliceBounds
  simp only [Sem.run_bind, run_underlying Tryd.underlying24 W, Result.andThen_ok, Sem.run_pure, if_true, h1, hsz, Nat.zero_mul, Nat.sub_zero, e]
  split <;> rfl
def AmongPost (n : Nat) (w : World) (e : Ending) (w' : World) : Prop := ∃ r : Nat, r < n ∧ e = .returned (.int .i64 (r : Int)) ∧ w = w'
theorem among_c (x : Int) (n : Nat) (h1 : 1 ≤ n) (h2 : n ≤ 1099511627776) (w : World) : Calls Tryd.prog 23 #[.int .i64 x, .int .i64 (n : Int)] w (AmongPost n w) := by
  have t0 : decide ((n : Int) < 1) = false := by simp; omega
  go_enter Tryd.func23, Tryd.ntmps23
  go_wp2
  go_ret
  have h0 := wrap_u64_nonneg x
  have hm : (IntKind.u64.wrap x).tmod (n : Int) = IntKind.u64.wrap x % (n : Int) := Int.tmod_eq_emod_of_nonneg h0
  have h3 := Int.emod_nonneg (IntKind.u64.wrap x) (show (n : Int) ≠ 0 by omega)
  have h4 := Int.emod_lt_of_pos (IntKind.u64.wrap x) (show (0 : Int) < n by omega)
  refine ⟨(IntKind.u64.wrap x % (n : Int)).toNat, by omega, congrArg Ending.returned (congrArg (Value.int IntKind.i64) ?_), rfl⟩
  rw [hm, IntWalk.wrap64_in _ (by omega)]
  omega
end Go.Proofs.YteplaginenhfkaaDoor
