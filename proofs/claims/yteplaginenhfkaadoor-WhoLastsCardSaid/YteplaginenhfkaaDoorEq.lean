/-
  Two arrays of numbers that are one: '==' says so.
-/
import Derived.Test.YteplaginenhfkaaDoorStr
import Derived.ChangeKeysEq
set_option linter.unusedVariables false
set_option linter.unusedSimpArgs false
namespace Go.Proofs.YteplaginenhfkaaDoor
open Go.RowKit

theorem eqItems_same (d : Nat) {e : TypeId} (kk : IntKind) (hp : Tryd.prog.plainKey e = true) (hd : Tryd.prog.underlying e = some (.int kk)) (hc : Tryd.prog.cellsOf e = 1) (xs : Array Value) (w : World) :
    ∀ is : List Nat, (∀ i ∈ is, ∃ z, xs[i]? = some (.int kk z)) → (Op.eqItems (d + 1) e (Tryd.prog.cellsOf e) xs xs is).run Tryd.prog w = .ok true w
  | [], _ => by simp [Op.eqItems]
  | i :: is, h => by
    obtain ⟨z, hz⟩ := h i (by simp)
    have p1 := run_part_plain w hp (xs := xs) (off := i * Tryd.prog.cellsOf e) (v := .int kk z) (by rw [hc, Nat.mul_one]; exact hz)
    have p2 := run_equalIn_int w d e kk kk z z hd
    have ih := eqItems_same d kk hp hd hc xs w is (fun j hj => h j (by simp [hj]))
    simp only [Op.eqItems, Sem.run_bind, p1, p2, Result.andThen_ok, beq_self_eq_true, Bool.not_true, Bool.false_eq_true, if_false]
    exact ih
theorem run_eq_same (d : Nat) {t e : TypeId} (n : Nat) (kk : IntKind) (hu : Tryd.prog.underlying t = some (.array n e)) (hi : (Tryd.prog.info? e).isSome = true) (hp : Tryd.prog.plainKey e = true) (hd : Tryd.prog.underlying e = some (.int kk)) (hc : Tryd.prog.cellsOf e = 1)
    (vs : List Value) (hl : vs.length = n) (hv : ∀ v ∈ vs, ∃ z, v = .int kk z) (w : World) : (Op.equalIn (d + 2) t (.agg vs.toArray) (.agg vs.toArray)).run Tryd.prog w = .ok true w := by
  obtain ⟨i, hi'⟩ := Option.isSome_iff_exists.1 hi
  rw [run_equalIn_array w (d + 1) _ _ hu hi']
  refine eqItems_same d kk hp hd hc _ w _ fun j hj => ?_
  have hj' : j < vs.length := by rw [hl]; exact List.mem_range.1 hj
  obtain ⟨z, hz⟩ := hv vs[j] (List.getElem_mem hj')
  exact ⟨z, by simp [hj', hz]⟩
theorem bvs_int (l : List UInt8) : ∀ v ∈ bvs l, ∃ z, v = .int .u8 z := fun v hv => by
  simp only [bvs, List.mem_map] at hv
  obtain ⟨x, _, rfl⟩ := hv
  exact ⟨_, rfl⟩
theorem wvs_int (l : List Nat) : ∀ v ∈ wvs l, ∃ z, v = .int .u32 z := fun v hv => by
  simp only [wvs, List.mem_map] at hv
  obtain ⟨x, _, rfl⟩ := hv
  exact ⟨_, rfl⟩
theorem eq_sum (l : List UInt8) (hl : l.length = 32) (w : World) : (Op.equalIn 10000 75 (.agg (bvs l).toArray) (.agg (bvs l).toArray)).run Tryd.prog w = .ok true w :=
  run_eq_same 9998 32 .u8 Tryd.underlying75 (by kernel_rfl) (by kernel_rfl) Tryd.underlying5 (by kernel_rfl) _ (by rw [bvs_length, hl]) (bvs_int l) w
theorem eq_state (l : List Nat) (hl : l.length = 8) (w : World) : (Op.equalIn 10000 94 (.agg (wvs l).toArray) (.agg (wvs l).toArray)).run Tryd.prog w = .ok true w :=
  run_eq_same 9998 8 .u32 Tryd.underlying94 (by kernel_rfl) (by kernel_rfl) Tryd.underlying87 (by kernel_rfl) _ (by rw [wvs_length, hl]) (wvs_int l) w
end Go.Proofs.YteplaginenhfkaaDoor
