/-
  More arguments of the rows: strings.
-/
import Derived.Test.YteplaginenhfkaaDoorLift
import Derived.ChangeMaps5
import Derived.Lib.Strings
set_option linter.unusedVariables false
set_option linter.unusedSimpArgs false
namespace Go.Proofs.YteplaginenhfkaaDoor
open Go.ChangeShapes Go.WideShapes Go.ChangeAt Go.RowKit
section
variable {H : Type} {enc : TypeId × Value → H}

theorem wf_u8 {z : Int} (h : (Lit.int .u8 z).wf = true) : ∃ u : UInt8, z = ((u.toNat : Nat) : Int) := by
  simp only [Lit.wf, Bool.and_eq_true, decide_eq_true_eq] at h
  obtain ⟨a, b⟩ := h
  simp [IntKind.min, IntKind.max, IntKind.signed, IntKind.bits] at a b
  refine ⟨UInt8.ofNat z.toNat, ?_⟩
  rw [UInt8.toNat_ofNat', Nat.mod_eq_of_lt (by omega)]
  omega
theorem wf_i64 {z : Int} (h : (Lit.int .i64 z).wf = true) : -9223372036854775808 ≤ z ∧ z ≤ 9223372036854775807 := by
  simp only [Lit.wf, Bool.and_eq_true, decide_eq_true_eq] at h
  obtain ⟨a, b⟩ := h
  simp [IntKind.min, IntKind.max, IntKind.signed, IntKind.bits] at a b
  exact ⟨a, by omega⟩
theorem open_str {W : World} {base : Nat} {v : Value} {d : DataW H} {ps : List MemPlace} {ts : List TypeId} {ds : List (DataW H)} {j : Nat}
    (hsz : (DataW.weightsEach Tryd.prog ts ds).all (· ≤ reachBytes) = true) (ht : ts[j]? = some 9) (hd : ds[j]? = some d)
    (hval : Value.okWide Tryd.prog W .any base 9 v) (h : DataW.Trod enc Tryd.prog W 0 (fun _ => true) true 9 v d ps) :
    ∃ s : ByteArray, v = .string s ∧ s.size ≤ 140737488351232 := by
  obtain ⟨s, rfl, rfl, _, _⟩ := Go.ChangeMaps.open_string Tryd.underlying9 hval h
  have := sized_string hsz ht hd
  rw [show reachBytes = 140737488351232 by decide, ← Lib.size_eq] at this
  exact ⟨s, rfl, this⟩
end
end Go.Proofs.YteplaginenhfkaaDoor
