/-
  The reference of layer 4: First.
-/
import Derived.Test.YteplaginenhfkaaDoorGen
set_option linter.unusedVariables false
set_option linter.unusedSimpArgs false
namespace Go.Proofs.YteplaginenhfkaaDoor
open Go.RowKit

theorem ref_first_c (w : World) : Calls Tryd.prog 52 #[] w fun e w' => e = .returned (.agg (wvs Sen.H0).toArray) ∧ Below w.heap.size w w' := by
  go_enter Tryd.func52, Tryd.ntmps52
  go_wp2
  exact bodyPost_ret (v := .agg (wvs Sen.H0).toArray) (by simp [results, Tryd.results52, go_sem]; rfl) rfl ⟨rfl, below_alloc (Below.refl _ _) _⟩
end Go.Proofs.YteplaginenhfkaaDoor
