/-
  A copy of one's own: base.Bytes.
-/
import Derived.Test.YteplaginenhfkaaDoorOwn
set_option linter.unusedVariables false
set_option linter.unusedSimpArgs false
namespace Go.Proofs.YteplaginenhfkaaDoor
open Go.RowKit

theorem bytes_c (A : Option Addr) (c : Nat) (l : List UInt8) (w : World) (hl : l.length ≤ 140737488350000) (hR : RB w A l) :
    Calls Tryd.prog 12 #[.slice A l.length c] w (OwnPost w l) := by
  have hR1 := hR.below (below_alloc (Below.refl _ _) (.cells #[] 5))
  have HR1 := Lib.hid hR1
  clear hR hR1
  go_enter Tryd.func12, Tryd.ntmps12
  go_wp2_with (at_builtin; refine app_bytes _ _ w.heap.size [] l rfl rfl _ _ _ _ rfl rfl rfl (Own.new _ _ (Nat.le_refl _)) HR1.out (by simp) (by simp; omega) ?_; intro v1 w1 ho1 hb1)
  go_ret
  exact ⟨_, rfl, by simpa using ho1, (below_alloc (Below.refl _ _) _).trans hb1⟩
end Go.Proofs.YteplaginenhfkaaDoor
