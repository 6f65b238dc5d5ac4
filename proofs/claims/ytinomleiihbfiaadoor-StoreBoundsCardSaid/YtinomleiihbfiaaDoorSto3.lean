/-
  store: errors.Is at what write hands back; number.
-/
import Derived.Test.YtinomleiihbfiaaDoorSto1
import Derived.LaidEql
import Derived.Stop.Asserts
import Derived.RowKitTokens
set_option linter.unusedVariables false
set_option linter.unusedSimpArgs false
namespace Go.Proofs.YtinomleiihbfiaaDoor
open Go.RowKit Go.Extern.Stop Go.Stop Go.Extern

theorem isTypeOf (v : Value) (w : World) : (Extern.ReflectliteType.typeOf #[.iface 29 v]).run Tryd.prog w = .ok (.iface 75 (.agg #[.pointer (some ⟨1, 29, none⟩)])) w := by kernel_rfl
theorem isComparable (w : World) : ((Extern.ReflectliteType.method fun t => do Go.Extern.Rtype.noPackHeld "Comparable" t; (fun a => Value.bool a.comparable) <$> typeInfo t) #[.agg #[.pointer (some ⟨1, 29, none⟩)]]).run Tryd.prog w = .ok (.bool true) w := by kernel_rfl
theorem isNilB (b : Value) (w : World) : Calls Tryd.prog 32 #[.nilIface, .iface 29 (.int .i64 8)] w fun e w' => e = .returned (.bool false) ∧ w = w' := by
  have hn := run_eql_iface_nil_left (P := Tryd.prog) w 29 (.int .i64 8) Tryd.underlying54
  go_enter Tryd.func32, Tryd.ntmps32
  go_wp2
  go_ret
  exact ⟨rfl, rfl⟩
theorem methodComparable (v : Value) (w : World) : (Go.method 228 75 v "Comparable").run Tryd.prog w = .ok (67, v) w := by kernel_rfl
theorem methodIs (v : Value) (w : World) : (Go.method 228 63 v "Is").run Tryd.prog w = .ok (63, v) w := by kernel_rfl
theorem hasIs (v : Value) (xT : TypeId) (w : World) : (Instr.typeAssert (.iface 63 v) xT 77 true).run Tryd.prog w = .ok (.tuple #[.iface 63 v, .bool true]) w := run_typeAssert_hasB Tryd.underlying77 (by kernel_rfl) v xT w
set_option maxRecDepth 100000 in
theorem outage_is (i : Int) (w : World) : Calls Tryd.prog 63 #[.agg #[.int .i64 i], .iface 29 (.int .i64 8)] w fun e w' => e = .returned (.bool true) ∧ w' = w.alloc (.cells #[.int .i64 i] 63) := by
  have hA : ∀ W, (Instr.typeAssert (.iface 29 (.int .i64 8)) 54 29 true).run Tryd.prog W = .ok (.tuple #[.int .i64 8, .bool true]) W := fun W => by kernel_rfl
  go_enter Tryd.func63, Tryd.ntmps63
  go_wp2
  go_ret
  exact ⟨rfl, rfl⟩
set_option maxRecDepth 100000 in
set_option maxHeartbeats 1000000 in
theorem is_outage (i : Int) (w : World) : Calls Tryd.prog 32 #[.iface 63 (.agg #[.int .i64 i]), .iface 29 (.int .i64 8)] w fun e w' => e = .returned (.bool true) ∧ Below w.heap.size w w' := by
  have h8 := @run_callFunc_extern Tryd.prog 35 _ Extern.ReflectliteType.typeOf Tryd.func35 (by kernel_rfl) (by kernel_rfl) (by kernel_rfl) (by kernel_rfl)
  have h32 := @run_callFunc_extern Tryd.prog 67 _ (Extern.ReflectliteType.method fun t => do Go.Extern.Rtype.noPackHeld "Comparable" t; pure (.bool (← typeInfo t).comparable)) Tryd.func67 (by kernel_rfl) (by kernel_rfl) (by kernel_rfl) (by kernel_rfl)
  have tT := isTypeOf
  have cT := isComparable
  have mR := methodComparable
  have mI := methodIs
  have hI := hasIs
  have hty := run_eql_iface_types (P := Tryd.prog) 63 29 (.agg #[.int .i64 i]) (.int .i64 8) Tryd.underlying54 (by decide) w
  go_enter Tryd.func32, Tryd.ntmps32
  go_wp2
  refine wp_loop_rounds 1 ?_
  rw [rounds_succ]
  go_wp2_with (go_at_call 63; refine (outage_is i _).mono ?_; rintro e w' ⟨rfl, rfl⟩)
  go_ret
  exact ⟨rfl, below_alloc (Below.refl _ _) _⟩
theorem number_ok (w : World) : Calls Tryd.prog 27 #[.nilIface] w fun e w' => e = .returned (.int .i64 0) ∧ w = w' := by
  go_enter Tryd.func27, Tryd.ntmps27
  go_wp2_with (go_at_call 32; refine (isNilB (.bool true) _).mono ?_; rintro e w' ⟨rfl, rfl⟩)
  go_ret
  exact ⟨rfl, rfl⟩
theorem number_busy (i : Int) (w : World) : Calls Tryd.prog 27 #[.iface 63 (.agg #[.int .i64 i])] w fun e w' => e = .returned (.int .i64 8) ∧ Below w.heap.size w w' := by
  go_enter Tryd.func27, Tryd.ntmps27
  go_wp2_with (go_at_call 32; refine (is_outage i _).mono ?_; rintro e w1 ⟨rfl, hb1⟩)
  go_ret
  exact ⟨rfl, hb1⟩
end Go.Proofs.YtinomleiihbfiaaDoor
