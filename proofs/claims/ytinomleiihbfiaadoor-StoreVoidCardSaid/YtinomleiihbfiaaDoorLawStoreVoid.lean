/-
  The walk of the statement StoreVoid.
-/
import Derived.Test.YtinomleiihbfiaaDoorSto13
set_option linter.unusedVariables false
set_option linter.unusedSimpArgs false
namespace Go.Proofs.YtinomleiihbfiaaDoor
open Go.RowKit

theorem zeroStore (w : World) : (zeroValue 28).run Tryd.prog w = .ok (.agg #[.int .i64 0, .int .i64 0, .bool false, .int .i64 0, .slice none 0 0]) w := by kernel_rfl
set_option maxRecDepth 100000 in
set_option maxHeartbeats 4000000 in
theorem law_void (n : Int) (w : World) (hT : Tab w) : Calls Tryd.prog 3 #[.int .i64 n] w fun e w' => e = .returned (.bool true) ∧ Below w.heap.size w w' := by
  have HW := Lib.hid (works_c w hT)
  have hz := zeroStore
  clear hT
  go_enter Tryd.func3, Tryd.ntmps3
  go_wp2_with fail
  refine HW.out.mono ?_
  rintro e w1 ⟨rfl, hb1⟩
  have HB1 := Lib.hid hb1
  clear hb1
  go_wp2_with fail
  obtain ⟨X, hX⟩ : ∃ X, X = w1.alloc (.cells #[.int .i64 0, .int .i64 0, .bool false, .int .i64 0, .slice none 0 0] 28) := ⟨_, rfl⟩
  have hc3 : X.cell? ⟨w1.heap.size, 3, none⟩ = some (.int .i64 0) := by
    rw [hX, cell_of_row _ w1.heap.size 3 _ _ _ (blk_new _ rfl)]; rfl
  have hBX : Below w.heap.size w X := by rw [hX]; exact below_alloc HB1.out _
  rw [← hX]
  obtain ⟨p, hp⟩ : ∃ p, p = w1.heap.size := ⟨_, rfl⟩
  rw [← hp] at hc3 ⊢
  have NV := Lib.hid (show ∀ P, P = .pointer none ∨ P = .pointer (some ⟨p, 0, none⟩) → NoStore P X from fun P h => by rcases h with rfl | rfl; exact noStore_nil X; exact noStore_zero p X hc3); have HBX := Lib.hid hBX
  clear hX hc3 hBX hp hz
  go_wp2_with (first
    | (go_at_call 9; refine (get_v _ _ _ (NV.out _ (by first | exact Or.inl rfl | exact Or.inr rfl))).mono ?_; rintro e w' ⟨rfl, rfl⟩)
    | (go_at_call 10; refine (newest_v _ _ (NV.out _ (by first | exact Or.inl rfl | exact Or.inr rfl))).mono ?_; rintro e w' ⟨rfl, rfl⟩)
    | (go_at_call 11; refine (put_v _ _ _ (NV.out _ (by first | exact Or.inl rfl | exact Or.inr rfl))).mono ?_; rintro e w' ⟨rfl, rfl⟩)
    | (go_at_call 12; refine (erase_v _ _ _ (NV.out _ (by first | exact Or.inl rfl | exact Or.inr rfl))).mono ?_; rintro e w' ⟨rfl, rfl⟩)
    | (go_at_call 13; refine (cut_v _ _ _ (NV.out _ (by first | exact Or.inl rfl | exact Or.inr rfl))).mono ?_; rintro e w' ⟨rfl, rfl⟩)
    | (go_at_call 14; refine (power_v _ _ (NV.out _ (by first | exact Or.inl rfl | exact Or.inr rfl))).mono ?_; rintro e w' ⟨rfl, rfl⟩)
    | (go_at_call 15; refine (image_v _ _ (NV.out _ (by first | exact Or.inl rfl | exact Or.inr rfl))).mono ?_; rintro e w' ⟨rfl, rfl⟩)
    | (go_at_call 16; refine (writes_v _ _ (NV.out _ (by first | exact Or.inl rfl | exact Or.inr rfl))).mono ?_; rintro e w' ⟨rfl, rfl⟩)
    | (go_at_call 17; refine (room_v _ _ (NV.out _ (by first | exact Or.inl rfl | exact Or.inr rfl))).mono ?_; rintro e w' ⟨rfl, rfl⟩))
  go_ret
  exact ⟨rfl, HBX.out⟩
end Go.Proofs.YtinomleiihbfiaaDoor
