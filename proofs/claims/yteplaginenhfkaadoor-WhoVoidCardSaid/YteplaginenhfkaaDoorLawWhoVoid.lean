/-
  The walk of the statement WhoVoid.
-/
import Derived.Test.YteplaginenhfkaaDoorWhoC
set_option linter.unusedVariables false
set_option linter.unusedSimpArgs false
namespace Go.Proofs.YteplaginenhfkaaDoor
open Go.RowKit

theorem zeroBook (w : World) : (zeroValue 66).run Tryd.prog w = .ok (.agg #[.map none, .slice none 0 0]) w := by kernel_rfl
theorem NoB.below {P : Value} {w w' : World} (h : NoB P w) (hb : Below w.heap.size w w') : NoB P w' := fun W hW => h W (hb.trans (hW.mono hb.size))
set_option maxRecDepth 100000 in
set_option maxHeartbeats 4000000 in
theorem law_who_void (s : ByteArray) (now : Int) (w : World) (hT : Tab w) :
    Calls Tryd.prog 9 #[.string s, .int .i64 now] w fun e w' => e = .returned (.bool true) ∧ Below w.heap.size w w' := by
  have HW := Lib.hid (works_c19 w hT)
  clear hT
  have hzb := zeroBook
  have hzt := zeroTick
  have hzp := zeroPers
  go_enter Tryd.func9, Tryd.ntmps9
  go_wp2_with fail
  refine HW.out.mono ?_
  rintro e w1 ⟨rfl, hb1⟩
  have B1 := Lib.hid hb1
  clear hb1
  go_wp2_with fail
  obtain ⟨X, hX⟩ : ∃ X, X = w1.alloc (.cells #[.map none, .slice none 0 0] 66) := ⟨_, rfl⟩
  obtain ⟨p, hp⟩ : ∃ p, p = w1.heap.size := ⟨_, rfl⟩
  rw [← hX, ← hp]
  have hbX : Below w1.heap.size w1 X := by rw [hX]; exact below_alloc (Below.refl _ _) _
  have NP := Lib.hid (show NoB (.pointer (some ⟨p, 0, none⟩)) X from noB_zero p X (by rw [hX, hp]; exact (cell_of_row _ _ 0 _ _ _ (blk_new _ rfl)).trans rfl))
  have BX := Lib.hid (B1.out.trans (hbX.mono B1.out.size))
  clear hX hp hbX
  refine (find_v (.pointer none) s _ (noB_nil _)).mono ?_
  rintro e w2 ⟨rfl, hb⟩
  have hb2 : Below X.heap.size X w2 := hb
  have NP := Lib.hid (NP.out.below hb2); have BX := Lib.hid (BX.out.trans (hb2.mono BX.out.size))
  clear hb hb2
  unfold noneV persV
  go_wp2_with fail
  refine (find_v (.pointer (some ⟨p, 0, none⟩)) s _ (NP.out.below (below_alloc (Below.refl _ _) _))).mono ?_
  rintro e w3 ⟨rfl, hb⟩
  have hb2 : Below w2.heap.size w2 w3 := (below_alloc (Below.refl _ _) _).trans (hb.mono (by simp))
  have NP := Lib.hid (NP.out.below hb2); have BX := Lib.hid (BX.out.trans (hb2.mono BX.out.size))
  clear hb hb2
  unfold noneV persV
  go_wp2_with fail
  refine (check_v (.pointer none) s _ (noB_nil _)).mono ?_
  rintro e w4 ⟨rfl, hb⟩
  have hb2 : Below w3.heap.size w3 w4 := (below_alloc (Below.refl _ _) _).trans (hb.mono (by simp))
  have NP := Lib.hid (NP.out.below hb2); have BX := Lib.hid (BX.out.trans (hb2.mono BX.out.size))
  clear hb hb2
  go_wp2_with fail
  refine (grant_v (.pointer (some ⟨p, 0, none⟩)) ByteArray.empty ByteArray.empty none 0 0 0 0 0 0 now _ NP.out).mono ?_
  rintro e w5 ⟨rfl, hb⟩
  have hb2 : Below w4.heap.size w4 w5 := hb
  have NP := Lib.hid (NP.out.below hb2); have BX := Lib.hid (BX.out.trans (hb2.mono BX.out.size))
  clear hb hb2
  unfold zeroT GT.val tkV
  simp only
  go_wp2_with fail
  have hbA : Below w5.heap.size w5 (w5.alloc (.cells #[.string ByteArray.empty, .string ByteArray.empty, .slice none 0 0, .int .i64 0, .int .i64 0, .int .i64 0, .int .i64 0] 39)) := below_alloc (Below.refl _ _) _
  refine (person_c nmC 1 1 1 1 _).mono ?_
  rintro e w6 ⟨g6, rfl, _, _, hb⟩
  have hb2 : Below w5.heap.size w5 w6 := hbA.trans (hb.mono hbA.size)
  have NP := Lib.hid (NP.out.below hb2); have BX := Lib.hid (BX.out.trans (hb2.mono BX.out.size))
  clear hb hb2 hbA
  go_wp2_with fail
  refine (add_v (.pointer none) nmC (some ⟨g6, 0, none⟩) 16 16 1 1 1 _ (noB_nil _)).mono ?_
  rintro e w7 ⟨rfl, hb⟩
  have hb2 : Below w6.heap.size w6 w7 := hb
  have NP := Lib.hid (NP.out.below hb2); have BX := Lib.hid (BX.out.trans (hb2.mono BX.out.size))
  clear hb hb2
  go_wp2_with fail
  refine (person_c nmC 1 1 1 1 _).mono ?_
  rintro e w8 ⟨g8, rfl, _, _, hb⟩
  have NP := Lib.hid (NP.out.below hb); have BX := Lib.hid (BX.out.trans (hb.mono BX.out.size))
  clear hb
  go_wp2_with fail
  refine (add_v (.pointer (some ⟨p, 0, none⟩)) nmC (some ⟨g8, 0, none⟩) 16 16 1 1 1 _ NP.out).mono ?_
  rintro e w9 ⟨rfl, hb⟩
  have hb2 : Below w8.heap.size w8 w9 := hb
  have NP := Lib.hid (NP.out.below hb2); have BX := Lib.hid (BX.out.trans (hb2.mono BX.out.size))
  clear hb hb2
  go_wp2_with fail
  refine (names_v (.pointer none) _ (nobook_nil _)).mono ?_
  rintro e w10 ⟨rfl, rfl⟩
  go_wp2_with fail
  refine (names_v (.pointer (some ⟨p, 0, none⟩)) _ (NP.out _ (Below.refl _ _))).mono ?_
  rintro e w11 ⟨rfl, rfl⟩
  go_wp2
  go_ret
  exact ⟨rfl, BX.out⟩
end Go.Proofs.YteplaginenhfkaaDoor
