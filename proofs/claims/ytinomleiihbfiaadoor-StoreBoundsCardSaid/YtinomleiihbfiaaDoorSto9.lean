/-
  store: what a store that no call made answers; the walks of Cut, Power, Image, Writes, Make.
-/
import Derived.Test.YtinomleiihbfiaaDoorSto8
set_option linter.unusedVariables false
set_option linter.unusedSimpArgs false
namespace Go.Proofs.YtinomleiihbfiaaDoor
open Go.RowKit

/-- What a pointer to no store is told by: 'is' says no. -/
def NoStore (P : Value) (w : World) : Prop := Calls Tryd.prog 25 #[P] w fun e w' => e = .returned (.bool false) ∧ w = w'
theorem noStore_nil (w : World) : NoStore (.pointer none) w := is_nil_c w
theorem noStore_zero (p : Nat) (w : World) (h : w.cell? ⟨p, 3, none⟩ = some (.int .i64 0)) : NoStore (.pointer (some ⟨p, 0, none⟩)) w := is_zero_c p w h
theorem may_v (P : Value) (n : Int) (w : World) (h : NoStore P w) : Calls Tryd.prog 22 #[P, .int .i64 n] w fun e w' => e = .returned (.int .i64 1) ∧ w = w' := by
  have H := Lib.hid h
  clear h
  go_enter Tryd.func22, Tryd.ntmps22
  go_wp2_with (go_at_call 25; refine H.out.mono ?_; rintro e w' ⟨rfl, rfl⟩)
  go_ret
  exact ⟨rfl, rfl⟩
theorem get_v (P : Value) (n : Int) (w : World) (h : NoStore P w) : Calls Tryd.prog 9 #[P, .int .i64 n] w fun e w' => e = .returned (.tuple #[.slice none 0 0, .int .i64 1]) ∧ w = w' := by
  have H := Lib.hid h
  clear h
  go_enter Tryd.func9, Tryd.ntmps9
  go_wp2_with (go_at_call 22; refine (may_v P n _ H.out).mono ?_; rintro e w' ⟨rfl, rfl⟩)
  go_ret2
  exact ⟨rfl, rfl⟩
theorem newest_v (P : Value) (w : World) (h : NoStore P w) : Calls Tryd.prog 10 #[P] w fun e w' => e = .returned (.tuple #[.int .i64 0, .slice none 0 0, .int .i64 1]) ∧ w = w' := by
  have H := Lib.hid h
  clear h
  go_enter Tryd.func10, Tryd.ntmps10
  go_wp2_with (go_at_call 25; refine H.out.mono ?_; rintro e w' ⟨rfl, rfl⟩)
  go_ret3
  exact ⟨rfl, rfl⟩
theorem put_v (P : Value) (n : Int) (w : World) (h : NoStore P w) : Calls Tryd.prog 11 #[P, .int .i64 n, .slice none 0 0] w fun e w' => e = .returned (.int .i64 1) ∧ w = w' := by
  have H := Lib.hid h
  clear h
  go_enter Tryd.func11, Tryd.ntmps11
  go_wp2_with (go_at_call 22; refine (may_v P n _ H.out).mono ?_; rintro e w' ⟨rfl, rfl⟩)
  go_ret
  exact ⟨rfl, rfl⟩
theorem erase_v (P : Value) (n : Int) (w : World) (h : NoStore P w) : Calls Tryd.prog 12 #[P, .int .i64 n] w fun e w' => e = .returned (.int .i64 1) ∧ w = w' := by
  have H := Lib.hid h
  clear h
  go_enter Tryd.func12, Tryd.ntmps12
  go_wp2_with (go_at_call 9; refine (get_v P n _ H.out).mono ?_; rintro e w' ⟨rfl, rfl⟩)
  go_ret
  exact ⟨rfl, rfl⟩
theorem cut_v (P : Value) (n : Int) (w : World) (h : NoStore P w) : Calls Tryd.prog 13 #[P, .int .i64 n] w fun e w' => e = .returned (.int .i64 1) ∧ w = w' := by
  have H := Lib.hid h
  clear h
  go_enter Tryd.func13, Tryd.ntmps13
  go_wp2_with (go_at_call 25; refine H.out.mono ?_; rintro e w' ⟨rfl, rfl⟩)
  go_ret
  exact ⟨rfl, rfl⟩
theorem power_v (P : Value) (w : World) (h : NoStore P w) : Calls Tryd.prog 14 #[P] w fun e w' => e = .returned (.int .i64 1) ∧ w = w' := by
  have H := Lib.hid h
  clear h
  go_enter Tryd.func14, Tryd.ntmps14
  go_wp2_with (go_at_call 25; refine H.out.mono ?_; rintro e w' ⟨rfl, rfl⟩)
  go_ret
  exact ⟨rfl, rfl⟩
theorem image_v (P : Value) (w : World) (h : NoStore P w) : Calls Tryd.prog 15 #[P] w fun e w' => e = .returned (.slice none 0 0) ∧ w = w' := by
  have H := Lib.hid h
  clear h
  go_enter Tryd.func15, Tryd.ntmps15
  go_wp2_with (go_at_call 25; refine H.out.mono ?_; rintro e w' ⟨rfl, rfl⟩)
  go_ret
  exact ⟨rfl, rfl⟩
theorem writes_v (P : Value) (w : World) (h : NoStore P w) : Calls Tryd.prog 16 #[P] w fun e w' => e = .returned (.int .i64 0) ∧ w = w' := by
  have H := Lib.hid h
  clear h
  go_enter Tryd.func16, Tryd.ntmps16
  go_wp2_with (go_at_call 25; refine H.out.mono ?_; rintro e w' ⟨rfl, rfl⟩)
  go_ret
  exact ⟨rfl, rfl⟩
theorem room_v (P : Value) (w : World) (h : NoStore P w) : Calls Tryd.prog 17 #[P] w fun e w' => e = .returned (.int .i64 0) ∧ w = w' := by
  have H := Lib.hid h
  clear h
  go_enter Tryd.func17, Tryd.ntmps17
  go_wp2_with (go_at_call 25; refine H.out.mono ?_; rintro e w' ⟨rfl, rfl⟩)
  go_ret
  exact ⟨rfl, rfl⟩

/-! ### Of a store that is one -/
theorem StA.withRow {w : World} {p g : Nat} {s s' : Sen.Sto} (h : StA w p g s) (hi : s'.img = s.img) (hs : s'.size = s.size) (hok : s'.Ok) : StA (w.setRow p (rowS s' g).toArray) p g s' :=
  ⟨setRow_heap _ _ _ _ _ _ h.row, (setRow_other _ _ _ _ (Ne.symm h.ne)).trans (by rw [hi]; exact h.img), h.ne, hok⟩
theorem cut_c (p g : Nat) (s : Sen.Sto) (n : Nat) (hn : n ≤ 1000000) (w : World) (h : StA w p g s) :
    Calls Tryd.prog 13 #[.pointer (some ⟨p, 0, none⟩), .int .i64 (n : Int)] w (PutPost w p g ({ s with left := n }, 0)) := by
  have H := Lib.hid h
  have hres := Lib.hid (show StA (w.setRow p (rowS { s with left := (n : Int) } g).toArray) p g { s with left := (n : Int) } from h.withRow rfl rfl ⟨h.ok.lo, h.ok.hi, h.ok.len, by show (-1 : Int) ≤ n; omega, by show (n : Int) ≤ _; omega⟩)
  rw [← row_same h.row]
  have hset := fun cs i v => row_set H.out.row cs i v
  have hcell := fun cs j => row_cell H.out.row cs j
  have hfro := fun cs j => row_frozen H.out.row cs j
  have hsame := Lib.hid (row_same h.row)
  obtain ⟨l, wn, gn, sz, im⟩ := s
  unfold rowS at *
  clear h
  go_enter Tryd.func13, Tryd.ntmps13
  go_wp2_with (go_at_call 25; refine (is_c p g _ _ (by rw [hsame.out]; exact H.out)).mono ?_; rintro e w' ⟨rfl, rfl⟩)
  go_ret
  exact ⟨rfl, hres.out, by rw [hsame.out]; exact Only.setRow1 p g w _⟩
end Go.Proofs.YtinomleiihbfiaaDoor
