/-
  store: the walks of Power, Image, Writes, Make.
-/
import Derived.Test.YtinomleiihbfiaaDoorSto9
set_option linter.unusedVariables false
set_option linter.unusedSimpArgs false
namespace Go.Proofs.YtinomleiihbfiaaDoor
open Go.RowKit

def powS (s : Sen.Sto) : Sen.Sto := { s with left := -1, gone := false }
theorem power_c (p g : Nat) (s : Sen.Sto) (w : World) (h : StA w p g s) :
    Calls Tryd.prog 14 #[.pointer (some ⟨p, 0, none⟩)] w (PutPost w p g (powS s, 0)) := by
  have H := Lib.hid h
  have hres := Lib.hid (show StA (w.setRow p (rowS (powS s) g).toArray) p g (powS s) from h.withRow rfl rfl ⟨h.ok.lo, h.ok.hi, h.ok.len, by show (-1 : Int) ≤ -1; omega, by show (-1 : Int) ≤ _; omega⟩)
  rw [← row_same h.row]
  have hset := fun cs i v => row_set H.out.row cs i v
  have hcell := fun cs j => row_cell H.out.row cs j
  have hfro := fun cs j => row_frozen H.out.row cs j
  have hsame := Lib.hid (row_same h.row)
  obtain ⟨l, wn, gn, sz, im⟩ := s
  unfold powS at *
  unfold rowS at *
  clear h
  go_enter Tryd.func14, Tryd.ntmps14
  go_wp2_with (go_at_call 25; refine (is_c p g _ _ (by rw [hsame.out]; exact H.out)).mono ?_; rintro e w' ⟨rfl, rfl⟩)
  go_ret
  exact ⟨rfl, hres.out, by rw [hsame.out]; exact Only.setRow1 p g w _⟩
theorem writes_c (p g : Nat) (s : Sen.Sto) (w : World) (h : StA w p g s) :
    Calls Tryd.prog 16 #[.pointer (some ⟨p, 0, none⟩)] w fun e w' => e = .returned (.int .i64 ((s.written : Nat) : Int)) ∧ w = w' := by
  have H := Lib.hid h
  obtain ⟨_, c1, _, _, _⟩ := h.cells
  clear h
  go_enter Tryd.func16, Tryd.ntmps16
  go_wp2_with (go_at_call 25; refine (is_c p g s _ H.out).mono ?_; rintro e w' ⟨rfl, rfl⟩)
  go_ret
  exact ⟨rfl, rfl⟩
set_option maxRecDepth 100000 in
theorem image_c (p g : Nat) (s : Sen.Sto) (w : World) (h : StA w p g s) :
    Calls Tryd.prog 15 #[.pointer (some ⟨p, 0, none⟩)] w (SealPost w s.img) := by
  have H := Lib.hid h
  obtain ⟨_, _, _, _, c4⟩ := h.cells
  have hlo := h.ok.lo
  have hhi := h.ok.hi
  have hlen := h.ok.len
  have hR := h.bytes 0 (2 * s.size) (by omega)
  rw [List.drop_zero, List.take_of_length_le (by omega)] at hR
  have HR := Lib.hid hR
  have HL := Lib.hid hlen.symm
  obtain ⟨S, hS⟩ : ∃ S, S = 2 * s.size := ⟨_, rfl⟩
  rw [← hS] at c4 HL
  have hSb : S ≤ 8192 := by omega
  obtain ⟨I, hI⟩ : ∃ I, I = s.img := ⟨_, rfl⟩
  rw [← hI] at HR HL ⊢
  clear h hR hlen hlo hhi
  have c5 : ∀ o, (w.alloc o).cell? ⟨p, 4, none⟩ = some (.slice (some ⟨g, 0, none⟩) S S) := fun o => by
    rw [hS]
    exact (H.out.below (below_alloc (Below.refl _ _) o)).cells.2.2.2.2
  clear hS hI
  go_enter Tryd.func15, Tryd.ntmps15
  go_wp2_with (first | (go_at_call 25; refine (is_c p g s _ H.out).mono ?_; rintro e w' ⟨rfl, rfl⟩) |
    (at_builtin; refine app_bytes (.tmp 6) (.tmp 10) w.heap.size [] I rfl rfl (.slice (some ⟨w.heap.size, 0, none⟩) 0 0) _ _ _ rfl rfl HL.out (Own.new _ _ (Nat.le_refl _)) (HR.out.below (below_alloc (Below.refl _ _) _)) (by simp) (by rw [← HL.out]; simp; omega) ?_; intro v2 w2 ho2 hb2; have HO2 := Lib.hid ho2; have HB2 := Lib.hid ((below_alloc (Below.refl _ _) _).trans hb2); clear ho2 hb2))
  have ho2 := HO2.out
  rw [List.nil_append] at ho2
  obtain ⟨A2, c2, rfl, hc2, hr2, hge2⟩ := ho2.reads2' (by rw [← HL.out]; omega)
  go_ret
  exact ⟨A2, c2, rfl, hc2, hr2, HB2.out, hge2⟩
/-! ### Make -/
def newS (n : Nat) : Sen.Sto := ⟨-1, 0, false, n, Sen.zeros (2 * n)⟩
theorem newS_ok (n : Nat) (h1 : 64 ≤ n) (h2 : n ≤ 4096) : (newS n).Ok := ⟨h1, h2, by show (List.replicate (2 * n) (0 : UInt8)).length = 2 * n; simp, by show (-1 : Int) ≤ -1; omega, by show (-1 : Int) ≤ _; omega⟩
def MakePost (w : World) (n : Nat) (e : Ending) (w' : World) : Prop :=
  ∃ p g, e = .returned (.tuple #[.pointer (some ⟨p, 0, none⟩), .int .i64 0]) ∧ w.heap.size ≤ p ∧ w.heap.size ≤ g ∧ StA w' p g (newS n) ∧ Below w.heap.size w w'
set_option maxRecDepth 100000 in
theorem make_c (n : Nat) (h1 : 64 ≤ n) (h2 : n ≤ 4096) (w : World) : Calls Tryd.prog 21 #[.int .i64 (n : Int)] w (MakePost w n) := by
  have hmk := fun W => run_make_bytes (2 * n) (by omega) (2 * (n : Int)) (by omega) W
  obtain ⟨Z, hZ⟩ : ∃ Z, Z = (bvs (List.replicate (2 * n) 0)).toArray := ⟨_, rfl⟩
  rw [← hZ] at hmk
  have HZ := Lib.hid hZ
  clear hZ
  go_enter Tryd.func21, Tryd.ntmps21
  go_wp2
  go_ret2
  obtain ⟨X, hX⟩ : ∃ X, X = w.alloc (.cells Z 5) := ⟨_, rfl⟩
  have hXs : X.heap.size = w.heap.size + 1 := by rw [hX]; simp
  have hG : X.heap[w.heap.size]? = some (.cells Z 5 (0, 0)) := by rw [hX]; exact blk_new _ rfl
  have hB : Below w.heap.size w X := by rw [hX]; exact below_alloc (Below.refl _ _) _
  rw [← hX]
  refine ⟨w.heap.size + 1, w.heap.size, rfl, by omega, Nat.le_refl _, ⟨?_, ?_, by omega, newS_ok n h1 h2⟩, below_alloc hB _⟩
  · rw [← hXs]
    exact blk_new _ rfl
  · rw [show (bvs (newS n).img).toArray = Z from HZ.out.symm]
    exact blk_below hG (below_alloc (Below.refl _ _) _) (by omega)
end Go.Proofs.YtinomleiihbfiaaDoor
