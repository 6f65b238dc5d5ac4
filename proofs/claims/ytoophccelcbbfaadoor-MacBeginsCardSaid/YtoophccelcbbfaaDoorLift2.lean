/-
  More arguments of the rows: whole numbers in a slice.
-/
import Derived.Test.YtoophccelcbbfaaDoorLift
import Derived.Test.YtoophccelcbbfaaDoorCut
set_option linter.unusedVariables false
set_option linter.unusedSimpArgs false
namespace Go.Proofs.YtoophccelcbbfaaDoor
open Go.ChangeShapes Go.WideShapes Go.ChangeAt Go.RowKit
section
variable {H : Type} {enc : TypeId × Value → H}

theorem cellsInt : Tryd.prog.cellsOf 3 = 1 := by kernel_rfl
/-- A slice of whole numbers that came in. -/
theorem open_nums {W : World} {base : Nat} {v : Value} {d : DataW H} {ps : List MemPlace} {ts : List TypeId} {ds : List (DataW H)} {j : Nat}
    (hsz : (DataW.weightsEach Tryd.prog ts ds).all (· ≤ reachBytes) = true) (ht : ts[j]? = some 40) (hd : ds[j]? = some d)
    (hval : Value.okWide Tryd.prog W .any base 40 v) (h : DataW.Trod enc Tryd.prog W 0 (fun _ => true) true 40 v d ps) :
    ∃ (A : Option Addr) (c : Nat) (l : List Int), v = .slice A l.length c ∧ l.length ≤ 140737488355328 ∧ RI W A l := by
  obtain ⟨A, len, cap, rfl⟩ := okWide_slice Tryd.underlying40 hval
  obtain ⟨fuel, hf⟩ := h
  rcases open_ints Tryd.underlying40 Tryd.underlying3 cellsInt hf with ⟨hcs, _⟩ | ⟨x, n, c, zs, hcs, _, hl, _, hz, hx, hcell, hwf⟩
  · simp [Value.cells] at hcs
    obtain ⟨rfl, rfl, rfl⟩ := hcs
    exact ⟨none, 0, [], rfl, by simp, fun i hi => by simp at hi⟩
  · simp [Value.cells] at hcs
    obtain ⟨rfl, rfl, rfl⟩ := hcs
    obtain ⟨hx, _⟩ := Prod.mk.inj hx
    subst hx
    have z := sized_slice hsz ht hd Tryd.underlying40
    have hb : Tryd.prog.bytesOf 3 = 8 := by kernel_rfl
    rw [hb] at z
    simp only [lits, List.length_map, List.length_take, List.length_drop, if_true] at z hz
    have hzl : zs.length = cap := hz
    have hreach : reachBytes = 140737488351232 := by decide
    have hlen : (zs.take len).length = len := by simp; omega
    refine ⟨some x, cap, zs.take len, by rw [hlen], by rw [hlen]; omega, fun i hi => ?_⟩
    rw [hlen] at hi
    have hc := hcell i (by omega)
    obtain ⟨b, off, spot⟩ := x
    have hs : spot = none := by
      cases spot with
      | none => rfl
      | some q =>
        exfalso
        have h0 := hcell 0 (by omega)
        simp only [Addr.add, if_true] at h0
        unfold World.cell? at h0
        split at h0
        · simp at h0
        · cases h0
    subst hs
    refine ⟨b, off, rfl, ?_⟩
    rw [add_plain] at hc
    rw [hc]
    simp only [List.getD_eq_getElem?_getD, List.getElem?_take, if_pos hi]
end
end Go.Proofs.YtoophccelcbbfaaDoor
