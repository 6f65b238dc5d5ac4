/-
  Bytes as a string: the conversion, and two strings compared.
-/
import Derived.Test.YteplaginenhfkaaDoorGen
import Derived.Laws.BytesArg
import Derived.BigQuiet
set_option linter.unusedVariables false
set_option linter.unusedSimpArgs false
namespace Go.Proofs.YteplaginenhfkaaDoor
open Go.RowKit

def bstr (l : List UInt8) : ByteArray := ⟨l.toArray⟩
theorem bstr_inj {a b : List UInt8} (h : bstr a = bstr b) : a = b := by
  have : (bstr a).data.toList = (bstr b).data.toList := by rw [h]
  simpa [bstr] using this
theorem bstr_nums (l : List UInt8) : strOfNums (l.map fun x => ((x.toNat : Nat) : Int)) = bstr l := by
  unfold strOfNums bstr
  congr 2
  rw [List.map_map]
  conv => rhs; rw [← List.map_id l]
  apply List.map_congr_left
  intro x _
  simp
theorem run_str {w : World} {A : Option Addr} {l : List UInt8} (h : RB w A l) (c : Nat) : (convert 24 9 (.slice A l.length c)).run Tryd.prog w = .ok (.string (bstr l)) w := by
  cases l with
  | nil =>
    cases A with
    | none => exact run_convert_bytes_nil w _ 5 Tryd.underlying24 Tryd.underlying5 0 c _ Tryd.underlying9
    | some ad =>
      obtain ⟨b, o, p⟩ := ad
      rw [show ([] : List UInt8).length = 0 from rfl]
      rw [run_convert_bytes_string w _ _ 5 (some ⟨b, o, p⟩) 0 c Tryd.underlying24 Tryd.underlying5 Tryd.underlying9, run_bytesToString w _ 0 c [] (by simp [loadCells, Sem.run_pure]; rfl)]
      rfl
  | cons x l =>
    obtain ⟨b, off, rfl, hlt, hc⟩ := h.addr (by simp)
    rw [run_convert_bytes_arg w _ 5 Tryd.underlying24 Tryd.underlying5 b off (x :: l).length c ((x :: l).map fun x => ((x.toNat : Nat) : Int)) (by simp) (fun i hi => ?_) _ Tryd.underlying9, bstr_nums]
    rw [hc i hi, List.getD_eq_getElem?_getD, List.getD_eq_getElem?_getD, List.getElem?_map, List.getElem?_eq_getElem hi]
    rfl
end Go.Proofs.YteplaginenhfkaaDoor
