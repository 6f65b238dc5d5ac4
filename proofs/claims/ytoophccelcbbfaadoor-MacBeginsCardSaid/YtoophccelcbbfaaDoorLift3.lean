/-
  More arguments of the rows: arrays of numbers by value.
-/
import Derived.Test.YtoophccelcbbfaaDoorLift2
set_option linter.unusedVariables false
set_option linter.unusedSimpArgs false
namespace Go.Proofs.YtoophccelcbbfaaDoor
open Go.ChangeShapes Go.WideShapes Go.ChangeAt Go.RowKit
section
variable {H : Type} {enc : TypeId × Value → H}

theorem open_array {W : World} {base : Nat} {t e n : Nat} {k : IntKind} {v : Value} {d : DataW H} {ps : List MemPlace} (hu : Tryd.prog.underlying t = some (.array n e)) (he : Tryd.prog.underlying e = some (.int k)) (hc : Tryd.prog.cellsOf e = 1) (hct : Tryd.prog.cellsOf t = n)
    (hval : Value.okWide Tryd.prog W .any base t v) (h : DataW.Trod enc Tryd.prog W 0 (fun _ => true) true t v d ps) :
    ∃ zs : List Int, v = .agg (zs.map (Value.int k)).toArray ∧ zs.length = n ∧ ∀ z ∈ zs, (Lit.int k z).wf = true := by
  obtain ⟨cs, rfl, hsz, _⟩ : ∃ cs, v = .agg cs ∧ cs.size = Tryd.prog.cellsOf t ∧ Row.okWide Tryd.prog W .any base t cs := by
    simpa [Value.okWide, hu] using hval
  rw [hct] at hsz
  obtain ⟨fuel, hf⟩ := h
  obtain ⟨xs, m, _, ex, _, hl, hel⟩ := DataW.trod_array hu hf
  have key : ∀ i, i < n → ∃ z, cs.toList[i]? = some (.int k z) ∧ (Lit.int k z).wf = true := fun i hi => by
    have hE := hel i hi
    rw [hc, Nat.mul_one, List.getElem?_eq_getElem (by omega)] at hE
    obtain ⟨z, e1, e2, e3⟩ := DataW.trod_int he hE
    refine ⟨z, ?_, e3⟩
    have h0 : (((Value.agg cs).cells.toList.drop i).take 1)[0]? = [Value.int k z][0]? := congrArg (fun l => l[0]?) e1
    rw [List.getElem?_take, if_pos (by decide), List.getElem?_drop, Nat.add_zero] at h0
    exact h0
  refine ⟨cs.toList.map (fun v => match v with | .int _ z => z | _ => 0), ?_, by simp [hsz], ?_⟩
  · have : (cs.toList.map (fun v => match v with | .int _ z => z | _ => 0)).map (Value.int k) = cs.toList := by
      apply List.ext_getElem?
      intro i
      rw [List.getElem?_map, List.getElem?_map]
      by_cases hi : i < n
      · obtain ⟨z, hz, _⟩ := key i hi
        rw [hz]; rfl
      · rw [List.getElem?_eq_none (by simp; omega)]; rfl
    rw [this]
  · intro z hz
    obtain ⟨i, hi⟩ := List.mem_iff_getElem?.1 hz
    rw [List.getElem?_map] at hi
    by_cases hin : i < n
    · obtain ⟨z', hz', hw⟩ := key i hin
      rw [hz'] at hi
      simp at hi
      rw [← hi]; exact hw
    · rw [List.getElem?_eq_none (by simp; omega)] at hi; cases hi
theorem cells8 : Tryd.prog.cellsOf 32 = 8 := by kernel_rfl
theorem cellsBlock : Tryd.prog.cellsOf 33 = 64 := by kernel_rfl
theorem wf_u32 {z : Int} (h : (Lit.int .u32 z).wf = true) : ∃ n : Nat, z = n ∧ n < 4294967296 := by
  simp only [Lit.wf, Bool.and_eq_true, decide_eq_true_eq] at h
  obtain ⟨a, b⟩ := h
  simp [IntKind.min, IntKind.max, IntKind.signed, IntKind.bits] at a b
  exact ⟨z.toNat, by omega, by omega⟩
theorem wf_u8 {z : Int} (h : (Lit.int .u8 z).wf = true) : ∃ n : Nat, z = n ∧ n < 256 := by
  simp only [Lit.wf, Bool.and_eq_true, decide_eq_true_eq] at h
  obtain ⟨a, b⟩ := h
  simp [IntKind.min, IntKind.max, IntKind.signed, IntKind.bits] at a b
  exact ⟨z.toNat, by omega, by omega⟩
theorem wf_i64 {z : Int} (h : (Lit.int .i64 z).wf = true) : -9223372036854775808 ≤ z ∧ z ≤ 9223372036854775807 := by
  simp only [Lit.wf, Bool.and_eq_true, decide_eq_true_eq] at h
  obtain ⟨a, b⟩ := h
  simp [IntKind.min, IntKind.max, IntKind.signed, IntKind.bits] at a b
  exact ⟨by omega, by omega⟩
theorem open_state {W : World} {base : Nat} {v : Value} {d : DataW H} {ps : List MemPlace} (hval : Value.okWide Tryd.prog W .any base 32 v) (h : DataW.Trod enc Tryd.prog W 0 (fun _ => true) true 32 v d ps) :
    ∃ s : List Nat, v = .agg (wvs s).toArray ∧ s.length = 8 ∧ ∀ x ∈ s, x < 4294967296 := by
  obtain ⟨zs, rfl, hl, hw⟩ := open_array Tryd.underlying32 Tryd.underlying31 cells1 cells8 hval h
  refine ⟨zs.map Int.toNat, ?_, by simpa using hl, ?_⟩
  · congr 2
    unfold wvs
    rw [List.map_map]
    apply List.map_congr_left
    intro z hz
    obtain ⟨n, rfl, _⟩ := wf_u32 (hw z hz)
    rfl
  · intro x hx
    obtain ⟨z, hz, rfl⟩ := List.mem_map.1 hx
    obtain ⟨n, rfl, hn⟩ := wf_u32 (hw z hz)
    exact hn
theorem open_block {W : World} {base : Nat} {v : Value} {d : DataW H} {ps : List MemPlace} (hval : Value.okWide Tryd.prog W .any base 33 v) (h : DataW.Trod enc Tryd.prog W 0 (fun _ => true) true 33 v d ps) :
    ∃ s : List UInt8, v = .agg (bvs s).toArray ∧ s.length = 64 := by
  obtain ⟨zs, rfl, hl, hw⟩ := open_array Tryd.underlying33 Tryd.underlying5 cellsByte cellsBlock hval h
  refine ⟨zs.map fun z => UInt8.ofNat z.toNat, ?_, by simpa using hl⟩
  congr 2
  unfold bvs
  rw [List.map_map]
  apply List.map_congr_left
  intro z hz
  obtain ⟨n, rfl, hn⟩ := wf_u8 (hw z hz)
  show Value.int .u8 (n : Int) = bv (UInt8.ofNat n)
  unfold bv
  rw [UInt8.toNat_ofNat', Nat.mod_eq_of_lt hn]
end
end Go.Proofs.YtoophccelcbbfaaDoor
