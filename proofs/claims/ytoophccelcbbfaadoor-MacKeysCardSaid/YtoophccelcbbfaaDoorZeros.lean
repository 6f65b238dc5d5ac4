/-
  append(x, make([]byte, n)...), x the call's own.
-/
import Derived.Test.YtoophccelcbbfaaDoorOwn
import Derived.Lib.AppendZeros
set_option linter.unusedVariables false
set_option linter.unusedSimpArgs false
namespace Go.Proofs.YtoophccelcbbfaaDoor
open Go.RowKit

def zstr (n : Nat) : ByteArray := ⟨(List.replicate n (0 : UInt8)).toArray⟩
theorem zstr_size (n : Nat) : (zstr n).size = n := by
  show (List.replicate n (0 : UInt8)).toArray.size = n
  simp
theorem zstr_list (n : Nat) : (zstr n).data.toList = List.replicate n 0 := by simp [zstr]
theorem zeroCells_bytes (n : Nat) : Builtin.zeroCells (Value.int .u8 0).cells n = (Lib.strCells (zstr n)).toArray := by
  apply Array.ext'
  apply List.ext_getElem?
  intro i
  simp [Builtin.zeroCells, Lib.strCells, zstr_list, Value.cells, List.getElem?_range, List.getElem?_replicate]
  by_cases h : i < n <;> simp [h, Nat.mod_one]
theorem run_append_zeros_eq (w : World) (ty : TypeId) (base : Option Addr) (sLen sCap n : Nat) (h0 : 0 < n) (hn : sLen + n ≤ 1048576) :
    (Builtin.append_ #[22, 3] ty #[.slice base sLen sCap, .int .i64 (n : Int)]).run Tryd.prog w = (Builtin.append_ #[22, 9] ty #[.slice base sLen sCap, .string (zstr n)]).run Tryd.prog w := by
  obtain ⟨i, hi, hz0, hz1, hz2⟩ := info_parts info_byte
  have hw : IntKind.i64.wrap (n : Int) = n := IntWalk.i64_in _ (by omega)
  have hneg : ¬ ((n : Int) < 0) := by omega
  have hbig : ¬ (281474976710656 < (n : Int)) := by omega
  have hne : n ≠ 0 := by omega
  have h63 : ¬ (9223372036854775807 < ((sLen : Int) + (n : Int))) := by omega
  have hf : ∀ W, (Builtin.firstCells 1 n (.string (zstr n))).run Tryd.prog W = .ok (Lib.strCells (zstr n)).toArray W := fun W => by
    have := Lib.run_firstCells_string (P := Tryd.prog) W 1 (zstr n)
    rwa [zstr_size] at this
  by_cases hroom : sLen + n ≤ sCap
  · simp [Builtin.append_, run_underlying Tryd.underlying22, run_underlying Tryd.underlying3, run_underlying Tryd.underlying9, sizeOf, typeInfo, zeroValue, hi, hz0, hz1, hz2, asInt, asIntOf, hw, hneg, hbig, hne, hroom, Builtin.lenOf, zstr_size, hf, zeroCells_bytes]
  · have h48 : ¬ (281474976710656 < Builtin.nextslicecap (sLen + n) sCap) := by have := nextslicecap_le (need := sLen + n) (old := sCap) (by omega); omega
    simp [Builtin.append_, run_underlying Tryd.underlying22, run_underlying Tryd.underlying3, run_underlying Tryd.underlying9, sizeOf, typeInfo, zeroValue, hi, hz0, hz1, hz2, asInt, asIntOf, hw, hneg, hbig, hne, hroom, Builtin.lenOf, zstr_size, hf, zeroCells_bytes, h63, h48]
theorem run_append_none (w : World) (ty : TypeId) (base : Nat) (v : Value) (xs : List UInt8) (h : Own w base v xs) :
    (Builtin.append_ #[22, 3] ty #[v, .int .i64 0]).run Tryd.prog w = .ok v w := by
  obtain ⟨i, hi, hz0, hz1, hz2⟩ := info_parts info_byte
  have hw : IntKind.i64.wrap 0 = 0 := by decide
  rcases h.2 with ⟨rfl, hn⟩ | ⟨g, cap, cur, rfl, _, _, hnc, _⟩
  · simp [Builtin.append_, run_underlying Tryd.underlying22, run_underlying Tryd.underlying3, sizeOf, typeInfo, hi, hz1, hz2, asInt, asIntOf, hw]
  · simp [Builtin.append_, run_underlying Tryd.underlying22, run_underlying Tryd.underlying3, sizeOf, typeInfo, hi, hz1, hz2, asInt, asIntOf, hw, hnc, storeCells]
theorem app_zeros {ops : Array Oper} {rest : List Oper} {o : Oper} {a : Act} {w : World} {Q : Exit → Act → World → Prop} (s x : Operand) (base : Nat) (xs : List UInt8) (n : Nat) (hgd : o.guard = none)
    (ho : o.op = .call { callee := .builtin .append, args := #[s, x], argTypes := #[22, 3] }) (v : Value) (z : Int) (hz : z = (n : Int))
    (hs : a.eval s = v) (hx : a.eval x = .int .i64 z) (hown : Own w base v xs) (hbase : base ≤ w.heap.size) (hl : xs.length + n ≤ 1048576)
    (h : ∀ v1 w1, Own w1 base v1 (xs ++ List.replicate n 0) → Below base w w1 → wpList Tryd.prog ops Q rest (a.put o.dst v1) w1) : wpList Tryd.prog ops Q (o :: rest) a w := by
  subst hz
  by_cases h0 : n = 0
  · subst h0
    exact Lib.wpList_append_run w hgd s x 22 3 ho v _ hs hx v w (run_append_none w _ base v xs hown) (h v w (by simpa using hown) (Below.refl _ _))
  · obtain ⟨i, hi, hz0, hz1, hz2⟩ := info_parts info_byte
    obtain ⟨v1, w1, hr, h1, h2, _⟩ := Lib.run_append_own_string (P := Tryd.prog) w base 22 9 o.type 5 i Tryd.underlying22 Tryd.underlying9 hi hz0 hz1 hz2 v xs.length (bvs xs) hown (zstr n) (by rw [zstr_size]; unfold maxLen; omega) (by rw [zstr_size]; omega) hbase
    have hv : ∃ b L c, v = .slice b L c ∧ L = xs.length := by
      rcases hown.2 with ⟨rfl, hn⟩ | ⟨g, cap, cur, rfl, _⟩
      · exact ⟨none, 0, 0, rfl, hn.symm⟩
      · exact ⟨_, _, _, rfl, rfl⟩
    obtain ⟨b, L, c, rfl, rfl⟩ := hv
    rw [← run_append_zeros_eq w o.type b xs.length c n (by omega) hl] at hr
    refine Lib.wpList_append_run w hgd s x 22 3 ho _ _ hs hx v1 w1 hr (h v1 w1 ?_ (hown.grown h2 hbase))
    have e : bvs xs ++ Lib.strCells (zstr n) = bvs (xs ++ List.replicate n 0) := by
      rw [bvs_append, ← zstr_list]; rfl
    rw [e, zstr_size] at h1
    simpa [Own] using h1
end Go.Proofs.YtoophccelcbbfaaDoor
