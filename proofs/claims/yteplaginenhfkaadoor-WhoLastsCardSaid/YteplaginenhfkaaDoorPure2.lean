/-
  More plain mathematics: no program in sight.
-/
import Derived.Test.YteplaginenhfkaaDoorPure
namespace Go.Proofs.YteplaginenhfkaaDoor.Sen

/-! ### 8. The digest's bytes, word by word -/
def dcells (s : List Nat) (k : Nat) : List UInt8 := sumOf (s.take k) ++ List.replicate (32 - 4 * k) 0
theorem dcells_length (s : List Nat) (hs : s.length = 8) (k : Nat) (hk : k ≤ 8) : (dcells s k).length = 32 := by
  simp [dcells, sumOf_length, hs]; omega
theorem dcells_all (s : List Nat) (hs : s.length = 8) : dcells s 8 = sumOf s := by
  simp [dcells, List.take_of_length_le (Nat.le_of_eq hs)]
theorem dcells_next (s : List Nat) (hs : s.length = 8) (k : Nat) (hk : k < 8) :
    ((((dcells s k).set (4 * k) (UInt8.ofNat (s.getD k 0 / 16777216))).set (4 * k + 1) (UInt8.ofNat (s.getD k 0 / 65536))).set (4 * k + 2) (UInt8.ofNat (s.getD k 0 / 256))).set (4 * k + 3) (UInt8.ofNat (s.getD k 0)) = dcells s (k + 1) := by
  have e1 : (sumOf (s.take k)).length = 4 * k := by rw [sumOf_length]; simp [hs]; omega
  have e2 : s.take (k + 1) = s.take k ++ [s.getD k 0] := by
    rw [List.take_succ_eq_append_getElem (by omega), List.getD_eq_getElem?_getD, List.getElem?_eq_getElem (by omega)]; rfl
  have e3 : 32 - 4 * k = (32 - 4 * (k + 1)) + 1 + 1 + 1 + 1 := by omega
  unfold dcells
  rw [e2, e3]
  simp only [List.replicate_succ]
  rw [List.set_append_right _ _ (by omega), e1, Nat.sub_self, List.set_cons_zero, List.set_append_right _ _ (by omega), e1, Nat.add_sub_cancel_left, List.set_cons_succ, List.set_cons_zero,
    List.set_append_right _ _ (by omega), e1, Nat.add_sub_cancel_left, List.set_cons_succ, List.set_cons_succ, List.set_cons_zero,
    List.set_append_right _ _ (by omega), e1, Nat.add_sub_cancel_left, List.set_cons_succ, List.set_cons_succ, List.set_cons_succ, List.set_cons_zero]
  simp [sumOf, bytes4]

/-! ### 9. A beginning of a digest, as a number -/
def val (l : List UInt8) : Nat → Nat
  | 0 => 0
  | k + 1 => val l k * 256 + (l.getD k 0).toNat
theorem val_lt (l : List UInt8) (k : Nat) : val l k < 256 ^ k := by
  induction k with
  | zero => simp [val]
  | succ k ih =>
    have := (l.getD k 0).toNat_lt
    rw [val, Nat.pow_succ]; omega
theorem val_small (l : List UInt8) (k : Nat) (h : k < 8) : val l k < 72057594037927936 := by
  have h1 := val_lt l k
  have h2 : 256 ^ k ≤ 256 ^ 7 := Nat.pow_le_pow_right (by decide) (by omega)
  have h3 : 256 ^ 7 = 72057594037927936 := by decide
  omega
theorem val_le (l : List UInt8) (k : Nat) (h : k ≤ 8) : val l k < 18446744073709551616 := by
  have h1 := val_lt l k
  have h2 : 256 ^ k ≤ 256 ^ 8 := Nat.pow_le_pow_right (by decide) h
  have h3 : 256 ^ 8 = 18446744073709551616 := by decide
  omega
def beginning (l : List UInt8) (m : Int) : Nat := if m < 1 then 0 else val (sum l) 8 / 2 ^ (64 - (min m 64).toNat)
theorem beginning_nil : beginning [] 16 = 58288 := by decide +kernel
end Go.Proofs.YteplaginenhfkaaDoor.Sen
