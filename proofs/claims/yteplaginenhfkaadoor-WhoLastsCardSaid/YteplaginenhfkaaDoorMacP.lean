/-
  Plain mathematics of HMAC: a key as a block; parts; bytes that are expanded. No program in sight.
-/
import Derived.Test.YteplaginenhfkaaDoorPure2
namespace Go.Proofs.YteplaginenhfkaaDoor.Sen

theorem keyOf_length (key : List UInt8) : (keyOf key).length ≤ 64 := by
  unfold keyOf
  split
  · rw [sum_length]; decide
  · omega
theorem full_length (key : List UInt8) (x : UInt8) : (full key x).length = 64 := by
  have := keyOf_length key
  simp [full]; omega
theorem hmac_length (key b : List UInt8) : (hmac key b).length = 32 := sum_length _
/-- The key's block, the first i bytes turned. -/
def mcells (kk : List UInt8) (x : UInt8) (i : Nat) : List UInt8 := (kk.take i).map (· ^^^ x) ++ kk.drop i
theorem mcells_length (kk : List UInt8) (x : UInt8) (i : Nat) (hi : i ≤ kk.length) : (mcells kk x i).length = kk.length := by simp [mcells]; omega
theorem mcells_zero (kk : List UInt8) (x : UInt8) : mcells kk x 0 = kk := by simp [mcells]
theorem mcells_all (kk : List UInt8) (x : UInt8) : mcells kk x kk.length = kk.map (· ^^^ x) := by simp [mcells]
theorem mcells_at (kk : List UInt8) (x : UInt8) (i : Nat) (hi : i < kk.length) : (mcells kk x i).getD i 0 = kk.getD i 0 := by
  unfold mcells
  rw [List.getD_eq_getElem?_getD, List.getElem?_append_right (by simp; omega)]
  simp [List.getElem?_drop, List.getD_eq_getElem?_getD, Nat.min_eq_left (Nat.le_of_lt hi)]
theorem mcells_set (kk : List UInt8) (x : UInt8) (i : Nat) (hi : i < kk.length) : (mcells kk x i).set i (kk.getD i 0 ^^^ x) = mcells kk x (i + 1) := by
  unfold mcells
  have hl : ((kk.take i).map (· ^^^ x)).length = i := by simp; omega
  rw [List.set_append_right _ _ (by omega), hl, Nat.sub_self, List.drop_eq_getElem_cons hi, List.set_cons_zero, List.take_succ_eq_append_getElem hi, List.map_append, List.append_assoc, List.getD_eq_getElem?_getD, List.getElem?_eq_getElem hi]
  rfl

/-! ### Parts -/
def be32 (n : Nat) : List UInt8 := [UInt8.ofNat (n / 16777216), UInt8.ofNat (n / 65536), UInt8.ofNat (n / 256), UInt8.ofNat n]
def partsOf (l : List (List UInt8)) : List UInt8 := l.flatMap fun b => be32 b.length ++ b
theorem partsOf_snoc (l : List (List UInt8)) (b : List UInt8) : partsOf (l ++ [b]) = partsOf l ++ be32 b.length ++ b := by simp [partsOf]
theorem partsOf_length (l : List (List UInt8)) : (partsOf l).length = 4 * l.length + l.flatten.length := by
  induction l with
  | nil => rfl
  | cons b l ih => simp only [partsOf, List.flatMap_cons, List.length_append, List.flatten_cons, List.length_cons] at *; rw [ih]; simp [be32]; omega

/-! ### Extract, expand -/
def extract (salt b : List UInt8) : List UInt8 := hmac (if salt.length = 0 then List.replicate 32 0 else salt) b
/-- The last bytes behind i rounds; all bytes behind i rounds. -/
def last (key text : List UInt8) : Nat → List UInt8
  | 0 => []
  | i + 1 => hmac key (last key text i ++ text ++ [UInt8.ofNat (i + 1)])
def okm (key text : List UInt8) : Nat → List UInt8
  | 0 => []
  | i + 1 => okm key text i ++ last key text (i + 1)
theorem last_length (key text : List UInt8) (i : Nat) : (last key text (i + 1)).length = 32 := hmac_length _ _
theorem last_le (key text : List UInt8) (i : Nat) : (last key text i).length ≤ 32 := by
  cases i with
  | zero => simp [last]
  | succ i => rw [last_length]; exact Nat.le_refl _
theorem okm_length (key text : List UInt8) (i : Nat) : (okm key text i).length = 32 * i := by
  induction i with
  | zero => rfl
  | succ i ih => rw [okm, List.length_append, ih, last_length]; omega
/-- The last 32 bytes of all. -/
theorem okm_last (key text : List UInt8) (i : Nat) : (okm key text i).drop (32 * i - 32) = last key text i := by
  cases i with
  | zero => rfl
  | succ i =>
    rw [okm, show 32 * (i + 1) - 32 = (okm key text i).length by rw [okm_length]; omega, List.drop_left]
def roundsFor (n : Nat) : Nat := (n + 31) / 32
def expand (key text : List UInt8) (n : Nat) : List UInt8 := (okm key text (roundsFor n)).take n
theorem expand_length (key text : List UInt8) (n : Nat) : (expand key text n).length = n := by
  unfold expand
  rw [List.length_take, okm_length]
  unfold roundsFor
  omega
theorem okm_prefix (key text : List UInt8) (i j : Nat) (h : i ≤ j) : ∃ r, okm key text j = okm key text i ++ r := by
  induction j with
  | zero =>
    have e : i = 0 := by omega
    rw [e]
    exact ⟨[], (List.append_nil _).symm⟩
  | succ j ih =>
    by_cases e : i = j + 1
    · rw [e]; exact ⟨[], (List.append_nil _).symm⟩
    · obtain ⟨r, hr⟩ := ih (by omega)
      exact ⟨r ++ last key text (j + 1), by rw [okm, hr, List.append_assoc]⟩
theorem expand_begins (key text : List UInt8) (n m : Nat) (h : n ≤ m) : (expand key text m).take n = expand key text n := by
  unfold expand
  rw [List.take_take, Nat.min_eq_left h]
  obtain ⟨r, hr⟩ := okm_prefix key text (roundsFor n) (roundsFor m) (by unfold roundsFor; omega)
  rw [hr, List.take_append_of_le_length]
  rw [okm_length]; unfold roundsFor; omega
end Go.Proofs.YteplaginenhfkaaDoor.Sen
