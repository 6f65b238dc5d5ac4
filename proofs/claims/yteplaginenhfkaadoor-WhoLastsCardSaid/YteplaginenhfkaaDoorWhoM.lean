/-
  who: what the reference's Grant tells, plain.
-/
import Derived.Test.YteplaginenhfkaaDoorWhoB
import Derived.Test.YteplaginenhfkaaDoorWhoD
set_option linter.unusedVariables false
set_option linter.unusedSimpArgs false
namespace Go.Proofs.YteplaginenhfkaaDoor
open Go.RowKit

def bitB (x w : Int) : Bool := x / w % 2 == 1
theorem bm_one : ∀ c : Fin 16, (bits .and .i64 (((c.val : Nat) : Int)) 1 = 0) ↔ bitB ((c.val : Nat) : Int) 1 = false := by decide +kernel
theorem bm_two : ∀ c : Fin 16, (bits .and .i64 (((c.val : Nat) : Int)) 2 = 0) ↔ bitB ((c.val : Nat) : Int) 2 = false := by decide +kernel
theorem bm_mask : ∀ c s : Fin 16, (bits .and .i64 (bits .and .i64 ((c.val : Nat) : Int) ((s.val : Nat) : Int)) 12 = 0 ∨ bits .and .i64 (bits .and .i64 ((c.val : Nat) : Int) ((s.val : Nat) : Int)) 12 = 4 ∨
    bits .and .i64 (bits .and .i64 ((c.val : Nat) : Int) ((s.val : Nat) : Int)) 12 = 8 ∨ bits .and .i64 (bits .and .i64 ((c.val : Nat) : Int) ((s.val : Nat) : Int)) 12 = 12) := by decide +kernel
def coverB (f c s : Int) : Bool := (!bitB f 4 || (bitB c 4 && bitB s 4)) && (!bitB f 8 || (bitB c 8 && bitB s 8))
theorem bm_cover : ∀ (c s : Fin 16) (k : Fin 4), (bits .andNot .i64 ((4 * k.val : Nat) : Int) (bits .and .i64 (bits .and .i64 ((c.val : Nat) : Int) ((s.val : Nat) : Int)) 12) = 0) ↔ coverB ((4 * k.val : Nat) : Int) ((c.val : Nat) : Int) ((s.val : Nat) : Int) = true := by decide +kernel
theorem fin16 {x : Int} (h : 0 ≤ x ∧ x ≤ 15) : ∃ c : Fin 16, x = ((c.val : Nat) : Int) := ⟨⟨x.toNat, by omega⟩, by show x = ((x.toNat : Nat) : Int); omega⟩
theorem wrap64_zero {n : Nat} (hn : n < 18446744073709551616) (h : IntKind.i64.wrap (n : Int) = 0) : n = 0 := by
  have e : (n : Int) % 2 ^ 64 = n := Int.emod_eq_of_lt (by omega) (by omega)
  simp only [IntKind.wrap, IntKind.bits, IntKind.signed, e] at h
  split at h <;> omega
theorem small_mask : ∀ k : Fin 13, ∀ m : Fin 4, (k.val &&& (4 * m.val)) = k.val → (k.val = 0 ∨ k.val = 4 ∨ k.val = 8 ∨ k.val = 12) := by decide
theorem and_self_of {x m : BitVec 64} (h : x &&& ~~~m = 0#64) : x = x &&& m := by
  apply BitVec.eq_of_getLsbD_eq
  intro i hi
  have := congrArg (fun b => b.getLsbD i) h
  simp [hi] at this
  simp
  exact this
/-- A mask that lets 4 and 8 through leaves something of any other flags. -/
theorem bm_other (f : Int) (h1 : -9223372036854775808 ≤ f) (h2 : f ≤ 9223372036854775807) (m : Fin 4) (h : bits .andNot .i64 f ((4 * m.val : Nat) : Int) = 0) : f = 0 ∨ f = 4 ∨ f = 8 ∨ f = 12 := by
  have h3 : (BitVec.ofInt 64 f &&& ~~~ BitVec.ofInt 64 ((4 * m.val : Nat) : Int)).toNat = 0 := wrap64_zero (BitVec.isLt _) h
  have h4 : BitVec.ofInt 64 f &&& ~~~ BitVec.ofInt 64 ((4 * m.val : Nat) : Int) = 0#64 := BitVec.eq_of_toNat_eq (by rw [h3]; rfl)
  have h5 := congrArg BitVec.toNat (and_self_of h4)
  rw [BitVec.toNat_and, ofInt_nat 64 (4 * m.val) (by omega)] at h5
  obtain ⟨X, hX⟩ : ∃ X, X = (BitVec.ofInt 64 f).toNat := ⟨_, rfl⟩
  rw [← hX] at h5
  have h6 : X ≤ 4 * m.val := by rw [h5]; exact Nat.and_le_right
  have h7 := small_mask ⟨X, by omega⟩ m h5.symm
  simp only at h7
  have h8 : (X : Int) = f % 18446744073709551616 := by
    rw [hX, BitVec.toNat_ofInt]
    have : (0 : Int) ≤ f % ((2 ^ 64 : Nat) : Int) := Int.emod_nonneg _ (by decide)
    rw [Int.toNat_of_nonneg this]
    rfl
  omega
theorem ref_six {fr un fl cfl cli sfl sli now : Int} (hc : 0 ≤ cfl ∧ cfl ≤ 15) (h : bitB cfl 1 = false) : refusedS fr un fl cfl cli sfl sli now = 6 := by
  obtain ⟨c, rfl⟩ := fin16 hc
  unfold refusedS refusedZ
  rw [if_pos ((bm_one c).2 h)]
theorem ref_seven {fr un fl cfl cli sfl sli now : Int} (hc : 0 ≤ cfl ∧ cfl ≤ 15) (hs : 0 ≤ sfl ∧ sfl ≤ 15) (h1 : bitB cfl 1 = true) (h : bitB sfl 2 = false) : refusedS fr un fl cfl cli sfl sli now = 7 := by
  obtain ⟨c, rfl⟩ := fin16 hc
  obtain ⟨s, rfl⟩ := fin16 hs
  unfold refusedS refusedZ
  rw [if_neg (fun e => by rw [(bm_one c).1 e] at h1; cases h1), if_pos ((bm_two s).2 h)]
theorem ref_flags {fr un fl cfl cli sfl sli now : Int} (hc : 0 ≤ cfl ∧ cfl ≤ 15) (hs : 0 ≤ sfl ∧ sfl ≤ 15) (h1 : bitB cfl 1 = true) (h2 : bitB sfl 2 = true) (hf1 : -9223372036854775808 ≤ fl) (hf2 : fl ≤ 9223372036854775807)
    (h : ¬ (fl = 0 ∨ fl = 4 ∨ fl = 8 ∨ fl = 12)) : refusedS fr un fl cfl cli sfl sli now = 12 := by
  obtain ⟨c, rfl⟩ := fin16 hc
  obtain ⟨s, rfl⟩ := fin16 hs
  unfold refusedS refusedZ
  rw [if_neg (fun e => by rw [(bm_one c).1 e] at h1; cases h1), if_neg (fun e => by rw [(bm_two s).1 e] at h2; cases h2)]
  refine if_pos (fun e => h ?_)
  rcases bm_mask c s with hm | hm | hm | hm
  · exact bm_other fl hf1 hf2 0 (by rw [hm] at e; exact e)
  · exact bm_other fl hf1 hf2 1 (by rw [hm] at e; exact e)
  · exact bm_other fl hf1 hf2 2 (by rw [hm] at e; exact e)
  · exact bm_other fl hf1 hf2 3 (by rw [hm] at e; exact e)
theorem ref_cover {fr un cfl cli sfl sli now : Int} (k : Fin 4) (hc : 0 ≤ cfl ∧ cfl ≤ 15) (hs : 0 ≤ sfl ∧ sfl ≤ 15) (h1 : bitB cfl 1 = true) (h2 : bitB sfl 2 = true) (h : coverB ((4 * k.val : Nat) : Int) cfl sfl = false) :
    refusedS fr un ((4 * k.val : Nat) : Int) cfl cli sfl sli now = 12 := by
  obtain ⟨c, rfl⟩ := fin16 hc
  obtain ⟨s, rfl⟩ := fin16 hs
  unfold refusedS refusedZ
  rw [if_neg (fun e => by rw [(bm_one c).1 e] at h1; cases h1), if_neg (fun e => by rw [(bm_two s).1 e] at h2; cases h2), if_pos (fun e => by rw [(bm_cover c s k).1 e] at h; cases h)]
theorem ref_rest {fr un cfl cli sfl sli now : Int} (k : Fin 4) (hc : 0 ≤ cfl ∧ cfl ≤ 15) (hs : 0 ≤ sfl ∧ sfl ≤ 15) (h1 : bitB cfl 1 = true) (h2 : bitB sfl 2 = true) (h : coverB ((4 * k.val : Nat) : Int) cfl sfl = true) :
    refusedS fr un ((4 * k.val : Nat) : Int) cfl cli sfl sli now = if mn cli sli < fr - now then 12 else if un ≠ 0 ∧ un ≤ mx fr now then 12 else 0 := by
  obtain ⟨c, rfl⟩ := fin16 hc
  obtain ⟨s, rfl⟩ := fin16 hs
  unfold refusedS refusedZ
  rw [if_neg (fun e => by rw [(bm_one c).1 e] at h1; cases h1), if_neg (fun e => by rw [(bm_two s).1 e] at h2; cases h2), if_neg (fun e => e ((bm_cover c s k).2 h))]
  rfl
end Go.Proofs.YteplaginenhfkaaDoor
