/-
  Plain mathematics of a store of two places: what is written, what is read. No program in sight.
-/
import Derived.Test.YtinomleiihbfiaaDoorMacP
set_option linter.unusedVariables false
set_option linter.unusedSimpArgs false
namespace Go.Proofs.YtinomleiihbfiaaDoor.Sen

structure Sto where
  left : Int
  written : Nat
  gone : Bool
  size : Nat
  img : List UInt8
structure Sto.Ok (s : Sto) : Prop where
  lo : 64 ≤ s.size
  hi : s.size ≤ 4096
  len : s.img.length = 2 * s.size
  left1 : -1 ≤ s.left
  left2 : s.left ≤ 4611686018427387904

/-! ### Numbers in eight bytes -/
def sgn (n : Nat) : Int := if n < 9223372036854775808 then (n : Int) else (n : Int) - 18446744073709551616
def rd8 (b : List UInt8) : Int := sgn (val b 8)
theorem val8 (b : List UInt8) : val b 8 = (((((((((b.getD 0 0).toNat * 256 + (b.getD 1 0).toNat) * 256 + (b.getD 2 0).toNat) * 256 + (b.getD 3 0).toNat) * 256 + (b.getD 4 0).toNat) * 256 + (b.getD 5 0).toNat) * 256 + (b.getD 6 0).toNat) * 256 + (b.getD 7 0).toNat)) := by
  simp [val]
theorem be64_val (n : Nat) (h : n < 18446744073709551616) : val (be64 n) 8 = n := by
  rw [val8]
  simp [be64, UInt8.toNat_ofNat']
  omega
theorem rd8_be64 (n : Nat) (h : n < 9223372036854775808) : rd8 (be64 n) = n := by
  unfold rd8 sgn
  rw [be64_val n (by omega), if_pos h]

/-! ### What is sealed; a record -/
def storeKey : List UInt8 := [115, 116, 111, 114, 101]
def sealB (b : List UInt8) : List UInt8 := b ++ (hmac storeKey b).take 16
theorem sealB_length (b : List UInt8) : (sealB b).length = b.length + 16 := by
  unfold sealB
  rw [List.length_append, List.length_take, hmac_length]; rfl
def headB (e : Nat) (b : List UInt8) : List UInt8 := be64 e ++ be64 b.length ++ b
def recB (e : Nat) (b : List UInt8) : List UInt8 := sealB (headB e b)
theorem headB_length (e : Nat) (b : List UInt8) : (headB e b).length = 16 + b.length := by
  simp [headB, be64_length]; omega
theorem recB_length (e : Nat) (b : List UInt8) : (recB e b).length = 32 + b.length := by
  rw [recB, sealB_length, headB_length]; omega
def readRec (size : Nat) (pb : List UInt8) : Option (Nat × List UInt8) :=
  if 0 ≤ rd8 (pb.take 8) ∧ rd8 (pb.take 8) ≤ 1048576 ∧ 0 ≤ rd8 ((pb.drop 8).take 8) ∧ rd8 ((pb.drop 8).take 8) ≤ (size : Int) - 32 then
    if sealB (pb.take (16 + (rd8 ((pb.drop 8).take 8)).toNat)) = pb.take (32 + (rd8 ((pb.drop 8).take 8)).toNat) then
      some ((rd8 (pb.take 8)).toNat, (pb.drop 16).take (rd8 ((pb.drop 8).take 8)).toNat)
    else none
  else none
theorem readRec_rec (size e : Nat) (b rest : List UInt8) (he : e ≤ 1048576) (hb : b.length + 32 ≤ size) (hs : size ≤ 4096) : readRec size (recB e b ++ rest) = some (e, b) := by
  have h1 : (recB e b ++ rest).take 8 = be64 e := by
    rw [recB, sealB, headB]
    simp only [List.append_assoc]
    rw [List.take_left' (be64_length e)]
  have h2 : ((recB e b ++ rest).drop 8).take 8 = be64 b.length := by
    rw [recB, sealB, headB]
    simp only [List.append_assoc]
    rw [List.drop_left' (be64_length e), List.take_left' (be64_length _)]
  have h3 : (recB e b ++ rest).drop 16 = b ++ ((hmac storeKey (headB e b)).take 16 ++ rest) := by
    rw [recB, sealB]
    conv => lhs; rw [headB]
    simp only [List.append_assoc]
    rw [show (16 : Nat) = 8 + 8 from rfl, ← List.drop_drop, List.drop_left' (be64_length e), List.drop_left' (be64_length _)]
    simp [headB]
  have h4 : (recB e b ++ rest).take (16 + b.length) = headB e b := by
    rw [recB, sealB, List.append_assoc, List.take_left' (headB_length e b)]
  have h5 : (recB e b ++ rest).take (32 + b.length) = recB e b := List.take_left' (recB_length e b)
  unfold readRec
  rw [h1, h2, rd8_be64 e (by omega), rd8_be64 b.length (by omega), if_pos (by omega), Int.toNat_natCast, h4, h5, if_pos (by rfl), h3, Int.toNat_natCast, List.take_left' rfl]
def zeros (n : Nat) : List UInt8 := List.replicate n 0
theorem hmac_zeros16 : (hmac storeKey (List.replicate 16 0)).take 16 ≠ List.replicate 16 0 := by decide +kernel
/-- What is all nought is no record. -/
theorem readRec_zeros (size : Nat) (pb : List UInt8) (h : pb.take 32 = List.replicate 32 0) : readRec size pb = none := by
  have h1 : pb.take 8 = List.replicate 8 0 := by
    have : (pb.take 32).take 8 = (List.replicate 32 (0 : UInt8)).take 8 := by rw [h]
    rwa [List.take_take] at this
  have h2 : (pb.drop 8).take 8 = List.replicate 8 0 := by
    have : ((pb.take 32).drop 8).take 8 = ((List.replicate 32 (0 : UInt8)).drop 8).take 8 := by rw [h]
    rw [List.drop_take, List.take_take] at this
    exact this
  have h3 : rd8 (List.replicate 8 0) = 0 := by decide
  have h4 : pb.take 16 = List.replicate 16 0 := by
    have : (pb.take 32).take 16 = (List.replicate 32 (0 : UInt8)).take 16 := by rw [h]
    rwa [List.take_take] at this
  unfold readRec
  split
  · rw [h2, h3]
    simp only [Int.toNat_zero, Nat.add_zero, h, h4]
    rw [if_neg]
    intro e
    unfold sealB at e
    rw [show (32 : Nat) = 16 + 16 from rfl, ← List.replicate_append_replicate] at e
    exact hmac_zeros16 (List.append_cancel_left e)
  · rfl

/-! ### Places; bytes laid over others -/
def place (s : Sto) (k : Nat) : List UInt8 := (s.img.drop (k * s.size)).take s.size
def putAt (img : List UInt8) (off : Nat) (l : List UInt8) : List UInt8 := img.take off ++ (l ++ img.drop (off + l.length))
theorem putAt_length (img : List UInt8) (off : Nat) (l : List UInt8) (h : off + l.length ≤ img.length) : (putAt img off l).length = img.length := by
  simp [putAt]; omega
theorem putAt_nil (img : List UInt8) (off : Nat) : putAt img off [] = img := by simp [putAt]
theorem putAt_snoc (img : List UInt8) (off : Nat) (l : List UInt8) (x : UInt8) (h : off + l.length < img.length) : (putAt img off l).set (off + l.length) x = putAt img off (l ++ [x]) := by
  unfold putAt
  have h1 : (img.take off).length = off := by rw [List.length_take]; omega
  rw [List.set_append_right _ _ (by omega), h1, Nat.add_sub_cancel_left, List.set_append_right _ _ (Nat.le_refl _), Nat.sub_self, List.drop_eq_getElem_cons h, List.set_cons_zero]
  simp [Nat.add_assoc]
/-- The other place stays. -/
theorem putAt_other0 (img l : List UInt8) (size : Nat) (hl : l.length ≤ size) (hi : img.length = 2 * size) : ((putAt img size l).drop (0 * size)).take size = (img.drop (0 * size)).take size := by
  unfold putAt
  rw [Nat.zero_mul, List.drop_zero, List.drop_zero, List.take_append_of_le_length (by rw [List.length_take]; omega), List.take_take, Nat.min_self]
theorem putAt_other1 (img l : List UInt8) (size : Nat) (hl : l.length ≤ size) (hi : img.length = 2 * size) : ((putAt img 0 l).drop (1 * size)).take size = (img.drop (1 * size)).take size := by
  unfold putAt
  rw [List.take_zero, List.nil_append, Nat.one_mul, Nat.zero_add, List.drop_append, List.drop_of_length_le hl, List.nil_append, List.drop_drop]
  congr 2
  omega
/-- What was laid is there. -/
theorem putAt_same (img l : List UInt8) (k size : Nat) (hk : k < 2) (hl : l.length ≤ size) (hi : img.length = 2 * size) : ∃ r, ((putAt img (k * size) l).drop (k * size)).take size = l ++ r := by
  refine ⟨(img.drop (k * size + l.length)).take (size - l.length), ?_⟩
  have hks : k * size ≤ img.length := by
    obtain rfl | rfl : k = 0 ∨ k = 1 := by omega
    all_goals omega
  unfold putAt
  rw [List.drop_left' (by rw [List.length_take]; omega), List.take_append, List.take_of_length_le hl]

/-! ### A write, byte by byte, till the power goes -/
def wrote (s : Sto) (off : Nat) (bs : List UInt8) : Sto :=
  if s.left < 0 ∨ (bs.length : Int) ≤ s.left then
    { s with left := if s.left < 0 then -1 else s.left - bs.length, written := s.written + bs.length, img := putAt s.img off bs }
  else { s with left := 0, gone := true, written := s.written + s.left.toNat, img := putAt s.img off (bs.take s.left.toNat) }
def fits (s : Sto) (bs : List UInt8) : Bool := decide (s.left < 0 ∨ (bs.length : Int) ≤ s.left)
theorem wrote_ok (s : Sto) (h : s.Ok) (k : Nat) (hk : k < 2) (bs : List UInt8) (hb : bs.length ≤ s.size) : (wrote s (k * s.size) bs).Ok := by
  obtain ⟨h1, h2, h3, h4, h5⟩ := h
  have hks : k * s.size + s.size ≤ s.img.length := by
    obtain rfl | rfl : k = 0 ∨ k = 1 := by omega
    all_goals omega
  unfold wrote
  split
  · refine ⟨h1, h2, ?_, ?_, ?_⟩
    · show (putAt s.img (k * s.size) bs).length = 2 * s.size
      rw [putAt_length _ _ _ (by omega)]; exact h3
    · show -1 ≤ (if s.left < 0 then (-1 : Int) else s.left - bs.length)
      split <;> omega
    · show (if s.left < 0 then (-1 : Int) else s.left - bs.length) ≤ _
      split <;> omega
  · refine ⟨h1, h2, ?_, by show (-1 : Int) ≤ 0; omega, by show (0 : Int) ≤ _; omega⟩
    show (putAt s.img (k * s.size) (bs.take s.left.toNat)).length = 2 * s.size
    rw [putAt_length _ _ _ (by rw [List.length_take]; omega)]; exact h3
theorem wrote_size (s : Sto) (off : Nat) (bs : List UInt8) : (wrote s off bs).size = s.size := by unfold wrote; split <;> rfl
theorem wrote_written (s : Sto) (off : Nat) (bs : List UInt8) : (wrote s off bs).written ≤ s.written + bs.length := by
  unfold wrote
  split
  · exact Nat.le_refl _
  · show s.written + s.left.toNat ≤ _; omega
end Go.Proofs.YtinomleiihbfiaaDoor.Sen
