/-
  mac: the walk of Same.
-/
import Derived.Test.YteplaginenhfkaaDoorOwn
set_option linter.unusedVariables false
set_option linter.unusedSimpArgs false
namespace Go.Proofs.YteplaginenhfkaaDoor
open Go.RowKit

theorem Sen.lor_zero (a b : Nat) : Nat.lor a b = 0 ↔ a = 0 ∧ b = 0 := by
  constructor
  · intro h
    have h' : a ||| b = 0 := h
    constructor
    · have := Nat.left_le_or (n := a) (m := b); omega
    · have := Nat.right_le_or (n := a) (m := b); omega
  · rintro ⟨rfl, rfl⟩; rfl
theorem Sen.xor_zero (a b : Nat) : Nat.xor a b = 0 ↔ a = b := by
  constructor
  · intro h
    have h' : a ^^^ b = 0 := h
    have : (a ^^^ b) ^^^ b = b := by rw [h']; simp
    rw [Nat.xor_assoc, Nat.xor_self, Nat.xor_zero] at this
    exact this
  · rintro rfl; exact Nat.xor_self a
theorem Sen.take_eq (a b : List UInt8) (k : Nat) (ha : k < a.length) (hb : k < b.length) : a.take (k + 1) = b.take (k + 1) ↔ a.take k = b.take k ∧ (a.getD k 0).toNat = (b.getD k 0).toNat := by
  rw [List.take_succ_eq_append_getElem ha, List.take_succ_eq_append_getElem hb]
  constructor
  · intro h
    obtain ⟨h1, h2⟩ := List.append_inj h (by simp; omega)
    refine ⟨h1, ?_⟩
    simp only [List.cons.injEq, and_true] at h2
    simp [List.getD_eq_getElem?_getD, List.getElem?_eq_getElem ha, List.getElem?_eq_getElem hb, h2]
  · rintro ⟨h1, h2⟩
    rw [h1]
    congr 1
    have h3 := UInt8.toNat_inj.1 h2
    simpa [List.getD_eq_getElem?_getD, List.getElem?_eq_getElem ha, List.getElem?_eq_getElem hb] using h3
theorem odd_next (q x y : Nat) (hq : q < 256) (hx : x < 256) (hy : y < 256) : bits .or .u8 (q : Int) (bits .xor .u8 (x : Int) (y : Int)) = ((Nat.lor q (Nat.xor x y) : Nat) : Int) := by
  have h := or8 q (Nat.xor x y) hq (Nat.xor_lt_two_pow (n := 8) hx hy)
  rw [xor8 x y hx hy]
  exact h
set_option maxRecDepth 100000 in
set_option maxHeartbeats 1000000 in
theorem msame_c (A B : Option Addr) (c d : Nat) (a b : List UInt8) (w : World) (hA : RB w A a) (hB : RB w B b) :
    Calls Tryd.prog 41 #[.slice A a.length c, .slice B b.length d] w fun e w' => e = .returned (.bool (decide (a = b))) ∧ w = w' := by
  obtain ⟨n, hn⟩ : ∃ n, n = a.length := ⟨_, rfl⟩
  obtain ⟨m, hm⟩ : ∃ m, m = b.length := ⟨_, rfl⟩
  have hn63 : n ≤ 140737488351232 := by rw [hn]; exact hA.1
  have HA := Lib.hid hA; have HB := Lib.hid hB
  by_cases hlen : n = m
  · subst hlen
    rw [← hn, ← hm]
    have HN := Lib.hid hn; have HM := Lib.hid hm
    clear hA hB hn hm
    go_enter Tryd.func41, Tryd.ntmps41
    go_wp2
    go_loop [5, 15] (fun vo vi => ∃ k q : Nat, k ≤ n ∧ q < 256 ∧ vi = .int .i64 k ∧ vo = .int .u8 q ∧ Hid (q = 0 ↔ a.take k = b.take k)) (fun _ i => n - (intOf i).toNat)
    case atStart => exact ⟨0, 0, by omega, by omega, rfl, rfl, Lib.hid (by simp)⟩
    case round =>
      obtain ⟨k, q, hk, hq, rfl, rfl, hqz⟩ := hrel
      by_cases hlt : k < n
      · have t0 : decide ((k : Int) < (n : Int)) = true := by simp; omega
        have k0 : (k : Int) < (n : Int) := by omega
        obtain ⟨b1, o1, rfl, _, hc1⟩ := HA.out.addr (by rw [← HN.out]; omega)
        obtain ⟨b2, o2, rfl, _, hc2⟩ := HB.out.addr (by rw [← HM.out]; omega)
        obtain ⟨x, hx, ex⟩ : ∃ x : Nat, x < 256 ∧ x = (a.getD k 0).toNat := ⟨_, UInt8.toNat_lt _, rfl⟩
        obtain ⟨y, hy, ey⟩ : ∃ y : Nat, y < 256 ∧ y = (b.getD k 0).toNat := ⟨_, UInt8.toNat_lt _, rfl⟩
        have r1 := hc1 k (by rw [← HN.out]; exact hlt)
        have r2 := hc2 k (by rw [← HM.out]; exact hlt)
        rw [← ex] at r1
        rw [← ey] at r2
        have NX := Lib.hid (show Nat.lor q (Nat.xor x y) = 0 ↔ a.take (k + 1) = b.take (k + 1) by
          rw [Sen.lor_zero, Sen.xor_zero, Sen.take_eq a b k (by rw [← HN.out]; exact hlt) (by rw [← HM.out]; exact hlt), hqz.out, ex, ey])
        have hlt8 : Nat.lor q (Nat.xor x y) < 256 := Nat.or_lt_two_pow (n := 8) hq (Nat.xor_lt_two_pow (n := 8) hx hy)
        have EQ := Lib.hid (odd_next q x y hq hx hy)
        clear ex ey hc1 hc2
        go_wp2
        go_round
        case rel => exact ⟨k + 1, _, by omega, hlt8, by go_num, congrArg (Value.int .u8) EQ.out, NX⟩
        case measure => simp [intOf]; omega
      · obtain rfl : k = n := by omega
        have t0 : decide ((k : Int) < (k : Int)) = false := by simp
        have hfin : decide (a = b) = ((q : Int) == 0) := by
          have := hqz.out
          rw [HN.out, List.take_length, ← HN.out, HM.out, List.take_length] at this
          rw [Bool.eq_iff_iff]
          simp only [decide_eq_true_eq, beq_iff_eq]
          rw [← this]
          omega
        have HF := Lib.hid hfin
        clear hfin
        go_wp2
        go_ret
        exact ⟨congrArg (fun x => Ending.returned (Value.bool x)) HF.out.symm, rfl⟩
  · have t0 : ((n : Int) != (m : Int)) = true := by simp; omega
    have hf : decide (a = b) = false := by
      rw [decide_eq_false_iff_not]
      intro h
      exact hlen (by rw [hn, hm, h])
    rw [hf, ← hn, ← hm]
    clear hf hA hB hn hm
    go_enter Tryd.func41, Tryd.ntmps41
    go_wp2
    go_ret
    exact ⟨rfl, rfl⟩
end Go.Proofs.YteplaginenhfkaaDoor
