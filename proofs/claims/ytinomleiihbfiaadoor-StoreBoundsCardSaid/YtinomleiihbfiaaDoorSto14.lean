/-
  store: begun, the start of three statements.
-/
import Derived.Test.YtinomleiihbfiaaDoorStoR
set_option linter.unusedVariables false
set_option linter.unusedSimpArgs false
namespace Go.Proofs.YtinomleiihbfiaaDoor
open Go.RowKit

/-- A store with two records, the power on. -/
structure Two (s : Sen.Sto) (k : Nat) (a b : List UInt8) : Prop where
  on : On s
  size : s.size = 128
  written : s.written ≤ 1000
  old : Holds s (k % 2) k a
  new : Holds s ((k + 1) % 2) (k + 1) b
def BegunPost (w : World) (k : Nat) (a b : List UInt8) (e : Ending) (w' : World) : Prop :=
  ∃ p g s, e = .returned (.pointer (some ⟨p, 0, none⟩)) ∧ w.heap.size ≤ p ∧ w.heap.size ≤ g ∧ StA w' p g s ∧ Two s k a b ∧ Below w.heap.size w w'
set_option maxRecDepth 100000 in
set_option maxHeartbeats 2000000 in
theorem begun_c (k : Nat) (hk : k < 1048574) (A B : Option Addr) (c d : Nat) (a b : List UInt8) (ha : a.length ≤ 96) (hb : b.length ≤ 96) (w : World) (hA : RB w A a) (hB : RB w B b) (hT : Tab w) :
    Calls Tryd.prog 19 #[.int .i64 (k : Int), .slice A a.length c, .slice B b.length d, .bool true] w (BegunPost w k a b) := by
  obtain ⟨s1, e1, o1, z1, w1, h1, _⟩ := put_on (newS 128) (on_new 128 (by decide) (by decide)) k (by omega) a (by show a.length + 32 ≤ 128; omega)
  obtain ⟨s2, e2, o2, z2, w2, h2, k2⟩ := put_on s1 o1 (k + 1) (by omega) b (by rw [z1]; show b.length + 32 ≤ 128; omega)
  have hw1 : s1.written ≤ 300 := by rw [w1]; show 0 + (32 + a.length) ≤ 300; omega
  have htwo : Two s2 k a b := ⟨o2, z2.trans z1, by rw [w2]; omega, by have := k2 k a; rw [show (k + 1 + 1) % 2 = k % 2 by omega] at this; exact this h1, h2⟩
  rw [show ((k + 1 : Nat) : Int) = (k : Int) + 1 by omega] at e2
  obtain ⟨s0, hs0⟩ : ∃ s0, s0 = newS 128 := ⟨_, rfl⟩
  rw [← hs0] at e1
  have E1 := Lib.hid e1; have E2 := Lib.hid e2; have TW := Lib.hid htwo; have HW1 := Lib.hid hw1; have HS0 := Lib.hid hs0
  obtain ⟨n, hn⟩ : ∃ n, n = a.length := ⟨_, rfl⟩
  obtain ⟨m, hm⟩ : ∃ m, m = b.length := ⟨_, rfl⟩
  rw [← hn, ← hm]
  have HN := Lib.hid hn; have HM := Lib.hid hm; have HLA := Lib.hid ha; have HLB := Lib.hid hb; have HA := Lib.hid hA; have HB := Lib.hid hB; have HT := Lib.hid hT
  clear e1 o1 z1 w1 h1 e2 o2 z2 w2 h2 k2 hw1 htwo hs0 hn hm ha hb hA hB hT
  go_enter Tryd.func19, Tryd.ntmps19
  go_wp2_with fail
  refine (make_c 128 (by decide) (by decide) w).mono ?_
  rintro e w1 ⟨p, g, rfl, hp, hg, hst, hb⟩
  rw [← HS0.out] at hst
  have HP := Lib.hid hp; have HG := Lib.hid hg; have ST1 := Lib.hid hst; have HB1 := Lib.hid hb
  clear hp hg hst hb
  go_wp2_with fail
  refine (put_e w.heap.size p g s0 s1 k 0 A c n a w1 E1.out ST1.out (HT.out.below HB1.out) (HA.out.below HB1.out) HN.out (Nat.le_trans HLA.out (by decide)) (by rw [HS0.out]; exact Nat.zero_le _) HB1.out.size HP.out HG.out).mono ?_
  rintro e w2 ⟨rfl, hst, hb⟩
  have ST2 := Lib.hid hst; have HB2 := Lib.hid (HB1.out.trans hb)
  clear hst hb
  go_wp2_with fail
  refine (put_e w.heap.size p g s1 s2 ((k : Int) + 1) 0 B d m b w2 E2.out ST2.out (HT.out.below HB2.out) (HB.out.below HB2.out) HM.out (Nat.le_trans HLB.out (by decide)) (Nat.le_trans HW1.out (by decide)) HB2.out.size HP.out HG.out).mono ?_
  rintro e w3 ⟨rfl, hst, hb⟩
  have ST3 := Lib.hid hst; have HB3 := Lib.hid (HB2.out.trans hb)
  clear hst hb
  go_wp2
  go_ret
  exact ⟨p, g, s2, rfl, HP.out, HG.out, ST3.out, TW.out, HB3.out⟩
/-- A slice cut at 96: what it reads. -/
def short96 (l : List UInt8) : List UInt8 := l.take 96
theorem short96_len (l : List UInt8) : (short96 l).length = min 96 l.length := by unfold short96; rw [List.length_take]
end Go.Proofs.YtinomleiihbfiaaDoor
