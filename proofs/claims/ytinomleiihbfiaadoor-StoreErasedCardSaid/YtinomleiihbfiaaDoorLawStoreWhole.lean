/-
  The walk of the statement StoreWhole.
-/
import Derived.Test.YtinomleiihbfiaaDoorSto14
set_option linter.unusedVariables false
set_option linter.unusedSimpArgs false
namespace Go.Proofs.YtinomleiihbfiaaDoor
open Go.RowKit

/-- What a cut slice comes to, as the walk spells it. -/
theorem min96 (l : List UInt8) : (if (96 : Int) < ((l.length : Nat) : Int) then (96 : Int) else ((l.length : Nat) : Int)) = (((l.take 96).length : Nat) : Int) := by
  rw [List.length_take]
  split <;> omega
set_option maxRecDepth 100000 in
set_option maxHeartbeats 4000000 in
theorem law_store_whole (x : Int) (A : Option Addr) (c : Nat) (l : List UInt8) (B : Option Addr) (d : Nat) (m : List UInt8) (w : World) (hc : l.length ≤ c) (hR : RB w A l) (hd : m.length ≤ d) (hS : RB w B m) (hT : Tab w) :
    Calls Tryd.prog 4 #[.int .i64 x, .slice A l.length c, .slice B m.length d] w fun e w' => e = .returned (.bool true) ∧ Below w.heap.size w w' := by
  have HW := Lib.hid (works_c w hT)
  have hI1 := min96 l
  have hI2 := min96 m
  have r1 := hR.take 96
  have r2 := hS.take 96
  have t1 : (l.take 96).length ≤ 96 := by rw [List.length_take]; omega
  have t2 : (m.take 96).length ≤ 96 := by rw [List.length_take]; omega
  have sl1 := fun W => run_slice_to A l.length c (l.take 96).length (by rw [List.length_take]; omega) W
  have sl2 := fun W => run_slice_to B m.length d (m.take 96).length (by rw [List.length_take]; omega) W
  obtain ⟨a, ha⟩ : ∃ a, a = l.take 96 := ⟨_, rfl⟩
  obtain ⟨b, hb⟩ : ∃ b, b = m.take 96 := ⟨_, rfl⟩
  rw [← ha] at r1 t1 sl1 hI1
  rw [← hb] at r2 t2 sl2 hI2
  obtain ⟨n1, hn1⟩ : ∃ n, n = l.length := ⟨_, rfl⟩
  obtain ⟨n2, hn2⟩ : ∃ n, n = m.length := ⟨_, rfl⟩
  rw [← hn1] at sl1 hI1 ⊢
  rw [← hn2] at sl2 hI2 ⊢
  have R1 := Lib.hid r1; have R2 := Lib.hid r2; have T1 := Lib.hid t1; have T2 := Lib.hid t2; have HT := Lib.hid hT
  clear ha hb hn1 hn2 r1 r2 t1 t2 hR hS hc hd hT
  go_enter Tryd.func4, Tryd.ntmps4
  go_wp2_with fail
  refine HW.out.mono ?_
  rintro e w1 ⟨rfl, hb1⟩
  have HB1 := Lib.hid hb1
  clear hb1
  go_wp2_with fail
  refine (among_c x 1048574 (by decide) (by decide) w1).mono ?_
  rintro e w1' ⟨k, hk, rfl, rfl⟩
  go_wp2
  go_quiet (fail)
  obtain ⟨w2, hw2⟩ : ∃ w2, w2 = w1.drewN nq := ⟨_, rfl⟩
  have HB2 := Lib.hid (show Below w.heap.size w w2 by rw [hw2]; exact below_drewN HB1.out nq)
  rw [← hw2]
  clear hw2 hI1 hI2 sl1 sl2
  go_wp2_with fail
  refine (begun_c k hk A B c d a b T1.out T2.out w2 (R1.out.below HB2.out) (R2.out.below HB2.out) (HT.out.below HB2.out)).mono ?_
  rintro e w3 ⟨p, g, s, rfl, hp, hg, hst, htw, hb3⟩
  have hp' := Nat.le_trans HB2.out.size hp
  have hg' := Nat.le_trans HB2.out.size hg
  have HP := Lib.hid hp'; have HG := Lib.hid hg'; have ST3 := Lib.hid hst; have HB3 := Lib.hid (HB2.out.trans (hb3.mono HB2.out.size))
  -- plain
  obtain ⟨s4, e4, o4, z4, wr4, h4, k4⟩ := put_on s htw.on (k + 2) (by omega) b (by rw [htw.size]; have := T2.out; omega)
  have k4' := k4 (k + 1) b (by rw [show (k + 2 + 1) % 2 = (k + 1) % 2 by omega]; exact htw.new)
  have q1 := get_holds s htw.on.gone k (by omega) a htw.old
  have q2 := get_holds s htw.on.gone (k + 1) (by omega) b htw.new
  have q3 := newest_holds s htw.on.gone (k % 2) k (k + 1) a b (by omega) htw.old (by rw [show (k % 2 + 1) % 2 = (k + 1) % 2 by omega]; exact htw.new) (by omega)
  have q4 := get_other s4 o4.gone k (k + 2) (by omega) b (by rw [show k % 2 = (k + 2) % 2 by omega]; exact h4) (by omega)
  have q5 := newest_holds s4 o4.gone ((k + 1) % 2) (k + 1) (k + 2) b b (by omega) (by rw [show (k + 1) % 2 = (k + 2 + 1) % 2 by omega]; exact k4') (by rw [show ((k + 1) % 2 + 1) % 2 = (k + 2) % 2 by omega]; exact h4) (by omega)
  rw [show ((k + 2 : Nat) : Int) = (k : Int) + 2 by omega] at e4 q5
  rw [show ((k + 1 : Nat) : Int) = (k : Int) + 1 by omega] at q2 q3
  have E4 := Lib.hid e4; have Q1 := Lib.hid q1; have Q2 := Lib.hid q2; have Q3 := Lib.hid q3; have Q4 := Lib.hid q4; have Q5 := Lib.hid q5; have HWR := Lib.hid (show s.written ≤ 1000000 from Nat.le_trans htw.written (by decide))
  clear hp hg hp' hg' hst hb3 htw e4 o4 z4 wr4 h4 k4 k4' q1 q2 q3 q4 q5
  go_wp2_with fail
  have hgc := get_c p g s k w3 ST3.out (HT.out.below HB3.out)
  rw [Q1.out] at hgc
  refine hgc.mono ?_
  clear hgc
  rintro e w4 ⟨hb, A4, c4, rfl, hr, hge⟩
  have ST4 := Lib.hid (ST3.out.below hb); have HB4 := Lib.hid (HB3.out.trans (hb.mono HB3.out.size)); have R4 := Lib.hid (show RB w4 A4 a from hr)
  have hlt := ST3.out.lt
  have N4 := Lib.hid (show ∀ ad, A4 = some ad → ad.block ≠ p ∧ ad.block ≠ g from fun ad had => by have := hge ad had; omega)
  clear hb hr hge hlt
  go_wp2_with fail
  have hgc := get_c p g s ((k : Int) + 1) w4 ST4.out (HT.out.below HB4.out)
  rw [Q2.out] at hgc
  refine hgc.mono ?_
  clear hgc
  rintro e w5 ⟨hb, A5, c5, rfl, hr, hge⟩
  have ST5 := Lib.hid (ST4.out.below hb); have HB5 := Lib.hid (HB4.out.trans (hb.mono HB4.out.size)); have R5 := Lib.hid (show RB w5 A5 b from hr)
  have hlt := ST4.out.lt
  have N5 := Lib.hid (show ∀ ad, A5 = some ad → ad.block ≠ p ∧ ad.block ≠ g from fun ad had => by have := hge ad had; omega)
  have R4' := Lib.hid (R4.out.below hb)
  clear hb hr hge hlt
  go_wp2_with fail
  have hgc := newest_c p g s w5 ST5.out (HT.out.below HB5.out)
  rw [Q3.out] at hgc
  refine hgc.mono ?_
  clear hgc
  rintro e w6 ⟨hb, A6, c6, rfl, hr, hge⟩
  have ST6 := Lib.hid (ST5.out.below hb); have HB6 := Lib.hid (HB5.out.trans (hb.mono HB5.out.size)); have R6 := Lib.hid (show RB w6 A6 b from hr)
  have hlt := ST5.out.lt
  have N6 := Lib.hid (show ∀ ad, A6 = some ad → ad.block ≠ p ∧ ad.block ≠ g from fun ad had => by have := hge ad had; omega)
  have R4'' := Lib.hid (R4'.out.below hb); have R5' := Lib.hid (R5.out.below hb)
  clear hb hr hge hlt
  go_wp2_with fail
  have hpc := put_c p g s ((k : Int) + 2) B d b w6 ST6.out (HT.out.below HB6.out) (R2.out.below HB6.out) (Nat.le_trans T2.out (by decide)) HWR.out
  rw [E4.out] at hpc
  refine hpc.mono ?_
  clear hpc
  rintro e w7 ⟨rfl, hst, hon⟩
  have ST7 := Lib.hid (show StA w7 p g s4 from hst); have HB7 := Lib.hid (Only.below HB6.out hon HP.out HG.out HB6.out.size)
  have S4 := Lib.hid (R4''.out.only hon N4.out); have S5 := Lib.hid (R5'.out.only hon N5.out); have S6 := Lib.hid (R6.out.only hon N6.out)
  clear hst hon
  go_wp2_with fail
  have hgc := get_c p g s4 k w7 ST7.out (HT.out.below HB7.out)
  rw [Q4.out] at hgc
  refine hgc.mono ?_
  clear hgc
  rintro e w8 ⟨hb, A8, c8, rfl, _, _⟩
  have ST8 := Lib.hid (ST7.out.below hb); have HB8 := Lib.hid (HB7.out.trans (hb.mono HB7.out.size))
  have S4' := Lib.hid (S4.out.below hb); have S5' := Lib.hid (S5.out.below hb); have S6' := Lib.hid (S6.out.below hb)
  clear hb
  go_wp2_with fail
  have hgc := newest_c p g s4 w8 ST8.out (HT.out.below HB8.out)
  rw [Q5.out] at hgc
  refine hgc.mono ?_
  clear hgc
  rintro e w9 ⟨hb, A9, c9, rfl, hr, _⟩
  have HB9 := Lib.hid (HB8.out.trans (hb.mono HB8.out.size)); have R9 := Lib.hid (show RB w9 A9 b from hr)
  have U4 := Lib.hid (S4'.out.below hb); have U5 := Lib.hid (S5'.out.below hb); have U6 := Lib.hid (S6'.out.below hb)
  clear hb hr
  have UA := Lib.hid (R1.out.below HB9.out); have UB := Lib.hid (R2.out.below HB9.out)
  go_wp2_with fail
  refine (same_c A4 A c4 c a a w9 U4.out UA.out).mono ?_
  rw [decide_eq_true rfl]
  rintro e w9' ⟨rfl, rfl⟩
  go_wp2_with fail
  refine (same_c A5 B c5 d b b w9 U5.out UB.out).mono ?_
  rw [decide_eq_true rfl]
  rintro e w9' ⟨rfl, rfl⟩
  go_wp2_with fail
  refine (same_c A6 B c6 d b b w9 U6.out UB.out).mono ?_
  rw [decide_eq_true rfl]
  rintro e w9' ⟨rfl, rfl⟩
  go_wp2_with fail
  refine (same_c A9 B c9 d b b w9 R9.out UB.out).mono ?_
  rw [decide_eq_true rfl]
  rintro e w9' ⟨rfl, rfl⟩
  go_wp2
  go_ret
  exact ⟨rfl, HB9.out⟩
end Go.Proofs.YtinomleiihbfiaaDoor
