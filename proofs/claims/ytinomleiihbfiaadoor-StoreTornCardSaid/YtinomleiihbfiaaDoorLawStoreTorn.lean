/-
  The walk of the statement StoreTorn.
-/
import Derived.Test.YtinomleiihbfiaaDoorLawStoreWhole
import Derived.Test.YtinomleiihbfiaaDoorStoT
set_option linter.unusedVariables false
set_option linter.unusedSimpArgs false
namespace Go.Proofs.YtinomleiihbfiaaDoor
open Go.RowKit

set_option maxRecDepth 100000 in
set_option maxHeartbeats 8000000 in
theorem law_store_torn (x : Int) (A : Option Addr) (c : Nat) (l : List UInt8) (B : Option Addr) (d : Nat) (m : List UInt8) (C : Option Addr) (f : Nat) (q : List UInt8) (y : Int) (w : World) (hc : l.length ≤ c) (hR : RB w A l) (hd : m.length ≤ d) (hS : RB w B m) (hf : q.length ≤ f) (hQ : RB w C q) (hT : Tab w) :
    Calls Tryd.prog 5 #[.int .i64 x, .slice A l.length c, .slice B m.length d, .slice C q.length f, .int .i64 y] w fun e w' => e = .returned (.bool true) ∧ Below w.heap.size w w' := by
  have HW := Lib.hid (works_c w hT)
  have hI1 := min96 l
  have hI2 := min96 m
  have hI3 := min96 q
  have r1 := hR.take 96
  have r2 := hS.take 96
  have r3 := hQ.take 96
  have t1 : (l.take 96).length ≤ 96 := by rw [List.length_take]; omega
  have t2 : (m.take 96).length ≤ 96 := by rw [List.length_take]; omega
  have t3 : (q.take 96).length ≤ 96 := by rw [List.length_take]; omega
  have sl1 := fun W => run_slice_to A l.length c (l.take 96).length (by rw [List.length_take]; omega) W
  have sl2 := fun W => run_slice_to B m.length d (m.take 96).length (by rw [List.length_take]; omega) W
  have sl3 := fun W => run_slice_to C q.length f (q.take 96).length (by rw [List.length_take]; omega) W
  obtain ⟨a, ha⟩ : ∃ a, a = l.take 96 := ⟨_, rfl⟩
  obtain ⟨b, hb⟩ : ∃ b, b = m.take 96 := ⟨_, rfl⟩
  obtain ⟨v, hv⟩ : ∃ v, v = q.take 96 := ⟨_, rfl⟩
  rw [← ha] at r1 t1 sl1 hI1
  rw [← hb] at r2 t2 sl2 hI2
  rw [← hv] at r3 t3 sl3 hI3
  obtain ⟨n1, hn1⟩ : ∃ n, n = l.length := ⟨_, rfl⟩
  obtain ⟨n2, hn2⟩ : ∃ n, n = m.length := ⟨_, rfl⟩
  obtain ⟨n3, hn3⟩ : ∃ n, n = q.length := ⟨_, rfl⟩
  rw [← hn1] at sl1 hI1 ⊢
  rw [← hn2] at sl2 hI2 ⊢
  rw [← hn3] at sl3 hI3 ⊢
  have R1 := Lib.hid r1; have R2 := Lib.hid r2; have R3 := Lib.hid r3; have T1 := Lib.hid t1; have T2 := Lib.hid t2; have T3 := Lib.hid t3; have HT := Lib.hid hT
  clear ha hb hv hn1 hn2 hn3 r1 r2 r3 t1 t2 t3 hR hS hQ hc hd hf hT
  go_enter Tryd.func5, Tryd.ntmps5
  go_wp2_with fail
  refine HW.out.mono ?_
  rintro e w1 ⟨rfl, hb1⟩
  have HB1 := Lib.hid hb1
  clear hb1
  go_wp2_with fail
  refine (among_c x 1048574 (by decide) (by decide) w1).mono ?_
  rintro e w1' ⟨k, hk, rfl, rfl⟩
  go_wp2
  go_quiet (fail)
  obtain ⟨w2, hw2⟩ : ∃ w2, w2 = w1.drewN nq := ⟨_, rfl⟩
  have HB2 := Lib.hid (show Below w.heap.size w w2 by rw [hw2]; exact below_drewN HB1.out nq)
  rw [← hw2]
  clear hw2 hI1 hI2 hI3 sl1 sl2 sl3
  go_wp2_with fail
  refine (begun_c k hk A B c d a b T1.out T2.out w2 (R1.out.below HB2.out) (R2.out.below HB2.out) (HT.out.below HB2.out)).mono ?_
  rintro e w3 ⟨p, g, s, rfl, hp, hg, hst, htw, hb3⟩
  have hp' := Nat.le_trans HB2.out.size hp
  have hg' := Nat.le_trans HB2.out.size hg
  have HP := Lib.hid hp'; have HG := Lib.hid hg'; have ST3 := Lib.hid hst; have HB3 := Lib.hid (HB2.out.trans (hb3.mono HB2.out.size)); have TW := Lib.hid htw; have HWR := Lib.hid (show s.written ≤ 1000000 from Nat.le_trans htw.written (by decide))
  clear hp hg hp' hg' hst hb3 htw
  have t3b := T3.out
  go_wp2_with fail
  have hac := among_c y (v.length + 34) (by omega) (by omega) w3
  rw [show ((v.length + 34 : Nat) : Int) = (v.length : Int) + 34 by omega] at hac
  refine hac.mono ?_
  clear hac
  rintro e w3' ⟨t, ht, rfl, rfl⟩
  have ht2 : t ≤ 1000 := by omega
  go_wp2_with fail
  refine (cut_c p g s t (by omega) w3 ST3.out).mono ?_
  rintro e w4 ⟨rfl, hst, hon⟩
  have ST4 := Lib.hid (show StA w4 p g (cutS s t) from hst); have HB4 := Lib.hid (Only.below HB3.out hon HP.out HG.out HB3.out.size)
  clear hst hon
  obtain ⟨s4, cd, e4, _, q1, qw, qt⟩ := torn_plain s k hk a b v TW.out T3.out t ht2
  have E4 := Lib.hid e4; have Q1 := Lib.hid q1
  clear e4 q1
  go_wp2_with fail
  have hpc := put_c p g (cutS s t) ((k : Int) + 2) C f v w4 ST4.out (HT.out.below HB4.out) (R3.out.below HB4.out) (Nat.le_trans T3.out (by decide)) HWR.out
  rw [E4.out] at hpc
  refine hpc.mono ?_
  clear hpc
  rintro e w5 ⟨rfl, hst, hon⟩
  have ST5 := Lib.hid (show StA w5 p g s4 from hst); have HB5 := Lib.hid (Only.below HB4.out hon HP.out HG.out HB4.out.size)
  clear hst hon
  have hcase : (32 + v.length ≤ t) ∨ (t < 32 + v.length ∧ t = 0) ∨ (t < 32 + v.length ∧ 0 < t) := by omega
  rcases hcase with hw | ⟨hw, h0⟩ | ⟨hw, h0⟩
  · obtain ⟨rfl, q2, q3⟩ := qw hw
    have Q2 := Lib.hid q2; have Q3 := Lib.hid q3
    have t4 : (v.length : Int) + 32 ≤ (t : Int) := by omega
    have t5 : 0 < t := by omega
    clear q2 q3
    clear qw qt hw ht2 ht
    go_wp2_with fail
    have hgc := get_c p g s4 ((k : Int) + 1) w5 ST5.out (HT.out.below HB5.out)
    rw [Q2.out] at hgc
    refine hgc.mono ?_
    clear hgc
    rintro e w6 ⟨hb, A6, c6, rfl, hr, hge⟩
    have ST6 := Lib.hid (ST5.out.below hb); have HB6 := Lib.hid (HB5.out.trans (hb.mono HB5.out.size))
    clear hb hr hge
    go_wp2_with fail
    refine (power_c p g s4 w6 ST6.out).mono ?_
    rintro e w7 ⟨rfl, hst, hon⟩
    have ST7 := Lib.hid (show StA w7 p g (powS s4) from hst); have HB7 := Lib.hid (Only.below HB6.out hon HP.out HG.out HB6.out.size)
    clear hst hon
    go_wp2_with fail
    have hgc := get_c p g (powS s4) ((k : Int) + 1) w7 ST7.out (HT.out.below HB7.out)
    rw [Q1.out] at hgc
    refine hgc.mono ?_
    clear hgc
    rintro e w8 ⟨hb, A8, c8, rfl, hr, hge⟩
    have ST8 := Lib.hid (ST7.out.below hb); have HB8 := Lib.hid (HB7.out.trans (hb.mono HB7.out.size)); have R8 := Lib.hid (show RB w8 A8 b from hr)
    clear hb hr hge
    go_wp2_with fail
    have hgc := get_c p g (powS s4) ((k : Int) + 2) w8 ST8.out (HT.out.below HB8.out)
    rw [Q3.out] at hgc
    refine hgc.mono ?_
    clear hgc
    rintro e w9 ⟨hb, A9, c9, rfl, hr, hge⟩
    have ST9 := Lib.hid (ST8.out.below hb); have HB9 := Lib.hid (HB8.out.trans (hb.mono HB8.out.size)); have R8' := Lib.hid (R8.out.below hb); have R9 := Lib.hid (show RB w9 A9 v from hr)
    clear hb hr hge
    go_wp2_with fail
    have hgc := get_c p g (powS s4) (k : Int) w9 ST9.out (HT.out.below HB9.out)
    obtain ⟨⟨g10, i10⟩, hg10⟩ : ∃ o, o = getS (powS s4) (k : Int) := ⟨_, rfl⟩
    rw [← hg10] at hgc
    clear hg10
    refine hgc.mono ?_
    clear hgc
    rintro e w10 ⟨hb, A10, c10, rfl, hr, hge⟩
    have HB10 := Lib.hid (HB9.out.trans (hb.mono HB9.out.size)); have S8 := Lib.hid (R8'.out.below hb); have S9 := Lib.hid (R9.out.below hb)
    clear hb hr hge
    go_wp2_with fail
    refine (same_c A8 B c8 d b b w10 S8.out (R2.out.below HB10.out)).mono ?_
    rw [decide_eq_true rfl]
    rintro e w10' ⟨rfl, rfl⟩
    go_wp2_with fail
    refine (same_c A9 C c9 f v v w10 S9.out (R3.out.below HB10.out)).mono ?_
    rw [decide_eq_true rfl]
    rintro e w10' ⟨rfl, rfl⟩
    go_wp2
    go_ret
    exact ⟨rfl, HB10.out⟩
  · obtain ⟨rfl, q2, q3⟩ := qt hw
    have Q2 := Lib.hid q2
    have t4 : ¬ ((v.length : Int) + 32 ≤ (t : Int)) := by omega
    have Q3 := Lib.hid (q3 h0)
    subst h0
    clear q2 q3
    clear qw qt hw ht2 ht
    go_wp2_with fail
    have hgc := get_c p g s4 ((k : Int) + 1) w5 ST5.out (HT.out.below HB5.out)
    rw [Q2.out] at hgc
    refine hgc.mono ?_
    clear hgc
    rintro e w6 ⟨hb, A6, c6, rfl, hr, hge⟩
    have ST6 := Lib.hid (ST5.out.below hb); have HB6 := Lib.hid (HB5.out.trans (hb.mono HB5.out.size))
    clear hb hr hge
    go_wp2_with fail
    refine (power_c p g s4 w6 ST6.out).mono ?_
    rintro e w7 ⟨rfl, hst, hon⟩
    have ST7 := Lib.hid (show StA w7 p g (powS s4) from hst); have HB7 := Lib.hid (Only.below HB6.out hon HP.out HG.out HB6.out.size)
    clear hst hon
    go_wp2_with fail
    have hgc := get_c p g (powS s4) ((k : Int) + 1) w7 ST7.out (HT.out.below HB7.out)
    rw [Q1.out] at hgc
    refine hgc.mono ?_
    clear hgc
    rintro e w8 ⟨hb, A8, c8, rfl, hr, hge⟩
    have ST8 := Lib.hid (ST7.out.below hb); have HB8 := Lib.hid (HB7.out.trans (hb.mono HB7.out.size)); have R8 := Lib.hid (show RB w8 A8 b from hr)
    clear hb hr hge
    go_wp2_with fail
    have hgc := get_c p g (powS s4) ((k : Int) + 2) w8 ST8.out (HT.out.below HB8.out)
    obtain ⟨⟨g9, i9⟩, hg9⟩ : ∃ o, o = getS (powS s4) ((k : Int) + 2) := ⟨_, rfl⟩
    rw [← hg9] at hgc
    clear hg9
    refine hgc.mono ?_
    clear hgc
    rintro e w9 ⟨hb, A9, c9, rfl, hr, hge⟩
    have ST9 := Lib.hid (ST8.out.below hb); have HB9 := Lib.hid (HB8.out.trans (hb.mono HB8.out.size)); have R8' := Lib.hid (R8.out.below hb)
    clear hb hr hge
    go_wp2_with fail
    have hgc := get_c p g (powS s4) (k : Int) w9 ST9.out (HT.out.below HB9.out)
    rw [Q3.out] at hgc
    refine hgc.mono ?_
    clear hgc
    rintro e w10 ⟨hb, A10, c10, rfl, hr, hge⟩
    have HB10 := Lib.hid (HB9.out.trans (hb.mono HB9.out.size)); have S8 := Lib.hid (R8'.out.below hb); have S10 := Lib.hid (show RB w10 A10 a from hr)
    clear hb hr hge
    go_wp2_with fail
    refine (same_c A8 B c8 d b b w10 S8.out (R2.out.below HB10.out)).mono ?_
    rw [decide_eq_true rfl]
    rintro e w10' ⟨rfl, rfl⟩
    go_wp2_with fail
    refine (same_c A10 A c10 c a a w10 S10.out (R1.out.below HB10.out)).mono ?_
    rw [decide_eq_true rfl]
    rintro e w10' ⟨rfl, rfl⟩
    go_wp2
    go_ret
    exact ⟨rfl, HB10.out⟩
  · obtain ⟨rfl, q2, q3⟩ := qt hw
    have Q2 := Lib.hid q2
    have t4 : ¬ ((v.length : Int) + 32 ≤ (t : Int)) := by omega
    clear q2 q3
    clear qw qt hw ht2 ht
    go_wp2_with fail
    have hgc := get_c p g s4 ((k : Int) + 1) w5 ST5.out (HT.out.below HB5.out)
    rw [Q2.out] at hgc
    refine hgc.mono ?_
    clear hgc
    rintro e w6 ⟨hb, A6, c6, rfl, hr, hge⟩
    have ST6 := Lib.hid (ST5.out.below hb); have HB6 := Lib.hid (HB5.out.trans (hb.mono HB5.out.size))
    clear hb hr hge
    go_wp2_with fail
    refine (power_c p g s4 w6 ST6.out).mono ?_
    rintro e w7 ⟨rfl, hst, hon⟩
    have ST7 := Lib.hid (show StA w7 p g (powS s4) from hst); have HB7 := Lib.hid (Only.below HB6.out hon HP.out HG.out HB6.out.size)
    clear hst hon
    go_wp2_with fail
    have hgc := get_c p g (powS s4) ((k : Int) + 1) w7 ST7.out (HT.out.below HB7.out)
    rw [Q1.out] at hgc
    refine hgc.mono ?_
    clear hgc
    rintro e w8 ⟨hb, A8, c8, rfl, hr, hge⟩
    have ST8 := Lib.hid (ST7.out.below hb); have HB8 := Lib.hid (HB7.out.trans (hb.mono HB7.out.size)); have R8 := Lib.hid (show RB w8 A8 b from hr)
    clear hb hr hge
    go_wp2_with fail
    have hgc := get_c p g (powS s4) ((k : Int) + 2) w8 ST8.out (HT.out.below HB8.out)
    obtain ⟨⟨g9, i9⟩, hg9⟩ : ∃ o, o = getS (powS s4) ((k : Int) + 2) := ⟨_, rfl⟩
    rw [← hg9] at hgc
    clear hg9
    refine hgc.mono ?_
    clear hgc
    rintro e w9 ⟨hb, A9, c9, rfl, hr, hge⟩
    have ST9 := Lib.hid (ST8.out.below hb); have HB9 := Lib.hid (HB8.out.trans (hb.mono HB8.out.size)); have R8' := Lib.hid (R8.out.below hb)
    clear hb hr hge
    go_wp2_with fail
    have hgc := get_c p g (powS s4) (k : Int) w9 ST9.out (HT.out.below HB9.out)
    obtain ⟨⟨g10, i10⟩, hg10⟩ : ∃ o, o = getS (powS s4) (k : Int) := ⟨_, rfl⟩
    rw [← hg10] at hgc
    clear hg10
    refine hgc.mono ?_
    clear hgc
    rintro e w10 ⟨hb, A10, c10, rfl, hr, hge⟩
    have HB10 := Lib.hid (HB9.out.trans (hb.mono HB9.out.size)); have S8 := Lib.hid (R8'.out.below hb)
    clear hb hr hge
    go_wp2_with fail
    refine (same_c A8 B c8 d b b w10 S8.out (R2.out.below HB10.out)).mono ?_
    rw [decide_eq_true rfl]
    rintro e w10' ⟨rfl, rfl⟩
    go_wp2
    go_ret
    exact ⟨rfl, HB10.out⟩
end Go.Proofs.YtinomleiihbfiaaDoor
