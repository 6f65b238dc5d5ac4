/-
  The walk of the statement StoreErased.
-/
import Derived.Test.YtinomleiihbfiaaDoorLawStoreWhole
import Derived.Test.YtinomleiihbfiaaDoorStoT
set_option linter.unusedVariables false
set_option linter.unusedSimpArgs false
namespace Go.Proofs.YtinomleiihbfiaaDoor
open Go.RowKit

set_option maxRecDepth 100000 in
set_option maxHeartbeats 8000000 in
theorem law_store_erased (x : Int) (A : Option Addr) (c : Nat) (l : List UInt8) (B : Option Addr) (d : Nat) (m : List UInt8) (y : Int) (w : World) (hc : l.length ≤ c) (hR : RB w A l) (hd : m.length ≤ d) (hS : RB w B m) (hT : Tab w) :
    Calls Tryd.prog 7 #[.int .i64 x, .slice A l.length c, .slice B m.length d, .int .i64 y] w fun e w' => e = .returned (.bool true) ∧ Below w.heap.size w w' := by
  have HW := Lib.hid (works_c w hT)
  have hI1 := min96 l
  have hI2 := min96 m
  have r1 := hR.take 96
  have r2 := hS.take 96
  have t1 : (l.take 96).length ≤ 96 := by rw [List.length_take]; omega
  have t2 : (m.take 96).length ≤ 96 := by rw [List.length_take]; omega
  have sl1 := fun W => run_slice_to A l.length c (l.take 96).length (by rw [List.length_take]; omega) W
  have sl2 := fun W => run_slice_to B m.length d (m.take 96).length (by rw [List.length_take]; omega) W
  obtain ⟨a, ha⟩ : ∃ a, a = l.take 96 := ⟨_, rfl⟩
  obtain ⟨b, hb⟩ : ∃ b, b = m.take 96 := ⟨_, rfl⟩
  rw [← ha] at r1 t1 sl1 hI1
  rw [← hb] at r2 t2 sl2 hI2
  obtain ⟨n1, hn1⟩ : ∃ n, n = l.length := ⟨_, rfl⟩
  obtain ⟨n2, hn2⟩ : ∃ n, n = m.length := ⟨_, rfl⟩
  rw [← hn1] at sl1 hI1 ⊢
  rw [← hn2] at sl2 hI2 ⊢
  have R1 := Lib.hid r1; have R2 := Lib.hid r2; have T1 := Lib.hid t1; have T2 := Lib.hid t2; have HT := Lib.hid hT
  clear ha hb hn1 hn2 r1 r2 t1 t2 hR hS hc hd hT
  go_enter Tryd.func7, Tryd.ntmps7
  go_wp2_with fail
  refine HW.out.mono ?_
  rintro e w1 ⟨rfl, hb1⟩
  have HB1 := Lib.hid hb1
  clear hb1
  go_wp2_with fail
  refine (among_c x 1048574 (by decide) (by decide) w1).mono ?_
  rintro e w1' ⟨k, hk, rfl, rfl⟩
  go_wp2
  go_quiet (fail)
  obtain ⟨w2, hw2⟩ : ∃ w2, w2 = w1.drewN nq := ⟨_, rfl⟩
  have HB2 := Lib.hid (show Below w.heap.size w w2 by rw [hw2]; exact below_drewN HB1.out nq)
  rw [← hw2]
  clear hw2 hI1 hI2 sl1 sl2
  go_wp2_with fail
  refine (begun_c k hk A B c d a b T1.out T2.out w2 (R1.out.below HB2.out) (R2.out.below HB2.out) (HT.out.below HB2.out)).mono ?_
  rintro e w3 ⟨p, g, s, rfl, hp, hg, hst, htw, hb3⟩
  have hp' := Nat.le_trans HB2.out.size hp
  have hg' := Nat.le_trans HB2.out.size hg
  have HP := Lib.hid hp'; have HG := Lib.hid hg'; have ST3 := Lib.hid hst; have HB3 := Lib.hid (HB2.out.trans (hb3.mono HB2.out.size)); have TW := Lib.hid htw; have HWR := Lib.hid (show s.written ≤ 1000000 from Nat.le_trans htw.written (by decide))
  clear hp hg hp' hg' hst hb3 htw
  go_wp2_with fail
  refine (among_c y 130 (by decide) (by decide) w3).mono ?_
  rintro e w3' ⟨t, ht, rfl, rfl⟩
  have ht2 : t ≤ 1000 := by omega
  go_wp2_with fail
  refine (cut_c p g s t (by omega) w3 ST3.out).mono ?_
  rintro e w4 ⟨rfl, hst, hon⟩
  have ST4 := Lib.hid (show StA w4 p g (cutS s t) from hst); have HB4 := Lib.hid (Only.below HB3.out hon HP.out HG.out HB3.out.size)
  clear hst hon
  obtain ⟨s4, cd, e4, _, z4, wr4, q1, qw, qt⟩ := erased_plain s k hk a b TW.out t ht2
  have E4 := Lib.hid e4; have Q1 := Lib.hid q1; have Z4 := Lib.hid z4; have QW := Lib.hid qw; have QT := Lib.hid qt; have HWR4 := Lib.hid (show (powS s4).written ≤ 1000000 from Nat.le_trans wr4 (by decide))
  clear e4 q1 z4 wr4 qw qt
  go_wp2_with fail
  have hpc := erase_c p g (cutS s t) k w4 ST4.out (HT.out.below HB4.out) HWR.out
  rw [E4.out] at hpc
  refine hpc.mono ?_
  clear hpc
  rintro e w5 ⟨rfl, hst, hon⟩
  have ST5 := Lib.hid (show StA w5 p g s4 from hst); have HB5 := Lib.hid (Only.below HB4.out hon HP.out HG.out HB4.out.size)
  clear hst hon
  go_wp2_with fail
  refine (power_c p g s4 w5 ST5.out).mono ?_
  rintro e w7 ⟨rfl, hst, hon⟩
  have ST7 := Lib.hid (show StA w7 p g (powS s4) from hst); have HB7 := Lib.hid (Only.below HB5.out hon HP.out HG.out HB5.out.size)
  clear hst hon
  go_wp2_with fail
  have hgc := get_c p g (powS s4) ((k : Int) + 1) w7 ST7.out (HT.out.below HB7.out)
  rw [Q1.out] at hgc
  refine hgc.mono ?_
  clear hgc
  rintro e w8 ⟨hb, A8, c8, rfl, hr, hge⟩
  have ST8 := Lib.hid (ST7.out.below hb); have HB8 := Lib.hid (HB7.out.trans (hb.mono HB7.out.size)); have R8 := Lib.hid (show RB w8 A8 b from hr)
  clear hb hr hge
  go_wp2_with fail
  have hgc := get_c p g (powS s4) (k : Int) w8 ST8.out (HT.out.below HB8.out)
  obtain ⟨⟨g9, i9⟩, hg9⟩ : ∃ o, o = getS (powS s4) (k : Int) := ⟨_, rfl⟩
  rw [← hg9] at hgc
  have G9 := Lib.hid hg9
  clear hg9
  refine hgc.mono ?_
  clear hgc
  rintro e w9 ⟨hb, A9, c9, rfl, hr, hge⟩
  have ST9 := Lib.hid (ST8.out.below hb); have HB9 := Lib.hid (HB8.out.trans (hb.mono HB8.out.size)); have S8 := Lib.hid (R8.out.below hb)
  clear hb hr hge
  go_wp2_with fail
  refine (image_c p g (powS s4) w9 ST9.out).mono ?_
  obtain ⟨I, hI⟩ : ∃ I, I = (powS s4).img := ⟨_, rfl⟩
  have hIl : I.length = 256 := by rw [hI, ST9.out.ok.len, show (powS s4).size = s4.size from rfl, Z4.out]
  rw [← hI]
  have HI := Lib.hid hI; have HIL := Lib.hid hIl
  clear hI hIl
  rintro e w10 ⟨A10, c10, rfl, _, hr, hb, hge⟩
  rw [HIL.out]
  have ST10 := Lib.hid (ST9.out.below hb); have HB10 := Lib.hid (HB9.out.trans (hb.mono HB9.out.size)); have U8 := Lib.hid (S8.out.below hb); have RI10 := Lib.hid hr
  clear hb hr hge
  obtain ⟨b10, o10, rfl, _, hc10⟩ := RI10.out.addr (by rw [HIL.out]; decide)
  rw [HIL.out] at hc10
  obtain ⟨kk, hkk⟩ : ∃ kk : Nat, kk = k % 2 := ⟨_, rfl⟩
  have hkm : (k : Int) % 2 = (kk : Int) := by omega
  have hk2 : kk < 2 := by omega
  have HC10 := Lib.hid hc10; have HKK := Lib.hid hkk
  clear hc10 hkk
  go_wp2
  go_loop [16, 17] (fun vz vi => ∃ j : Nat, ∃ z : Bool, j ≤ 128 ∧ vi = .int .i64 j ∧ vz = .bool z ∧ Hid (128 ≤ t → z = true)) (fun _ i => 128 - (intOf i).toNat)
  case atStart => exact ⟨0, true, by omega, rfl, rfl, Lib.hid (fun _ => rfl)⟩
  case round =>
    obtain ⟨j, z, hj, rfl, rfl, hz⟩ := hrel
    by_cases hlt : j < 128
    · have k0 : (j : Int) < 128 := by omega
      obtain ⟨v, hv, ev⟩ : ∃ v : Nat, v < 256 ∧ v = (I.getD (kk * 128 + j) 0).toNat := ⟨_, UInt8.toNat_lt _, rfl⟩
      have r1 := HC10.out (kk * 128 + j) (by omega)
      rw [← ev] at r1
      have EV := Lib.hid ev
      clear ev
      have NZ := Lib.hid (show 128 ≤ t → v = 0 from fun hw => by
        have h0 := (QW.out hw).2.2.2 j hlt
        rw [← HI.out, ← HKK.out] at h0
        rw [EV.out, h0]
        rfl)
      cases z with
      | false =>
        go_wp2
        go_round
        case rel => exact ⟨j + 1, false, by omega, by go_num, rfl, hz⟩
        case measure => simp [intOf]; omega
      | true =>
        go_wp2
        go_round
        case rel => exact ⟨j + 1, ((v : Int) == 0), by omega, by go_num, rfl, Lib.hid (fun hw => by rw [NZ.out hw]; rfl)⟩
        case measure => simp [intOf]; omega
    · obtain rfl : j = 128 := by omega
      by_cases hw : 128 ≤ t
      · obtain ⟨rfl, q2, q3, _⟩ := QW.out hw
        have e9 : (g9, i9) = (([] : List UInt8), (5 : Int)) := G9.out.trans q2
        obtain ⟨rfl, rfl⟩ := Prod.mk.inj e9
        obtain rfl := hz.out hw
        have E5 := Lib.hid q3
        have t4 : (128 : Int) ≤ (t : Int) := by omega
        clear q2 q3 e9 G9 hw ht ht2
        go_wp2_with fail
        refine (same_c A8 B c8 d b b w10 U8.out (R2.out.below HB10.out)).mono ?_
        rw [decide_eq_true rfl]
        rintro e w10' ⟨rfl, rfl⟩
        go_wp2_with fail
        have hpc := erase_c p g (powS s4) k w10 ST10.out (HT.out.below HB10.out) HWR4.out
        rw [E5.out] at hpc
        refine hpc.mono ?_
        clear hpc
        rintro e w11 ⟨rfl, hst, hon⟩
        have HB11 := Lib.hid (Only.below HB10.out hon HP.out HG.out HB10.out.size)
        clear hst hon
        go_wp2
        go_ret
        exact ⟨rfl, HB11.out⟩
      · obtain rfl := QT.out (by omega)
        have t4 : ¬ (128 : Int) ≤ (t : Int) := by omega
        clear ht ht2
        go_wp2_with fail
        refine (same_c A8 B c8 d b b w10 U8.out (R2.out.below HB10.out)).mono ?_
        rw [decide_eq_true rfl]
        rintro e w10' ⟨rfl, rfl⟩
        go_wp2
        go_ret
        exact ⟨rfl, HB10.out⟩
end Go.Proofs.YtinomleiihbfiaaDoor
