/-
  The walk of the statement MacSums.
-/
import Derived.Test.YtoophccelcbbfaaDoorLaw5
import Derived.Test.YtoophccelcbbfaaDoorExtr
set_option linter.unusedVariables false
set_option linter.unusedSimpArgs false
namespace Go.Proofs.YtoophccelcbbfaaDoor
open Go.RowKit

set_option maxHeartbeats 1000000 in
theorem law_mac_sums (A : Option Addr) (c : Nat) (l : List UInt8) (B : Option Addr) (d : Nat) (m : List UInt8) (w : World) (hc : l.length ≤ c) (hR : RB w A l) (hd : m.length ≤ d) (hS : RB w B m) (hT : Tab w) :
    Calls Tryd.prog 9 #[.slice A l.length c, .slice B m.length d] w fun e w' => e = .returned (.bool true) ∧ Below w.heap.size w w' := by
  have HC := Lib.hid hc; have HR := Lib.hid hR; have HD := Lib.hid hd; have HS := Lib.hid hS; have HT := Lib.hid hT
  clear hc hR hd hS hT
  go_enter Tryd.func9, Tryd.ntmps9
  go_wp2_with fail
  refine (short5_c A c l _ HC.out HR.out.1).mono ?_
  rintro e w2 ⟨rfl, rfl⟩
  obtain ⟨s, hs⟩ : ∃ s, s = l.take 300 := ⟨_, rfl⟩
  have hr1 := HR.out.take 300
  have hsl : (l.take 300).length ≤ 300 := by simp; omega
  rw [← hs] at hr1 hsl ⊢
  have R1 := Lib.hid hr1; have HSL := Lib.hid hsl
  clear hr1 hsl hs HR HC
  go_wp2_with fail
  refine (short5_c B d m _ HD.out HS.out.1).mono ?_
  rintro e w2 ⟨rfl, rfl⟩
  obtain ⟨t, ht⟩ : ∃ t, t = m.take 300 := ⟨_, rfl⟩
  have hr2 := HS.out.take 300
  have htl : (m.take 300).length ≤ 300 := by simp; omega
  rw [← ht] at hr2 htl ⊢
  have R2 := Lib.hid hr2; have HTL := Lib.hid htl
  clear hr2 htl ht HS HD
  go_wp2_with fail
  refine (bytes_c A c s _ (by have := HSL.out; omega) R1.out).mono ?_
  rintro e w1 ⟨v, rfl, ho1, hb1⟩
  obtain ⟨A1, c1, rfl, hc1, hr1⟩ := ho1.reads (by have := HSL.out; omega)
  have X1 := Lib.hid hr1; have HB1 := Lib.hid hb1
  clear ho1 hc1 hr1 hb1
  go_wp2_with fail
  refine (bytes_c B d t _ (by have := HTL.out; omega) (R2.out.below HB1.out)).mono ?_
  rintro e w2 ⟨v, rfl, ho2, hb2⟩
  obtain ⟨A2, c2, rfl, hc2, hr2⟩ := ho2.reads (by have := HTL.out; omega)
  have X2 := Lib.hid hr2; have X1' := Lib.hid (X1.out.below hb2); have HB2 := Lib.hid (HB1.out.trans (hb2.mono HB1.out.size))
  clear ho2 hc2 hr2 hb2 X1 HB1
  have hq1 := eq_sum (Sen.hmac s t) (Sen.hmac_length _ _)
  have hq2 := eq_sum (Sen.extract s t) (Sen.hmac_length _ _)
  go_wp2_with fail
  refine (mac_sum_c A1 A2 c1 c2 s t _ (by have := HSL.out; omega) (by have := HTL.out; omega) X1'.out X2.out (HT.out.below HB2.out)).mono ?_
  rintro e w3 ⟨rfl, hb3⟩
  have HB3 := Lib.hid (HB2.out.trans (hb3.mono HB2.out.size)); have Y1 := Lib.hid (X1'.out.below hb3); have Y2 := Lib.hid (X2.out.below hb3)
  clear hb3 X1' X2 HB2
  go_wp2_with fail
  refine (ref_mac_sum_c A B c d s t _ (by have := HSL.out; omega) (by have := HTL.out; omega) (R1.out.below HB3.out) (R2.out.below HB3.out)).mono ?_
  rintro e w4 ⟨rfl, hb4⟩
  have HB4 := Lib.hid (HB3.out.trans (hb4.mono HB3.out.size)); have Z1 := Lib.hid (Y1.out.below hb4); have Z2 := Lib.hid (Y2.out.below hb4)
  clear hb4 Y1 Y2 HB3
  go_wp2_with fail
  refine (extract_c A1 A2 c1 c2 s t _ (by have := HSL.out; omega) (by have := HTL.out; omega) Z1.out Z2.out (HT.out.below HB4.out)).mono ?_
  rintro e w5 ⟨rfl, hb5⟩
  have HB5 := Lib.hid (HB4.out.trans (hb5.mono HB4.out.size)); have Y1 := Lib.hid (Z1.out.below hb5); have Y2 := Lib.hid (Z2.out.below hb5)
  clear hb5 Z1 Z2 HB4
  go_wp2_with fail
  refine (ref_extract_c A B c d s t _ (by have := HSL.out; omega) (by have := HTL.out; omega) (R1.out.below HB5.out) (R2.out.below HB5.out)).mono ?_
  rintro e w6 ⟨rfl, hb6⟩
  have HB6 := Lib.hid (HB5.out.trans (hb6.mono HB5.out.size)); have Z1 := Lib.hid (Y1.out.below hb6); have Z2 := Lib.hid (Y2.out.below hb6)
  clear hb6 Y1 Y2 HB5
  go_wp2_with fail
  refine (same_c A1 A c1 c s s _ Z1.out (R1.out.below HB6.out)).mono ?_
  rintro e w7 ⟨rfl, rfl⟩
  rw [decide_eq_true (rfl : s = s)]
  go_wp2_with fail
  refine (same_c A2 B c2 d t t _ Z2.out (R2.out.below HB6.out)).mono ?_
  rintro e w7 ⟨rfl, rfl⟩
  rw [decide_eq_true (rfl : t = t)]
  go_wp2_with fail
  refine (works5_c _ (HT.out.below HB6.out)).mono ?_
  rintro e w7 ⟨rfl, hb7⟩
  go_wp2
  go_ret
  exact ⟨rfl, HB6.out.trans (hb7.mono HB6.out.size)⟩
end Go.Proofs.YtoophccelcbbfaaDoor
