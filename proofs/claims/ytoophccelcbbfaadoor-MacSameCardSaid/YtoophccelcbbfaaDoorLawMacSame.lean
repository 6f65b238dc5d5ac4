/-
  The walk of the statement MacSame.
-/
import Derived.Test.YtoophccelcbbfaaDoorLaw5
set_option linter.unusedVariables false
set_option linter.unusedSimpArgs false
namespace Go.Proofs.YtoophccelcbbfaaDoor
open Go.RowKit

set_option maxHeartbeats 1000000 in
theorem law_mac_same (A : Option Addr) (c : Nat) (l : List UInt8) (B : Option Addr) (d : Nat) (m : List UInt8) (w : World) (hc : l.length ≤ c) (hR : RB w A l) (hd : m.length ≤ d) (hS : RB w B m) (hT : Tab w) :
    Calls Tryd.prog 8 #[.slice A l.length c, .slice B m.length d] w fun e w' => e = .returned (.bool true) ∧ Below w.heap.size w w' := by
  have HC := Lib.hid hc; have HR := Lib.hid hR; have HD := Lib.hid hd; have HS := Lib.hid hS; have HT := Lib.hid hT
  clear hc hR hd hS hT
  go_enter Tryd.func8, Tryd.ntmps8
  go_wp2_with fail
  refine (short5_c A c l _ HC.out HR.out.1).mono ?_
  rintro e w2 ⟨rfl, rfl⟩
  obtain ⟨s, hs⟩ : ∃ s, s = l.take 300 := ⟨_, rfl⟩
  have hr1 := HR.out.take 300
  have hsl : (l.take 300).length ≤ 300 := by simp; omega
  rw [← hs] at hr1 hsl ⊢
  have R1 := Lib.hid hr1; have HSL := Lib.hid hsl
  clear hr1 hsl hs HR HC
  go_wp2_with fail
  refine (short5_c B d m _ HD.out HS.out.1).mono ?_
  rintro e w2 ⟨rfl, rfl⟩
  obtain ⟨t, ht⟩ : ∃ t, t = m.take 300 := ⟨_, rfl⟩
  have hr2 := HS.out.take 300
  rw [← ht] at hr2 ⊢
  have R2 := Lib.hid hr2
  clear hr2 ht HS HD
  go_wp2_with fail
  refine (msame_c A B c d s t _ R1.out R2.out).mono ?_
  rintro e w2 ⟨rfl, rfl⟩
  go_wp2_with fail
  refine (same_c A B c d s t _ R1.out R2.out).mono ?_
  rintro e w2 ⟨rfl, rfl⟩
  obtain ⟨q, hq⟩ : ∃ q, q = decide (s = t) := ⟨_, rfl⟩
  rw [← hq]
  clear hq
  go_wp2_with fail
  refine (bytes_c A c s _ (by have := HSL.out; omega) R1.out).mono ?_
  rintro e w1 ⟨v, rfl, ho1, hb1⟩
  obtain ⟨A1, c1, rfl, hc1, hr1⟩ := ho1.reads (by have := HSL.out; omega)
  have HO := Lib.hid hr1; have HB1 := Lib.hid hb1
  clear ho1 hc1 hr1 hb1
  go_wp2_with fail
  refine (msame_c A A1 c c1 s s _ (R1.out.below HB1.out) HO.out).mono ?_
  rintro e w2 ⟨rfl, rfl⟩
  rw [decide_eq_true (rfl : s = s)]
  go_wp2_with fail
  refine (works5_c _ (HT.out.below HB1.out)).mono ?_
  rintro e w3 ⟨rfl, hb3⟩
  go_wp2
  go_ret
  exact ⟨rfl, HB1.out.trans (hb3.mono HB1.out.size)⟩
end Go.Proofs.YtoophccelcbbfaaDoor
