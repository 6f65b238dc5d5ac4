/-
  The walk of the statement MacBegins.
-/
import Derived.Test.YtoophccelcbbfaaDoorLawMacExpands
set_option linter.unusedVariables false
set_option linter.unusedSimpArgs false
namespace Go.Proofs.YtoophccelcbbfaaDoor
open Go.RowKit

theorem run_str_n {w : World} {A : Option Addr} {l : List UInt8} (h : RB w A l) (n c : Nat) (hn : n = l.length) : (convert 22 9 (.slice A n c)).run Tryd.prog w = .ok (.string (bstr l)) w := by subst hn; exact run_str h c
theorem begins_c (s t : ByteArray) (h : t.data.toList = s.data.toList.take t.size) (hle : t.size ≤ s.size) (hs : s.size ≤ 140737488351232) (w : World) :
    Calls Tryd.prog 39 #[.string s, .string t] w fun e w' => e = .returned (.bool true) ∧ w = w' := by
  have d0 : decide ((s.size : Int) ≥ (t.size : Int)) = true := by simp; omega
  have hsl : ∀ W, (Instr.slice 9 (.string s) none (some (.int .i64 (t.size : Int))) none).run Tryd.prog W = .ok (.string t) W := fun W => by
    have h1 := run_slice_string_h (P := Tryd.prog) W 9 s Tryd.underlying9 .i64 (t.size : Int) (by omega) (by omega)
    rw [h1]
    congr 2
    rw [Int.toNat_natCast]
    have : (s.extract 0 t.size).data.toList = t.data.toList := by rw [Lib.extract_data, h]; simp
    have h2 : (s.extract 0 t.size).data = t.data := Array.toList_inj.1 this
    cases hx : s.extract 0 t.size
    cases t
    rw [hx] at h2
    simp at h2
    rw [h2]
  go_enter Tryd.func39, Tryd.ntmps39
  go_wp2
  go_ret
  exact ⟨rfl, rfl⟩
set_option maxRecDepth 100000 in
set_option maxHeartbeats 4000000 in
theorem law_mac_begins (A : Option Addr) (c : Nat) (l : List UInt8) (s : ByteArray) (n m : Int) (w : World) (hc : l.length ≤ c) (hR : RB w A l) (hT : Tab w) :
    Calls Tryd.prog 12 #[.slice A l.length c, .string s, .int .i64 n, .int .i64 m] w fun e w' => e = .returned (.bool true) ∧ Below w.heap.size w w' := by
  have HT := Lib.hid hT
  obtain ⟨L, hL⟩ : ∃ L, L = l.length := ⟨_, rfl⟩
  obtain ⟨k, hk⟩ : ∃ k, k = l.take 300 := ⟨_, rfl⟩
  have r1 := hR.take 300
  rw [← hk] at r1
  have sk := fun W => short5_c A c l W hc hR.1
  rw [← hk, ← hL] at sk
  obtain ⟨K, hK⟩ : ∃ K, K = k.length := ⟨_, rfl⟩
  rw [← hK] at sk
  have hK3 : K ≤ 300 := by rw [hK, hk, List.length_take]; omega
  rw [← hL]
  have R1 := Lib.hid r1; have SK := Lib.hid sk; have HK := Lib.hid hK
  clear hc hR hT hL hk r1 sk hK
  obtain ⟨u, hu, hcase⟩ := short_str s
  have ac1 := fun W => among_c n 150 (by decide) (by decide) W
  have ac2 := fun W => among_c m 150 (by decide) (by decide) W
  have AC1 := Lib.hid ac1; have AC2 := Lib.hid ac2
  clear ac1 ac2
  rcases hcase with ⟨h1, hsl⟩ | ⟨h1, hsl⟩
  all_goals
    first
    | have hI : (if (100 : Int) < (s.size : Int) then (100 : Int) else (s.size : Int)) = 100 := if_pos (by omega)
    | have hI : (if (100 : Int) < (s.size : Int) then (100 : Int) else (s.size : Int)) = (s.size : Int) := if_neg (by omega)
    go_enter Tryd.func12, Tryd.ntmps12
    go_wp2_with fail
    refine (works5_c _ HT.out).mono ?_
    rintro e w1 ⟨rfl, hb1⟩
    have HB1 := Lib.hid hb1; have RA := Lib.hid (R1.out.below hb1); have HT1 := Lib.hid (HT.out.below hb1)
    clear hb1
    go_wp2_with fail
    refine region_class (fun w' => ∃ n, w' = w1.drewN n) (by kernel_rfl) ⟨_, rfl⟩ ?_
    repeat (quiet_step ((go_at_call 29; exact (SK.out _).mono fun _ _ h => ⟨h.1, _, h.2.symm⟩)))
    refine wpQuiet_nil ?_
    rintro _ ⟨nr, rfl⟩
    obtain ⟨W0, hW0⟩ : ∃ W0, W0 = w1.drewN nr := ⟨_, rfl⟩
    have hB0 : Below w1.heap.size w1 W0 := by rw [hW0]; exact below_drewN (Below.refl _ _) _
    rw [← hW0]
    clear hW0
    have HB0 := Lib.hid (HB1.out.trans (hB0.mono HB1.out.size)); have RA0 := Lib.hid (RA.out.below hB0); have HT0 := Lib.hid (HT1.out.below hB0)
    clear hB0 hsl h1 hI
    go_wp2_with fail
    refine (AC1.out W0).mono ?_
    rintro e w2 ⟨p, hp, rfl, rfl⟩
    go_wp2_with fail
    refine (AC2.out W0).mono ?_
    rintro e w2 ⟨q, hq, rfl, rfl⟩
    obtain ⟨lo, hi, hlo, hhi, hlh, hh⟩ : ∃ lo hi : Nat, lo = min p q ∧ hi = max p q ∧ lo ≤ hi ∧ hi < 150 := ⟨_, _, rfl, rfl, by omega, by omega⟩
    have hways : (p < q ∧ lo = p ∧ hi = q) ∨ (q < p ∧ lo = q ∧ hi = p) ∨ (p = q ∧ lo = q ∧ hi = q) := by omega
    clear hlo hhi
    rcases hways with ⟨h1, rfl, rfl⟩ | ⟨h1, rfl, rfl⟩ | ⟨rfl, rfl, h3⟩
    all_goals
      go_wp2_with fail
      have e1 := expand_c A c k u lo W0 (by rw [← HK.out]; omega) (by omega) (by omega) RA0.out HT0.out
      rw [← HK.out] at e1
      refine e1.mono ?_
      clear e1
      rintro e w2 ⟨A1, c1, rfl, hc1, hr1, hb2⟩
      have X1 := Lib.hid hr1; have HB2 := Lib.hid (HB0.out.trans (hb2.mono HB0.out.size)); have RA2 := Lib.hid (RA0.out.below hb2)
      clear hc1 hr1 hb2
      go_wp2_with fail
      have e2 := expand_c A c k u hi w2 (by rw [← HK.out]; omega) (by omega) (by omega) RA2.out (HT.out.below HB2.out)
      rw [← HK.out] at e2
      have hpre := Sen.expand_begins k u.data.toList lo hi hlh
      have hl1 := Sen.expand_length k u.data.toList lo
      have hl2 := Sen.expand_length k u.data.toList hi
      obtain ⟨E1, hE1⟩ : ∃ E1, E1 = Sen.expand k u.data.toList lo := ⟨_, rfl⟩
      obtain ⟨E2, hE2⟩ : ∃ E2, E2 = Sen.expand k u.data.toList hi := ⟨_, rfl⟩
      rw [← hE1] at hpre hl1
      rw [← hE2] at hpre hl2 e2
      have X1' := Lib.hid (show RB w2 A1 E1 by rw [hE1]; exact X1.out)
      have HPRE := Lib.hid hpre; have HL1 := Lib.hid hl1; have HL2 := Lib.hid hl2
      clear hE1 hE2 hpre hl1 hl2 X1
      try rw [h3] at e2
      refine e2.mono ?_
      clear e2
      rintro e w3 ⟨A2, c2, rfl, hc2, hr2, hb3⟩
      have s1 := run_str_n (X1'.out.below hb3) lo c1 HL1.out.symm
      have s2 := run_str_n hr2 hi c2 HL2.out.symm
      try rw [h3] at s2
      have HB3 := Lib.hid (HB2.out.trans (hb3.mono HB2.out.size))
      obtain ⟨T1, hT1⟩ : ∃ T1, T1 = bstr E1 := ⟨_, rfl⟩
      obtain ⟨T2, hT2⟩ : ∃ T2, T2 = bstr E2 := ⟨_, rfl⟩
      rw [← hT1] at s1
      rw [← hT2] at s2
      have z1 : T1.size = lo := by rw [hT1]; show E1.toArray.size = lo; rw [List.size_toArray]; exact HL1.out
      have z2 : T2.size = hi := by rw [hT2]; show E2.toArray.size = hi; rw [List.size_toArray]; exact HL2.out
      have hbg : T1.data.toList = T2.data.toList.take T1.size := by rw [z1, hT1, hT2]; simp only [bstr]; exact HPRE.out.symm
      have BG := Lib.hid (begins_c T2 T1 hbg (by omega) (by omega) w3)
      clear hc2 hr2 hb3 hT1 hT2 z1 z2 hbg
      go_wp2_with fail
      refine (BG.out).mono ?_
      rintro e w4 ⟨rfl, rfl⟩
      go_wp2
      go_ret
      exact ⟨rfl, HB3.out⟩
end Go.Proofs.YtoophccelcbbfaaDoor
