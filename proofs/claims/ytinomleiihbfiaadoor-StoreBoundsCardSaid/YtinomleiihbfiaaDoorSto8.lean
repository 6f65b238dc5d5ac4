/-
  store: the walk of Put.
-/
import Derived.Test.YtinomleiihbfiaaDoorSto7
set_option linter.unusedVariables false
set_option linter.unusedSimpArgs false
namespace Go.Proofs.YtinomleiihbfiaaDoor
open Go.RowKit

def putS (s : Sen.Sto) (n : Int) (b : List UInt8) : Sen.Sto × Int :=
  if n < 0 ∨ 1048576 < n then (s, 2) else if (s.size : Int) - 32 < (b.length : Int) then (s, 3) else if s.gone then (s, 8) else
    (Sen.wrote s (n.toNat % 2 * s.size) (Sen.recB n.toNat b), if Sen.fits s (Sen.recB n.toNat b) then 0 else 8)
def PutPost (w : World) (p g : Nat) (r : Sen.Sto × Int) (e : Ending) (w' : World) : Prop := e = .returned (.int .i64 r.2) ∧ StA w' p g r.1 ∧ Only p g w w'
set_option maxRecDepth 100000 in
set_option maxHeartbeats 2000000 in
theorem put_c (p g : Nat) (s : Sen.Sto) (n : Int) (A : Option Addr) (c : Nat) (b : List UInt8) (w : World) (h : StA w p g s) (hT : Tab w) (hR : RB w A b) (hb : b.length ≤ 1000000) (hwr : s.written ≤ 1000000) :
    Calls Tryd.prog 11 #[.pointer (some ⟨p, 0, none⟩), .int .i64 n, .slice A b.length c] w (PutPost w p g (putS s n b)) := by
  obtain ⟨_, _, c2, _, _⟩ := h.cells
  have hlo := h.ok.lo
  have hhi := h.ok.hi
  have hm := may_c p g s n w h
  have hro := fun w' (hw : Below w.heap.size w w') => room_c p g s w' (h.below hw)
  obtain ⟨L, hL⟩ : ∃ L, L = b.length := ⟨_, rfl⟩
  have H := Lib.hid h; have HT := Lib.hid hT; have HR := Lib.hid hR; have HLb := Lib.hid hL
  rw [← hL] at hb ⊢
  obtain ⟨S, hS⟩ : ∃ S, S = s.size := ⟨_, rfl⟩
  rw [← hS] at hro hlo hhi
  have HS := Lib.hid hS
  have HRO := Lib.hid hro
  by_cases h1 : n < 0 ∨ 1048576 < n
  · rw [if_pos h1] at hm
    have HM := Lib.hid hm
    rw [show putS s n b = (s, 2) by unfold putS; rw [if_pos h1]]
    clear hm h hT h1 hR hL hro hS
    go_enter Tryd.func11, Tryd.ntmps11
    go_wp2_with fail
    refine HM.out.mono ?_
    rintro e w1 ⟨rfl, rfl⟩
    go_wp2
    go_ret
    exact ⟨rfl, H.out, Only.refl _ _ _⟩
  · rw [if_neg h1] at hm
    have HM := Lib.hid hm
    by_cases h2 : (S : Int) - 32 < (L : Int)
    · rw [show putS s n b = (s, 3) by unfold putS; rw [if_neg h1, ← hL, ← hS, if_pos h2]]
      clear hm h hT h1 hR hL hro hS
      go_enter Tryd.func11, Tryd.ntmps11
      go_wp2_with fail
      refine HM.out.mono ?_
      rintro e w1 ⟨rfl, rfl⟩
      go_wp2_with fail
      refine (HRO.out _ (Below.refl _ _)).mono ?_
      rintro e w1 ⟨rfl, rfl⟩
      go_wp2
      go_ret
      exact ⟨rfl, H.out, Only.refl _ _ _⟩
    · cases hgone : s.gone with
      | true =>
        rw [show putS s n b = (s, 8) by unfold putS; rw [if_neg h1, ← hL, ← hS, if_neg h2, if_pos hgone]]
        rw [hgone] at c2
        clear hm h hT h1 hR hL hro hS hgone
        go_enter Tryd.func11, Tryd.ntmps11
        go_wp2_with fail
        refine HM.out.mono ?_
        rintro e w1 ⟨rfl, rfl⟩
        go_wp2_with fail
        refine (HRO.out _ (Below.refl _ _)).mono ?_
        rintro e w1 ⟨rfl, rfl⟩
        go_wp2
        go_ret
        exact ⟨rfl, H.out, Only.refl _ _ _⟩
      | false =>
        obtain ⟨k, rfl⟩ : ∃ k : Nat, n = k := ⟨n.toNat, by omega⟩
        have hk : k ≤ 1048576 := by omega
        have hL2 : L + 32 ≤ S := by omega
        have hps : putS s (k : Int) b = (Sen.wrote s (k % 2 * S) (Sen.recB k b), if Sen.fits s (Sen.recB k b) then 0 else 8) := by
          unfold putS
          rw [if_neg h1, ← hL, ← hS, if_neg h2, if_neg (by rw [hgone]; decide), Int.toNat_natCast]
        have hpc := fun w' (hw : Below w.heap.size w w') => place_c p g s k hk w' (h.below hw)
        rw [← hS] at hpc
        have HG := Lib.hid hgone
        have hrl : (Sen.recB k b).length = 32 + L := by rw [Sen.recB_length, ← hL]
        have hhl : (Sen.headB k b).length = 16 + L := by rw [Sen.headB_length, ← hL]
        have hhd : Sen.headB k b = Sen.be64 k ++ Sen.be64 L ++ b := by rw [hL]; rfl
        rw [hgone] at c2
        rw [hps]
        obtain ⟨CD, hCD⟩ : ∃ CD : Int, CD = (if Sen.fits s (Sen.recB k b) then 0 else 8) := ⟨_, rfl⟩
        rw [← hCD]
        have HCD := Lib.hid hCD
        clear hCD
        have HPC := Lib.hid hpc; have HRL := Lib.hid hrl; have HHL := Lib.hid hhl; have HHD := Lib.hid hhd
        clear hm h hT h1 hR hL hro hS hgone hps hpc hrl hhl hhd
        go_enter Tryd.func11, Tryd.ntmps11
        go_wp2_with fail
        refine HM.out.mono ?_
        rintro e w1 ⟨rfl, rfl⟩
        go_wp2_with fail
        refine (HRO.out _ (Below.refl _ _)).mono ?_
        rintro e w1 ⟨rfl, rfl⟩
        go_wp2_with fail
        refine (int_c k (by omega) w).mono ?_
        rintro e w1 ⟨A1, rfl, hr1, hb1⟩
        have HR1 := Lib.hid hr1; have HB1 := Lib.hid hb1
        clear hr1 hb1
        go_wp2_with fail
        refine (int_c L (by omega) w1).mono ?_
        rintro e w2 ⟨A2, rfl, hr2, hb2⟩
        have HR2 := Lib.hid hr2; have HB2 := Lib.hid (HB1.out.trans (hb2.mono HB1.out.size)); have HR1' := Lib.hid (HR1.out.below hb2)
        clear hr2 hb2
        go_wp2_with (first | (at_builtin; refine app_full (.tmp 29) (.tmp 32) (Sen.be64 k) (Sen.be64 L) rfl rfl _ _ 8 8 _ rfl rfl rfl rfl (by decide) HR1'.out HR2.out (by decide) ?_; intro v3 w3 ho3 hb3; have HO3 := Lib.hid ho3; have HB3 := Lib.hid (HB2.out.trans (hb3.mono HB2.out.size)); have hsz3 := hb3.size; clear ho3 hb3) |
          (at_builtin; refine app_bytes (.tmp 33) (.tmp 34) w2.heap.size (Sen.be64 k ++ Sen.be64 L) b rfl rfl v3 _ _ _ rfl rfl HLb.out HO3.out (HR.out.below HB3.out) hsz3 (by rw [List.length_append, Sen.be64_length, Sen.be64_length, ← HLb.out]; omega) ?_; intro v4 w4 ho4 hb4; have HO4 := Lib.hid ho4; have HB4 := Lib.hid (HB3.out.trans (hb4.mono HB2.out.size)); clear ho4 hb4))
        have ho4 := HO4.out
        rw [← HHD.out] at ho4
        obtain ⟨A4, c4, rfl, hc4, hr4⟩ := ho4.reads (by rw [HHL.out]; omega)
        have HR4 := Lib.hid hr4; have HC4 := Lib.hid hc4
        clear ho4 hr4 hc4 HO4 HO3 hsz3
        refine (HPC.out _ HB4.out).mono ?_
        rintro e w5 ⟨rfl, q, rfl⟩
        go_wp2_with fail
        have hB5 : Below w.heap.size w (w4.drewN q) := below_drewN HB4.out q
        refine (sealed_c A4 c4 (Sen.headB k b) HC4.out (by rw [HHL.out]; omega) (w4.drewN q) (HR4.out.drewN q) (HT.out.below hB5)).mono ?_
        rintro e w6 ⟨A6, c6, rfl, hc6, hr6, hb6, hge6⟩
        rw [show Sen.sealB (Sen.headB k b) = Sen.recB k b from rfl] at hr6 ⊢
        have hB6 : Below w.heap.size w w6 := hB5.trans (hb6.mono hB5.size)
        have HR6 := Lib.hid hr6; have HB6 := Lib.hid hB6
        have hlt := H.out.lt
        have hA6 : ∀ ad, A6 = some ad → ad.block ≠ p ∧ ad.block ≠ g := fun ad had => by
          have := hge6 ad had
          have := hB5.size
          omega
        have HA6 := Lib.hid hA6
        clear hc6 hr6 hb6 hge6 hB5 hB6 hlt hA6
        have hrl := HRL.out
        go_wp2_with fail
        have hwc := write_c p g s A6 c6 (Sen.recB k b) (k % 2) S (2 * S - k % 2 * S) w6 (H.out.below HB6.out) HG.out (by omega) HS.out (by rw [HRL.out, ← HS.out]; omega) hwr HR6.out HA6.out
        rw [HRL.out, ← HS.out] at hwc
        refine hwc.mono ?_
        clear hwc
        rintro e w7 ⟨⟨v, rfl, hok, hbad⟩, hst, hon⟩
        have HST := Lib.hid hst; have HON := Lib.hid ((Only.of_below HB6.out).trans hon)
        clear hst hon
        cases hf : Sen.fits s (Sen.recB k b) with
        | true =>
          rw [hf] at hok
          obtain rfl := hok rfl
          have E1 := Lib.hid (show CD = 0 by rw [HCD.out, hf]; rfl)
          clear hok hbad hf
          go_wp2_with fail
          refine (number_ok w7).mono ?_
          rintro e w8 ⟨rfl, rfl⟩
          go_wp2
          go_ret
          exact ⟨congrArg (fun z => Ending.returned (Value.int .i64 z)) E1.out.symm, HST.out, HON.out⟩
        | false =>
          rw [hf] at hbad
          obtain ⟨i, rfl⟩ := hbad rfl
          have E1 := Lib.hid (show CD = 8 by rw [HCD.out, hf]; rfl)
          clear hok hbad hf
          go_wp2_with fail
          refine (number_busy i w7).mono ?_
          rintro e w8 ⟨rfl, hb8⟩
          go_wp2
          go_ret
          exact ⟨congrArg (fun z => Ending.returned (Value.int .i64 z)) E1.out.symm, HST.out.below hb8, HON.out.trans (Only.of_below hb8)⟩
end Go.Proofs.YtinomleiihbfiaaDoor
