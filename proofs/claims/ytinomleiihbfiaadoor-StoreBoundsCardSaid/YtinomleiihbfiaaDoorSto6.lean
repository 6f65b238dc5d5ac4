/-
  store: the walk of record.
-/
import Derived.Test.YtinomleiihbfiaaDoorSto5
import Derived.Test.YtinomleiihbfiaaDoorMac2
set_option linter.unusedVariables false
set_option linter.unusedSimpArgs false
namespace Go.Proofs.YtinomleiihbfiaaDoor
open Go.RowKit

theorem msame_n (A B : Option Addr) (c d n m : Nat) (a b : List UInt8) (hn : n = a.length) (hm : m = b.length) (w : World) (hA : RB w A a) (hB : RB w B b) :
    Calls Tryd.prog 31 #[.slice A n c, .slice B m d] w fun e w' => e = .returned (.bool (decide (a = b))) ∧ w = w' := by
  subst hn hm
  exact msame_c A B c d a b w hA hB
def RecPost (w : World) (r : Option (Nat × List UInt8)) (e : Ending) (w' : World) : Prop :=
  Below w.heap.size w w' ∧ (r = none → e = .returned (.tuple #[.int .i64 0, .slice none 0 0, .bool false])) ∧
    ∀ x b, r = some (x, b) → ∃ A c, e = .returned (.tuple #[.int .i64 ((x : Nat) : Int), .slice A b.length c, .bool true]) ∧ RB w' A b ∧ ∀ ad, A = some ad → w.heap.size ≤ ad.block
theorem RecPost.none {w w' : World} {e : Ending} (he : e = .returned (.tuple #[.int .i64 0, .slice none 0 0, .bool false])) (hb : Below w.heap.size w w') : RecPost w none e w' := ⟨hb, fun _ => he, fun _ _ h => by cases h⟩
set_option maxRecDepth 100000 in
set_option maxHeartbeats 4000000 in
theorem record_c (p g : Nat) (s : Sen.Sto) (A : Option Addr) (c : Nat) (pb : List UInt8) (w : World) (h : StA w p g s) (hpb : pb.length = s.size) (hc : s.size ≤ c) (hR : RB w A pb) (hT : Tab w) :
    Calls Tryd.prog 23 #[.pointer (some ⟨p, 0, none⟩), .slice A s.size c] w (RecPost w (Sen.readRec s.size pb)) := by
  have hlo := h.ok.lo
  have hhi := h.ok.hi
  have H := Lib.hid h; have HR := Lib.hid hR; have HT := Lib.hid hT; have HP := Lib.hid hpb
  obtain ⟨S, hS⟩ : ∃ S, S = s.size := ⟨_, rfl⟩
  have HS := Lib.hid hS
  rw [← hS] at hlo hhi hc ⊢
  clear h hR hT hpb hS
  have e1 := fun W => run_slice_to A S c 8 (by omega) W
  rw [show ((8 : Nat) : Int) = 8 from rfl] at e1
  have e2 := fun W => run_slice_lh A S c 8 16 (by decide) (by omega) W
  rw [show ((8 : Nat) : Int) = 8 from rfl, show ((16 : Nat) : Int) = 16 from rfl, show 16 - 8 = 8 from rfl] at e2
  obtain ⟨A8, hA8⟩ : ∃ A8, A8 = cutA A c 8 := ⟨_, rfl⟩
  obtain ⟨c8, hc8⟩ : ∃ c8, c8 = c - 8 := ⟨_, rfl⟩
  rw [← hA8, ← hc8] at e2
  have r1 : RB w A (pb.take 8) := HR.out.take 8
  have r2 : RB w A8 ((pb.drop 8).take 8) := by rw [hA8]; exact HR.out.cut c 8 8 (by rw [HP.out, ← HS.out]; exact hc) (by rw [HP.out, ← HS.out]; omega)
  have q1 := readint_c A c (pb.take 8) (by rw [List.length_take, HP.out, ← HS.out]; omega) w r1
  have q2 := readint_c A8 c8 ((pb.drop 8).take 8) (by rw [List.length_take, List.length_drop, HP.out, ← HS.out]; omega) w r2
  have hrec : Sen.readRec S pb = if 0 ≤ Sen.rd8 (pb.take 8) ∧ Sen.rd8 (pb.take 8) ≤ 1048576 ∧ 0 ≤ Sen.rd8 ((pb.drop 8).take 8) ∧ Sen.rd8 ((pb.drop 8).take 8) ≤ (S : Int) - 32 then
    if Sen.sealB (pb.take (16 + (Sen.rd8 ((pb.drop 8).take 8)).toNat)) = pb.take (32 + (Sen.rd8 ((pb.drop 8).take 8)).toNat) then
      some ((Sen.rd8 (pb.take 8)).toNat, (pb.drop 16).take (Sen.rd8 ((pb.drop 8).take 8)).toNat)
    else none
  else none := rfl
  obtain ⟨E, hE⟩ : ∃ E, E = Sen.rd8 (pb.take 8) := ⟨_, rfl⟩
  obtain ⟨N, hN⟩ : ∃ N, N = Sen.rd8 ((pb.drop 8).take 8) := ⟨_, rfl⟩
  rw [← hE, ← hN] at hrec
  rw [← hE] at q1
  rw [← hN] at q2
  rw [hrec]
  have Q1 := Lib.hid q1; have Q2 := Lib.hid q2
  clear q1 q2 hE hN hrec r1 r2 hA8 hc8
  by_cases hgood : 0 ≤ E ∧ E ≤ 1048576 ∧ 0 ≤ N ∧ N ≤ (S : Int) - 32
  · rw [if_pos hgood]
    obtain ⟨g1, g2, g3, g4⟩ := hgood
    obtain ⟨x, rfl⟩ : ∃ x : Nat, E = x := ⟨E.toNat, by omega⟩
    obtain ⟨m, rfl⟩ : ∃ m : Nat, N = m := ⟨N.toNat, by omega⟩
    rw [Int.toNat_natCast, Int.toNat_natCast]
    have hm : m + 32 ≤ S := by omega
    have e3 := fun W => run_slice_to A S c (16 + m) (by omega) W
    rw [show ((16 + m : Nat) : Int) = 16 + (m : Int) by omega] at e3
    have e4 := fun W => run_slice_to A S c (32 + m) (by omega) W
    rw [show ((32 + m : Nat) : Int) = 16 + (m : Int) + 16 by omega] at e4
    have e5 := fun W => run_slice_lh A S c 16 (16 + m) (by omega) (by omega) W
    rw [show ((16 + m : Nat) : Int) = 16 + (m : Int) by omega, show ((16 : Nat) : Int) = 16 from rfl, show 16 + m - 16 = m by omega] at e5
    obtain ⟨A16, hA16⟩ : ∃ A16, A16 = cutA A c 16 := ⟨_, rfl⟩
    obtain ⟨c16, hc16⟩ : ∃ c16, c16 = c - 16 := ⟨_, rfl⟩
    rw [← hA16, ← hc16] at e5
    have hPl : pb.length = S := by rw [HP.out, ← HS.out]
    have r3 := HR.out.take (16 + m)
    have r4 := HR.out.take (32 + m)
    have r5 : RB w A16 ((pb.drop 16).take m) := by rw [hA16]; exact HR.out.cut c 16 m (by omega) (by omega)
    have l3 : 16 + m = (pb.take (16 + m)).length := by rw [List.length_take]; omega
    have l4 : 32 + m = (pb.take (32 + m)).length := by rw [List.length_take]; omega
    have l5 : m = ((pb.drop 16).take m).length := by rw [List.length_take, List.length_drop]; omega
    obtain ⟨T1, hT1⟩ : ∃ T1, T1 = pb.take (16 + m) := ⟨_, rfl⟩
    obtain ⟨T2, hT2⟩ : ∃ T2, T2 = pb.take (32 + m) := ⟨_, rfl⟩
    obtain ⟨T3, hT3⟩ : ∃ T3, T3 = (pb.drop 16).take m := ⟨_, rfl⟩
    rw [← hT1] at r3 l3
    rw [← hT2] at r4 l4
    rw [← hT3] at r5 l5
    rw [← hT1, ← hT2, ← hT3]
    obtain ⟨RR, hRR⟩ : ∃ RR, RR = (if Sen.sealB T1 = T2 then some (x, T3) else none) := ⟨_, rfl⟩
    rw [← hRR]
    have HRR := Lib.hid hRR
    clear hRR
    have R3 := Lib.hid r3; have R4 := Lib.hid r4; have R5 := Lib.hid r5; have L3 := Lib.hid l3; have L4 := Lib.hid l4; have L5 := Lib.hid l5
    clear hT1 hT2 hT3 r3 r4 r5 l3 l4 l5 hA16 hc16 hPl
    go_enter Tryd.func23, Tryd.ntmps23
    go_wp2_with fail
    refine Q1.out.mono ?_
    rintro e w1 ⟨rfl, rfl⟩
    go_wp2_with fail
    refine Q2.out.mono ?_
    rintro e w1 ⟨rfl, rfl⟩
    go_wp2_with (first | (go_at_call 17; refine (room_c p g s _ H.out).mono ?_; rw [← HS.out]; rintro e w' ⟨rfl, rfl⟩) | (at_builtin; refine app_bytes (.tmp 40) (.tmp 44) w.heap.size [] T1 rfl rfl (.slice (some ⟨w.heap.size, 0, none⟩) 0 0) _ _ _ rfl rfl L3.out (Own.new _ _ (Nat.le_refl _)) (R3.out.below (below_alloc (Below.refl _ _) _)) (by simp) (by rw [← L3.out]; simp; omega) ?_; intro v2 w2 ho2 hb2; have HO2 := Lib.hid ho2; have HB2 := Lib.hid ((below_alloc (Below.refl _ _) _).trans hb2); clear ho2 hb2))
    have ho2 := HO2.out
    rw [List.nil_append] at ho2
    obtain ⟨A2, c2, rfl, hc2, hr2⟩ := ho2.reads (by rw [← L3.out]; omega)
    have HR2 := Lib.hid hr2; have HC2 := Lib.hid hc2
    clear ho2 hr2 hc2 HO2
    refine Last.region_hold (fun _ => True) [0, 2, 3, 4, 5, 6] [1, 7, 8] [7, 8] (by kernel_rfl) (by kernel_rfl) (fun d _ _ _ _ h => by cases d <;> exact h) trivial ?_
    refine Last.hold_move _ _ rfl rfl rfl ?_
    refine Last.hold_move _ _ rfl rfl rfl ?_
    refine Last.hold_move _ _ rfl rfl rfl ?_
    refine Last.hold_read _ (.int .i64 (16 + (m : Int))) rfl rfl (fun W' _ => ?_) ?_
    · go_simp; exact IntWalk.i64_in _ (by omega)
    refine Last.hold_read _ (.int .i64 (16 + (m : Int) + 16)) rfl rfl (fun W' _ => ?_) ?_
    · go_simp; exact IntWalk.i64_in _ (by omega)
    refine Last.hold_read _ (.slice A (32 + m) c) rfl rfl (fun W' _ => ?_) ?_
    · go_simp
    have hB2 := HB2.out
    have hse := sealed_c A2 c2 T1 HC2.out (by rw [← L3.out]; omega) (w2.drewN 1) (HR2.out.drewN 1) ((HT.out.below hB2).drewN 1)
    rw [← L3.out] at hse
    show Last.wpMid _ _ _ _ _ _ _ _
    refine Last.mid_call _ 29 #[.slice A2 (16 + m) c2] rfl rfl (by rw [L3.out]; kernel_rfl) ?_
    refine hse.mono ?_
    clear hse
    rintro e w3 ⟨A3, c3, rfl, hc3, hr3, hb3, hge3⟩
    refine ⟨_, rfl, fun _ _ => trivial, ?_⟩
    refine Last.mid_tail 7 (by kernel_rfl) (by decide) ?_
    simp only [List.drop_succ_cons, List.drop_zero]
    have hB3 : Below w.heap.size w w3 := hB2.trans ((below_drewN (Below.refl _ _) 1).trans hb3 |>.mono hB2.size)
    have HR3 := Lib.hid hr3; have HB3 := Lib.hid hB3
    clear hr3 hb3 hge3 hc3 hB2 hB3
    go_wp2_with fail
    refine (msame_n A3 A c3 c _ (32 + m) (Sen.sealB T1) T2 rfl L4.out w3 HR3.out (R4.out.below HB3.out)).mono ?_
    rintro e w4 ⟨rfl, rfl⟩
    by_cases heq : Sen.sealB T1 = T2
    · rw [decide_eq_true heq]
      have hres := Lib.hid (show RR = some (x, T3) by rw [HRR.out, if_pos heq])
      clear heq
      go_wp2_with (at_builtin; refine app_bytes (.tmp 56) (.tmp 60) w3.heap.size [] T3 rfl rfl (.slice (some ⟨w3.heap.size, 0, none⟩) 0 0) _ _ _ rfl rfl L5.out (Own.new _ _ (Nat.le_refl _)) (R5.out.below (HB3.out.trans ((below_alloc (Below.refl _ _) _).mono HB3.out.size))) (by simp) (by rw [← L5.out]; simp; omega) ?_; intro v5 w5 ho5 hb5)
      rw [List.nil_append] at ho5
      obtain ⟨A5, c5, rfl, hc5, hr5, hge5⟩ := ho5.reads2' (by rw [← L5.out]; omega)
      go_ret3
      refine ⟨HB3.out.trans (((below_alloc (Below.refl _ _) _).trans hb5).mono HB3.out.size), fun h => (by rw [hres.out] at h; cases h), fun x' b' h => ?_⟩
      rw [hres.out] at h
      injection h with h
      injection h with h1 h2
      subst h1 h2
      exact ⟨A5, c5, rfl, hr5, fun ad had => Nat.le_trans HB3.out.size (hge5 ad had)⟩
    · rw [decide_eq_false heq]
      have hres := Lib.hid (show RR = none by rw [HRR.out, if_neg heq])
      clear heq
      go_wp2
      go_ret3
      exact ⟨HB3.out, fun _ => rfl, fun x' b' h => by rw [hres.out] at h; cases h⟩
  · rw [if_neg hgood]
    have hbad : E < 0 ∨ (0 ≤ E ∧ 1048576 < E) ∨ (0 ≤ E ∧ E ≤ 1048576 ∧ N < 0) ∨ (0 ≤ E ∧ E ≤ 1048576 ∧ 0 ≤ N ∧ (S : Int) - 32 < N) := by omega
    clear hgood
    rcases hbad with b1 | ⟨b1, b2⟩ | ⟨b1, b2, b3⟩ | ⟨b1, b2, b3, b4⟩
    all_goals
      go_enter Tryd.func23, Tryd.ntmps23
      go_wp2_with fail
      refine Q1.out.mono ?_
      rintro e w1 ⟨rfl, rfl⟩
      go_wp2_with fail
      refine Q2.out.mono ?_
      rintro e w1 ⟨rfl, rfl⟩
      go_wp2_with (go_at_call 17; refine (room_c p g s _ H.out).mono ?_; rw [← HS.out]; rintro e w' ⟨rfl, rfl⟩)
      go_ret3
      exact RecPost.none rfl (Below.refl _ _)
end Go.Proofs.YtinomleiihbfiaaDoor
