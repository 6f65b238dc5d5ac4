/-
  store: the walk of Newest.
-/
import Derived.Test.YtinomleiihbfiaaDoorSto10
set_option linter.unusedVariables false
set_option linter.unusedSimpArgs false
namespace Go.Proofs.YtinomleiihbfiaaDoor
open Go.RowKit

def newestS (s : Sen.Sto) : Int × List UInt8 × Int :=
  if s.gone then (0, [], 8) else
    match Sen.readRec s.size (Sen.place s 0), Sen.readRec s.size (Sen.place s 1) with
    | none, none => (0, [], 170)
    | some (x, b), none => (x, b, 0)
    | none, some (y, c) => (y, c, 0)
    | some (x, b), some (y, c) => if x < y then (y, c, 0) else (x, b, 0)
def NewPost (w : World) (o : Int × List UInt8 × Int) (e : Ending) (w' : World) : Prop :=
  Below w.heap.size w w' ∧ ∃ A c, e = .returned (.tuple #[.int .i64 o.1, .slice A o.2.1.length c, .int .i64 o.2.2]) ∧ RB w' A o.2.1 ∧ ∀ ad, A = some ad → w.heap.size ≤ ad.block
theorem NewPost.err {w w' : World} {e : Ending} (n : Int) (he : e = .returned (.tuple #[.int .i64 0, .slice none 0 0, .int .i64 n])) (hb : Below w.heap.size w w') : NewPost w (0, [], n) e w' :=
  ⟨hb, none, 0, he, RB.nil _ _, fun ad h => by cases h⟩
set_option maxRecDepth 100000 in
set_option maxHeartbeats 4000000 in
theorem newest_c (p g : Nat) (s : Sen.Sto) (w : World) (h : StA w p g s) (hT : Tab w) :
    Calls Tryd.prog 10 #[.pointer (some ⟨p, 0, none⟩)] w (NewPost w (newestS s)) := by
  obtain ⟨_, _, c2, _, _⟩ := h.cells
  have H := Lib.hid h; have HT := Lib.hid hT
  cases hgone : s.gone with
  | true =>
    rw [show newestS s = (0, [], 8) by unfold newestS; rw [if_pos hgone]]
    rw [hgone] at c2
    clear h hT hgone
    go_enter Tryd.func10, Tryd.ntmps10
    go_wp2_with (go_at_call 25; refine (is_c p g s _ H.out).mono ?_; rintro e w' ⟨rfl, rfl⟩)
    go_ret3
    exact NewPost.err 8 rfl (Below.refl _ _)
  | false =>
    have hns : newestS s = match Sen.readRec s.size (Sen.place s 0), Sen.readRec s.size (Sen.place s 1) with
      | none, none => (0, [], 170)
      | some (x, b), none => (x, b, 0)
      | none, some (y, c) => (y, c, 0)
      | some (x, b), some (y, c) => if x < y then (y, c, 0) else (x, b, 0) := by
      unfold newestS
      rw [if_neg (by rw [hgone]; decide)]
    rw [hgone] at c2
    have hrc := fun (k O C : Nat) (hO : O = k * s.size) (hC : C = 2 * s.size - k * s.size) (hk : k < 2) w' (hb : Below w.heap.size w w') => (show Calls Tryd.prog 23 #[.pointer (some ⟨p, 0, none⟩), .slice (some ⟨g, O, none⟩) s.size C] w' (RecPost w' (Sen.readRec s.size (Sen.place s k))) by
      subst hO hC
      exact record_c p g s (some ⟨g, k * s.size, none⟩) (2 * s.size - k * s.size) (Sen.place s k) w' (h.below hb) (h.place k hk).2.1 (h.place k hk).2.2 ((h.place k hk).1.below hb) (hT.below hb))
    have hpc := fun (k O C : Nat) (hO : O = k * s.size) (hC : C = 2 * s.size - k * s.size) (hk : k < 2) w' (hb : Below w.heap.size w w') => (show Calls Tryd.prog 24 #[.pointer (some ⟨p, 0, none⟩), .int .i64 ((k : Nat) : Int)] w' (fun e w'' => e = .returned (.slice (some ⟨g, O, none⟩) s.size C) ∧ ∃ m, w'' = w'.drewN m) by
      subst hO hC
      have := place_c p g s k (by omega) w' (h.below hb)
      rw [Nat.mod_eq_of_lt hk] at this
      exact this)
    obtain ⟨O0, hO0⟩ : ∃ O, O = 0 * s.size := ⟨_, rfl⟩
    obtain ⟨C0, hC0⟩ : ∃ C, C = 2 * s.size - 0 * s.size := ⟨_, rfl⟩
    obtain ⟨O1, hO1⟩ : ∃ O, O = 1 * s.size := ⟨_, rfl⟩
    obtain ⟨C1, hC1⟩ : ∃ C, C = 2 * s.size - 1 * s.size := ⟨_, rfl⟩
    have hr0 := hrc 0 O0 C0 hO0 hC0 (by decide)
    have hr1 := hrc 1 O1 C1 hO1 hC1 (by decide)
    have hp0 := hpc 0 O0 C0 hO0 hC0 (by decide)
    have hp1 := hpc 1 O1 C1 hO1 hC1 (by decide)
    rw [show ((0 : Nat) : Int) = 0 from rfl] at hp0
    rw [show ((1 : Nat) : Int) = 1 from rfl] at hp1
    rw [hns]
    obtain ⟨R0, hR0⟩ : ∃ R0, R0 = Sen.readRec s.size (Sen.place s 0) := ⟨_, rfl⟩
    obtain ⟨R1, hR1⟩ : ∃ R1, R1 = Sen.readRec s.size (Sen.place s 1) := ⟨_, rfl⟩
    rw [← hR0] at hr0 ⊢
    rw [← hR1] at hr1 ⊢
    obtain ⟨S, hS⟩ : ∃ S, S = s.size := ⟨_, rfl⟩
    rw [← hS] at hr0 hr1 hp0 hp1
    have HP0 := Lib.hid hp0; have HP1 := Lib.hid hp1; have HR0 := Lib.hid hr0; have HR1 := Lib.hid hr1
    clear h hT hgone hns hrc hpc hr0 hr1 hp0 hp1 hR0 hR1 hO0 hC0 hO1 hC1 hS
    cases R0 with
    | none =>
      cases R1 with
      | none =>
        go_enter Tryd.func10, Tryd.ntmps10
        go_wp2_with (go_at_call 25; refine (is_c p g s _ H.out).mono ?_; rintro e w' ⟨rfl, rfl⟩)
        refine wp_loop_rounds 3 ?_
        rw [rounds_succ]
        go_wp2_with fail
        refine (HP0.out _ (Below.refl _ _)).mono ?_
        rintro e w1 ⟨rfl, q, rfl⟩
        go_wp2_with fail
        refine (HR0.out _ (below_drewN (Below.refl _ _) q)).mono ?_
        rintro e w2 ⟨hb2, hn2, _⟩
        obtain rfl := hn2 rfl
        clear hn2
        have HB2 := Lib.hid ((below_drewN (Below.refl _ _) q).trans hb2)
        clear hb2
        go_wp2
        rw [rounds_succ]
        go_wp2_with fail
        refine (HP1.out _ HB2.out).mono ?_
        rintro e w3 ⟨rfl, q3, rfl⟩
        go_wp2_with fail
        refine (HR1.out _ (below_drewN HB2.out q3)).mono ?_
        rintro e w4 ⟨hb4, hn4, _⟩
        obtain rfl := hn4 rfl
        clear hn4
        have HB4 := Lib.hid ((below_drewN HB2.out q3).trans (hb4.mono (below_drewN HB2.out q3).size))
        clear hb4
        go_wp2
        rw [rounds_succ]
        go_wp2
        go_ret3
        exact NewPost.err 170 rfl HB4.out
      | some yc =>
        obtain ⟨y, c⟩ := yc
        go_enter Tryd.func10, Tryd.ntmps10
        go_wp2_with (go_at_call 25; refine (is_c p g s _ H.out).mono ?_; rintro e w' ⟨rfl, rfl⟩)
        refine wp_loop_rounds 3 ?_
        rw [rounds_succ]
        go_wp2_with fail
        refine (HP0.out _ (Below.refl _ _)).mono ?_
        rintro e w1 ⟨rfl, q, rfl⟩
        go_wp2_with fail
        refine (HR0.out _ (below_drewN (Below.refl _ _) q)).mono ?_
        rintro e w2 ⟨hb2, hn2, _⟩
        obtain rfl := hn2 rfl
        clear hn2
        have HB2 := Lib.hid ((below_drewN (Below.refl _ _) q).trans hb2)
        clear hb2
        go_wp2
        rw [rounds_succ]
        go_wp2_with fail
        refine (HP1.out _ HB2.out).mono ?_
        rintro e w3 ⟨rfl, q3, rfl⟩
        go_wp2_with fail
        refine (HR1.out _ (below_drewN HB2.out q3)).mono ?_
        rintro e w4 ⟨hb4, _, hs4⟩
        obtain ⟨A4, c4', rfl, hr4, hge4⟩ := hs4 y c rfl
        clear hs4
        have HRC := Lib.hid hr4; have HGC : Hid (∀ ad, A4 = some ad → w.heap.size ≤ ad.block) := Lib.hid (fun ad had => Nat.le_trans HB2.out.size (hge4 ad had))
        have HB4 := Lib.hid ((below_drewN HB2.out q3).trans (hb4.mono (below_drewN HB2.out q3).size))
        clear hb4 hr4 hge4
        go_wp2
        rw [rounds_succ]
        go_wp2
        go_ret3
        exact ⟨HB4.out, A4, c4', rfl, HRC.out, HGC.out⟩
    | some xb =>
      obtain ⟨x, b⟩ := xb
      cases R1 with
      | none =>
        go_enter Tryd.func10, Tryd.ntmps10
        go_wp2_with (go_at_call 25; refine (is_c p g s _ H.out).mono ?_; rintro e w' ⟨rfl, rfl⟩)
        refine wp_loop_rounds 3 ?_
        rw [rounds_succ]
        go_wp2_with fail
        refine (HP0.out _ (Below.refl _ _)).mono ?_
        rintro e w1 ⟨rfl, q, rfl⟩
        go_wp2_with fail
        refine (HR0.out _ (below_drewN (Below.refl _ _) q)).mono ?_
        rintro e w2 ⟨hb2, _, hs2⟩
        obtain ⟨A2, c2', rfl, hr2, hge2⟩ := hs2 x b rfl
        clear hs2
        have HRB := Lib.hid hr2; have HGB : Hid (∀ ad, A2 = some ad → w.heap.size ≤ ad.block) := Lib.hid hge2
        clear hr2 hge2
        have HB2 := Lib.hid ((below_drewN (Below.refl _ _) q).trans hb2)
        clear hb2
        go_wp2
        rw [rounds_succ]
        go_wp2_with fail
        refine (HP1.out _ HB2.out).mono ?_
        rintro e w3 ⟨rfl, q3, rfl⟩
        go_wp2_with fail
        refine (HR1.out _ (below_drewN HB2.out q3)).mono ?_
        rintro e w4 ⟨hb4, hn4, _⟩
        obtain rfl := hn4 rfl
        clear hn4
        have HRB4 := Lib.hid ((HRB.out.drewN q3).below hb4)
        have HB4 := Lib.hid ((below_drewN HB2.out q3).trans (hb4.mono (below_drewN HB2.out q3).size))
        clear hb4
        go_wp2
        rw [rounds_succ]
        go_wp2
        go_ret3
        exact ⟨HB4.out, A2, c2', rfl, HRB4.out, HGB.out⟩
      | some yc =>
        obtain ⟨y, c⟩ := yc
        by_cases hxy : x < y
        · rw [show (match some (x, b), some (y, c) with | none, none => ((0, [], 170) : Int × List UInt8 × Int) | some (x, b), none => (x, b, 0) | none, some (y, c) => (y, c, 0) | some (x, b), some (y, c) => if x < y then (y, c, 0) else (x, b, 0)) = ((y : Int), c, 0) by simp [hxy]]
          go_enter Tryd.func10, Tryd.ntmps10
          go_wp2_with (go_at_call 25; refine (is_c p g s _ H.out).mono ?_; rintro e w' ⟨rfl, rfl⟩)
          refine wp_loop_rounds 3 ?_
          rw [rounds_succ]
          go_wp2_with fail
          refine (HP0.out _ (Below.refl _ _)).mono ?_
          rintro e w1 ⟨rfl, q, rfl⟩
          go_wp2_with fail
          refine (HR0.out _ (below_drewN (Below.refl _ _) q)).mono ?_
          rintro e w2 ⟨hb2, _, hs2⟩
          obtain ⟨A2, c2', rfl, hr2, hge2⟩ := hs2 x b rfl
          clear hs2
          have HRB := Lib.hid hr2; have HGB : Hid (∀ ad, A2 = some ad → w.heap.size ≤ ad.block) := Lib.hid hge2
          clear hr2 hge2
          have HB2 := Lib.hid ((below_drewN (Below.refl _ _) q).trans hb2)
          clear hb2
          go_wp2
          rw [rounds_succ]
          go_wp2_with fail
          refine (HP1.out _ HB2.out).mono ?_
          rintro e w3 ⟨rfl, q3, rfl⟩
          go_wp2_with fail
          refine (HR1.out _ (below_drewN HB2.out q3)).mono ?_
          rintro e w4 ⟨hb4, _, hs4⟩
          obtain ⟨A4, c4', rfl, hr4, hge4⟩ := hs4 y c rfl
          clear hs4
          have HRC := Lib.hid hr4; have HGC : Hid (∀ ad, A4 = some ad → w.heap.size ≤ ad.block) := Lib.hid (fun ad had => Nat.le_trans HB2.out.size (hge4 ad had))
          have HRB4 := Lib.hid ((HRB.out.drewN q3).below hb4)
          have HB4 := Lib.hid ((below_drewN HB2.out q3).trans (hb4.mono (below_drewN HB2.out q3).size))
          clear hb4 hr4 hge4
          go_wp2
          rw [rounds_succ]
          go_wp2
          go_ret3
          exact ⟨HB4.out, A4, c4', rfl, HRC.out, HGC.out⟩
        · rw [show (match some (x, b), some (y, c) with | none, none => ((0, [], 170) : Int × List UInt8 × Int) | some (x, b), none => (x, b, 0) | none, some (y, c) => (y, c, 0) | some (x, b), some (y, c) => if x < y then (y, c, 0) else (x, b, 0)) = ((x : Int), b, 0) by simp [hxy]]
          go_enter Tryd.func10, Tryd.ntmps10
          go_wp2_with (go_at_call 25; refine (is_c p g s _ H.out).mono ?_; rintro e w' ⟨rfl, rfl⟩)
          refine wp_loop_rounds 3 ?_
          rw [rounds_succ]
          go_wp2_with fail
          refine (HP0.out _ (Below.refl _ _)).mono ?_
          rintro e w1 ⟨rfl, q, rfl⟩
          go_wp2_with fail
          refine (HR0.out _ (below_drewN (Below.refl _ _) q)).mono ?_
          rintro e w2 ⟨hb2, _, hs2⟩
          obtain ⟨A2, c2', rfl, hr2, hge2⟩ := hs2 x b rfl
          clear hs2
          have HRB := Lib.hid hr2; have HGB : Hid (∀ ad, A2 = some ad → w.heap.size ≤ ad.block) := Lib.hid hge2
          clear hr2 hge2
          have HB2 := Lib.hid ((below_drewN (Below.refl _ _) q).trans hb2)
          clear hb2
          go_wp2
          rw [rounds_succ]
          go_wp2_with fail
          refine (HP1.out _ HB2.out).mono ?_
          rintro e w3 ⟨rfl, q3, rfl⟩
          go_wp2_with fail
          refine (HR1.out _ (below_drewN HB2.out q3)).mono ?_
          rintro e w4 ⟨hb4, _, hs4⟩
          obtain ⟨A4, c4', rfl, hr4, hge4⟩ := hs4 y c rfl
          clear hs4
          have HRC := Lib.hid hr4; have HGC : Hid (∀ ad, A4 = some ad → w.heap.size ≤ ad.block) := Lib.hid (fun ad had => Nat.le_trans HB2.out.size (hge4 ad had))
          have HRB4 := Lib.hid ((HRB.out.drewN q3).below hb4)
          have HB4 := Lib.hid ((below_drewN HB2.out q3).trans (hb4.mono (below_drewN HB2.out q3).size))
          clear hb4 hr4 hge4
          go_wp2
          rw [rounds_succ]
          go_wp2
          go_ret3
          exact ⟨HB4.out, A2, c2', rfl, HRB4.out, HGB.out⟩
end Go.Proofs.YtinomleiihbfiaaDoor
