/-
  store: the walks of Get, Put, Cut, Power, Image, Writes, Make.
-/
import Derived.Test.YtinomleiihbfiaaDoorSto2
import Derived.Test.YtinomleiihbfiaaDoorSto3
import Derived.Test.YtinomleiihbfiaaDoorSto6
set_option linter.unusedVariables false
set_option linter.unusedSimpArgs false
namespace Go.Proofs.YtinomleiihbfiaaDoor
open Go.RowKit

def getS (s : Sen.Sto) (n : Int) : List UInt8 × Int :=
  if n < 0 ∨ 1048576 < n then ([], 2) else if s.gone then ([], 8) else
    match Sen.readRec s.size (Sen.place s (n.toNat % 2)) with
    | some (x, b) => if x = n.toNat then (b, 0) else ([], 5)
    | none => ([], 5)
def GetPost (w : World) (o : List UInt8 × Int) (e : Ending) (w' : World) : Prop :=
  Below w.heap.size w w' ∧ ∃ A c, e = .returned (.tuple #[.slice A o.1.length c, .int .i64 o.2]) ∧ RB w' A o.1 ∧ ∀ ad, A = some ad → w.heap.size ≤ ad.block
theorem GetPost.err {w w' : World} {e : Ending} (n : Int) (he : e = .returned (.tuple #[.slice none 0 0, .int .i64 n])) (hb : Below w.heap.size w w') : GetPost w ([], n) e w' :=
  ⟨hb, none, 0, he, RB.nil _ _, fun ad h => by cases h⟩
/-- The bytes of a place, as they are read. -/
theorem StA.place {w : World} {p g : Nat} {s : Sen.Sto} (h : StA w p g s) (k : Nat) (hk : k < 2) : RB w (some ⟨g, k * s.size, none⟩) (Sen.place s k) ∧ (Sen.place s k).length = s.size ∧ s.size ≤ 2 * s.size - k * s.size := by
  have hks : k * s.size + s.size ≤ 2 * s.size := by
    obtain rfl | rfl : k = 0 ∨ k = 1 := by omega
    all_goals omega
  refine ⟨h.bytes (k * s.size) s.size hks, ?_, by omega⟩
  unfold Sen.place
  rw [List.length_take, List.length_drop, h.ok.len]
  omega
set_option maxRecDepth 100000 in
set_option maxHeartbeats 2000000 in
theorem get_c (p g : Nat) (s : Sen.Sto) (n : Int) (w : World) (h : StA w p g s) (hT : Tab w) :
    Calls Tryd.prog 9 #[.pointer (some ⟨p, 0, none⟩), .int .i64 n] w (GetPost w (getS s n)) := by
  obtain ⟨_, _, c2, _, _⟩ := h.cells
  have hm := may_c p g s n w h
  have H := Lib.hid h; have HT := Lib.hid hT
  by_cases h1 : n < 0 ∨ 1048576 < n
  · rw [if_pos h1] at hm
    have HM := Lib.hid hm
    rw [show getS s n = ([], 2) by unfold getS; rw [if_pos h1]]
    clear hm h hT h1
    go_enter Tryd.func9, Tryd.ntmps9
    go_wp2_with fail
    refine HM.out.mono ?_
    rintro e w1 ⟨rfl, rfl⟩
    go_wp2
    go_ret2
    exact GetPost.err 2 rfl (Below.refl _ _)
  · rw [if_neg h1] at hm
    have HM := Lib.hid hm
    cases hgone : s.gone with
    | true =>
      rw [show getS s n = ([], 8) by unfold getS; rw [if_neg h1, if_pos hgone]]
      rw [hgone] at c2
      clear hm h hT h1 hgone
      go_enter Tryd.func9, Tryd.ntmps9
      go_wp2_with fail
      refine HM.out.mono ?_
      rintro e w1 ⟨rfl, rfl⟩
      go_wp2
      go_ret2
      exact GetPost.err 8 rfl (Below.refl _ _)
    | false =>
      obtain ⟨k, rfl⟩ : ∃ k : Nat, n = k := ⟨n.toNat, by omega⟩
      have hk : k ≤ 1048576 := by omega
      have hgs : getS s (k : Int) = match Sen.readRec s.size (Sen.place s (k % 2)) with | some (x, b) => if x = k then (b, 0) else ([], 5) | none => ([], 5) := by
        unfold getS
        rw [if_neg h1, if_neg (by rw [hgone]; decide), Int.toNat_natCast]
      rw [hgone] at c2
      obtain ⟨hrb, hpl, hcc⟩ := h.place (k % 2) (by omega)
      have hrc := fun w' (hb : Below w.heap.size w w') => record_c p g s (some ⟨g, k % 2 * s.size, none⟩) (2 * s.size - k % 2 * s.size) (Sen.place s (k % 2)) w' (h.below hb) hpl hcc (hrb.below hb) (hT.below hb)
      have hpc := place_c p g s k hk w h
      obtain ⟨RR, hRR⟩ : ∃ RR, RR = Sen.readRec s.size (Sen.place s (k % 2)) := ⟨_, rfl⟩
      rw [← hRR] at hgs hrc
      rw [hgs]
      have HRC := Lib.hid hrc; have HPC := Lib.hid hpc
      clear hm h hT h1 hgone hgs hrb hpl hcc hrc hpc hRR
      cases RR with
      | none =>
        go_enter Tryd.func9, Tryd.ntmps9
        go_wp2_with fail
        refine HM.out.mono ?_
        rintro e w1 ⟨rfl, rfl⟩
        go_wp2_with fail
        refine HPC.out.mono ?_
        rintro e w1 ⟨rfl, q, rfl⟩
        go_wp2_with fail
        refine (HRC.out _ (below_drewN (Below.refl _ _) q)).mono ?_
        rintro e w2 ⟨hb2, hn2, _⟩
        obtain rfl := hn2 rfl
        clear hn2
        have HB2 := Lib.hid ((below_drewN (Below.refl _ _) q).trans hb2)
        clear hb2
        go_wp2
        go_ret2
        exact GetPost.err 5 rfl HB2.out
      | some xb =>
        obtain ⟨x, b⟩ := xb
        by_cases hxk : x = k
        · subst hxk
          rw [show (match some (x, b) with | some (x', b) => if x' = x then ((b, 0) : List UInt8 × Int) else ([], 5) | none => ([], 5)) = (b, 0) by simp]
          go_enter Tryd.func9, Tryd.ntmps9
          go_wp2_with fail
          refine HM.out.mono ?_
          rintro e w1 ⟨rfl, rfl⟩
          go_wp2_with fail
          refine HPC.out.mono ?_
          rintro e w1 ⟨rfl, q, rfl⟩
          go_wp2_with fail
          refine (HRC.out _ (below_drewN (Below.refl _ _) q)).mono ?_
          rintro e w2 ⟨hb2, _, hs2⟩
          obtain ⟨A2, c2', rfl, hr2, hge2⟩ := hs2 x b rfl
          clear hs2
          have HB2 := Lib.hid ((below_drewN (Below.refl _ _) q).trans hb2); have HR2 := Lib.hid hr2; have HGE := Lib.hid hge2
          clear hb2 hr2 hge2
          go_wp2
          go_ret2
          exact ⟨HB2.out, A2, c2', rfl, HR2.out, HGE.out⟩
        · rw [show (match some (x, b) with | some (x', b) => if x' = k then ((b, 0) : List UInt8 × Int) else ([], 5) | none => ([], 5)) = ([], 5) by simp [hxk]]
          have tx : ((x : Int) != (k : Int)) = true := by simp; omega
          go_enter Tryd.func9, Tryd.ntmps9
          go_wp2_with fail
          refine HM.out.mono ?_
          rintro e w1 ⟨rfl, rfl⟩
          go_wp2_with fail
          refine HPC.out.mono ?_
          rintro e w1 ⟨rfl, q, rfl⟩
          go_wp2_with fail
          refine (HRC.out _ (below_drewN (Below.refl _ _) q)).mono ?_
          rintro e w2 ⟨hb2, _, hs2⟩
          obtain ⟨A2, c2', rfl, hr2, hge2⟩ := hs2 x b rfl
          clear hs2
          have HB2 := Lib.hid ((below_drewN (Below.refl _ _) q).trans hb2)
          clear hb2 hr2 hge2
          go_wp2
          go_ret2
          exact GetPost.err 5 rfl HB2.out
end Go.Proofs.YtinomleiihbfiaaDoor
