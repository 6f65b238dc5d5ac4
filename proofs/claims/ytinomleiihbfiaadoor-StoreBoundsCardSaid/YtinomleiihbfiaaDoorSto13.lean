/-
  store: the chapter's example (law17.works), and begun.
-/
import Derived.Test.YtinomleiihbfiaaDoorSto12
set_option linter.unusedVariables false
set_option linter.unusedSimpArgs false
namespace Go.Proofs.YtinomleiihbfiaaDoor
open Go.RowKit

def cutS (s : Sen.Sto) (n : Nat) : Sen.Sto := { s with left := (n : Int) }
theorem pair_eq (r : Sen.Sto × Int) (c : Int) (h : r.2 = c) : r = (r.1, c) := by rw [← h]
def wS1 : Sen.Sto := (putS (newS 64) 3 [7]).1
def wS3 : Sen.Sto := (putS (cutS wS1 10) 4 [8, 9]).1
theorem works_1 : (putS (newS 64) 3 [7]).2 = 0 := by decide +kernel
theorem works_2 : decide (wS1.written ≤ 1000) = true := by decide +kernel
theorem works_3 : newestS wS1 = (3, [7], 0) := by decide +kernel
theorem works_4 : (putS (cutS wS1 10) 4 [8, 9]).2 = 8 := by decide +kernel
theorem works_5 : newestS (powS wS3) = (3, [7], 0) := by decide +kernel
theorem works_plain : ∃ s1 s3, putS (newS 64) 3 [7] = (s1, 0) ∧ s1.written ≤ 1000 ∧ newestS s1 = (3, [7], 0) ∧ putS (cutS s1 10) 4 [8, 9] = (s3, 8) ∧ newestS (powS s3) = (3, [7], 0) :=
  ⟨wS1, wS3, pair_eq _ _ works_1, of_decide_eq_true works_2, works_3, pair_eq _ _ works_4, works_5⟩
/-! ### The calls, with what they leave named -/
def StPost (w : World) (p g : Nat) (s : Sen.Sto) (c : Int) (e : Ending) (w' : World) : Prop := e = .returned (.int .i64 c) ∧ StA w' p g s ∧ Below (min p g) w w'
theorem PutPost.st {B p g : Nat} {w w' : World} {r : Sen.Sto × Int} {e : Ending} (h : PutPost w p g r e w') (hB : B ≤ w.heap.size) (hp : B ≤ p) (hg : B ≤ g) : e = .returned (.int .i64 r.2) ∧ StA w' p g r.1 ∧ Below B w w' :=
  ⟨h.1, h.2.1, Only.below (Below.refl _ _) h.2.2 hp hg hB⟩
theorem put_e (B p g : Nat) (s s' : Sen.Sto) (n cd : Int) (A : Option Addr) (c m : Nat) (b : List UInt8) (w : World) (he : putS s n b = (s', cd)) (h : StA w p g s) (hT : Tab w) (hR : RB w A b) (hm : m = b.length) (hb : b.length ≤ 1000000) (hwr : s.written ≤ 1000000) (hB : B ≤ w.heap.size) (hp : B ≤ p) (hg : B ≤ g) :
    Calls Tryd.prog 11 #[.pointer (some ⟨p, 0, none⟩), .int .i64 n, .slice A m c] w fun e w' => e = .returned (.int .i64 cd) ∧ StA w' p g s' ∧ Below B w w' := by
  subst hm
  refine (put_c p g s n A c b w h hT hR hb hwr).mono fun e w' hq => ?_
  have := PutPost.st hq hB hp hg
  rw [he] at this
  exact this
set_option maxRecDepth 100000 in
set_option maxHeartbeats 4000000 in
theorem works_c (w : World) (hT : Tab w) : Calls Tryd.prog 8 #[] w fun e w' => e = .returned (.bool true) ∧ Below w.heap.size w w' := by
  obtain ⟨s1, s3, q1, q2, q3, q4, q5⟩ := works_plain
  obtain ⟨s0, hs0⟩ : ∃ s0, s0 = newS 64 := ⟨_, rfl⟩
  rw [← hs0] at q1
  have Q1 := Lib.hid q1; have Q2 := Lib.hid q2; have Q3 := Lib.hid q3; have Q4 := Lib.hid q4; have Q5 := Lib.hid q5
  have HT := Lib.hid hT; have HSZ := Lib.hid (show s0.size = 64 by rw [hs0]; rfl); have HW0 := Lib.hid (show s0.written ≤ 1000000 by rw [hs0]; exact Nat.zero_le _)
  have HS0 := Lib.hid hs0
  obtain ⟨l7, hl7⟩ : ∃ l, l = ([7] : List UInt8) := ⟨_, rfl⟩
  obtain ⟨l89, hl89⟩ : ∃ l, l = ([8, 9] : List UInt8) := ⟨_, rfl⟩
  have H7 := Lib.hid hl7; have H89 := Lib.hid hl89
  clear q1 q2 q3 q4 q5 hT hs0 hl7 hl89
  go_enter Tryd.func8, Tryd.ntmps8
  go_wp2_with fail
  refine (make_c 64 (by decide) (by decide) w).mono ?_
  rintro e w1 ⟨p, g, rfl, hp, hg, hst, hb⟩
  rw [← HS0.out] at hst
  have HP := Lib.hid hp; have HG := Lib.hid hg; have ST1 := Lib.hid hst; have HB1 := Lib.hid hb
  clear hp hg hst hb
  go_wp2_with fail
  have hro := room_c p g s0 w1 ST1.out
  rw [HSZ.out] at hro
  refine hro.mono ?_
  clear hro
  rintro e w1' ⟨rfl, rfl⟩
  go_wp2_with fail
  have hB2 : Below w.heap.size w (w1.alloc (.cells #[.int .u8 7] 5)) := below_alloc HB1.out _
  have hr7 : RB (w1.alloc (.cells #[.int .u8 7] 5)) (some ⟨w1.heap.size, 0, none⟩) l7 := by rw [H7.out]; exact rb_of_row (l := [7]) (blk_new _ rfl) (by decide)
  refine (put_e w.heap.size p g s0 s1 3 0 (some ⟨w1.heap.size, 0, none⟩) 1 1 l7 _ (by rw [H7.out]; exact Q1.out) (ST1.out.below (below_alloc (Below.refl _ _) _)) (HT.out.below hB2) hr7 (by rw [H7.out]; rfl) (by rw [H7.out]; decide) HW0.out hB2.size HP.out HG.out).mono ?_
  rintro e w2 ⟨rfl, hst2, hb2⟩
  have ST2 := Lib.hid hst2; have HB2 := Lib.hid (hB2.trans hb2)
  clear hB2 hr7 hst2 hb2
  go_wp2_with fail
  refine (newest_c p g s1 w2 ST2.out (HT.out.below HB2.out)).mono ?_
  rw [Q3.out]
  rintro e w3 ⟨hb3, A3, c3, rfl, hr3, hge3⟩
  have ST3 := Lib.hid (ST2.out.below hb3); have HB3 := Lib.hid (HB2.out.trans (hb3.mono HB2.out.size)); have HR3 := Lib.hid (show RB w3 A3 l7 by rw [H7.out]; exact hr3)
  have hlt2 := ST2.out.lt
  have HA3 := Lib.hid (show ∀ ad, A3 = some ad → ad.block ≠ p ∧ ad.block ≠ g from fun ad had => by have := hge3 ad had; omega)
  clear hb3 hr3 hge3 hlt2
  go_wp2_with fail
  refine (cut_c p g s1 10 (by decide) w3 ST3.out).mono ?_
  rintro e w4 ⟨rfl, hst4, hon4⟩
  have ST4 := Lib.hid (show StA w4 p g (cutS s1 10) from hst4); have HB4 := Lib.hid (Only.below HB3.out hon4 HP.out HG.out HB3.out.size); have HR4 := Lib.hid (HR3.out.only hon4 HA3.out)
  clear hst4 hon4
  go_wp2_with fail
  have hB5 : Below w.heap.size w (w4.alloc (.cells #[.int .u8 8, .int .u8 9] 5)) := below_alloc HB4.out _
  have hr9 : RB (w4.alloc (.cells #[.int .u8 8, .int .u8 9] 5)) (some ⟨w4.heap.size, 0, none⟩) l89 := by rw [H89.out]; exact rb_of_row (l := [8, 9]) (blk_new _ rfl) (by decide)
  refine (put_c p g (cutS s1 10) 4 (some ⟨w4.heap.size, 0, none⟩) 2 [8, 9] _ (ST4.out.below (below_alloc (Below.refl _ _) _)) (HT.out.below hB5) (by rw [← H89.out]; exact hr9) (by decide) (Nat.le_trans Q2.out (by decide))).mono ?_
  rw [Q4.out]
  rintro e w5 ⟨rfl, hst5, hon5⟩
  have ST5 := Lib.hid (show StA w5 p g s3 from hst5); have HB5 := Lib.hid (Only.below hB5 hon5 HP.out HG.out hB5.size); have HR5 := Lib.hid ((HR4.out.below (below_alloc (Below.refl _ _) _)).only hon5 HA3.out)
  clear hst5 hon5 hB5 hr9
  go_wp2_with fail
  refine (power_c p g s3 w5 ST5.out).mono ?_
  rintro e w6 ⟨rfl, hst6, hon6⟩
  have ST6 := Lib.hid (show StA w6 p g (powS s3) from hst6); have HB6 := Lib.hid (Only.below HB5.out hon6 HP.out HG.out HB5.out.size); have HR6 := Lib.hid (HR5.out.only hon6 HA3.out)
  clear hst6 hon6
  go_wp2_with fail
  refine (newest_c p g (powS s3) w6 ST6.out (HT.out.below HB6.out)).mono ?_
  rw [Q5.out]
  rintro e w7 ⟨hb7, A7, c7, rfl, hr7, _⟩
  have HR7 := Lib.hid (HR6.out.below hb7); have HB7 := Lib.hid (HB6.out.trans (hb7.mono HB6.out.size))
  clear hb7 hr7
  go_wp2_with fail
  have hB8 : Below w.heap.size w (w7.alloc (.cells #[.int .u8 7] 5)) := below_alloc HB7.out _
  refine (same_c A3 (some ⟨w7.heap.size, 0, none⟩) c3 1 [7] [7] _ (by rw [← H7.out]; exact HR7.out.below (below_alloc (Below.refl _ _) _)) (rb_of_row (l := [7]) (blk_new _ rfl) (by decide))).mono ?_
  rw [decide_eq_true rfl]
  rintro e w8 ⟨rfl, rfl⟩
  have HB8 := Lib.hid hB8
  clear hB8
  go_wp2
  go_ret
  exact ⟨rfl, HB8.out⟩
end Go.Proofs.YtinomleiihbfiaaDoor
