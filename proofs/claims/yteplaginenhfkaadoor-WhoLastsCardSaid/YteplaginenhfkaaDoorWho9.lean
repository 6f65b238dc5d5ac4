/-
  who: the walk of Check.
-/
import Derived.Test.YteplaginenhfkaaDoorWho8
set_option linter.unusedVariables false
set_option linter.unusedSimpArgs false
namespace Go.Proofs.YteplaginenhfkaaDoor
open Go.RowKit

def checkS (L : List Ent) (nm : ByteArray) (t now sk : Int) (pr : List UInt8) : Int × Int :=
  if [t, now, sk].all okTime = false then (0, 2) else
    match findE L nm with
    | none => (6, 0)
    | some x => if (proofS x.key nm t).1 ≠ pr then (24, 0) else if sk < t - now ∨ sk < now - t then (37, 0) else (0, 0)
def CheckPost (w : World) (o : Int × Int) (e : Ending) (w' : World) : Prop := e = .returned (.tuple #[.int .i64 o.1, .int .i64 o.2]) ∧ Below w.heap.size w w'
theorem CheckPost.mk {w w' : World} {o : Int × Int} {a b : Int} (h : o = (a, b)) (hb : Below w.heap.size w w') : CheckPost w o (.returned (.tuple #[.int .i64 a, .int .i64 b])) w' := by
  subst h
  exact ⟨rfl, hb⟩
theorem ri_three {w : World} {g : Nat} {x y z : Int} (h : w.heap[g]? = some (.cells #[.int .i64 x, .int .i64 y, .int .i64 z] 3 (0, 0))) : RI w (some ⟨g, 0, none⟩) [x, y, z] := fun i hi => by
  refine ⟨g, 0, rfl, ?_⟩
  rw [Nat.zero_add, cell_of_row w g _ _ _ _ h]
  have : i = 0 ∨ i = 1 ∨ i = 2 := by simp at hi; omega
  rcases this with rfl | rfl | rfl <;> rfl
set_option maxRecDepth 100000 in
set_option maxHeartbeats 4000000 in
theorem check_c (B p mp : Nat) (v : Value) (L : List Ent) (nm : ByteArray) (t now sk : Int) (A : Option Addr) (d : Nat) (pr : List UInt8) (w : World) (h : BkA w B p mp v L) (hn : nm.size ≤ 1000000) (hA : RB w A pr) (hT : Tab w) :
    Calls Tryd.prog 14 #[.pointer (some ⟨p, 0, none⟩), .string nm, .int .i64 t, .int .i64 now, .int .i64 sk, .slice A pr.length d] w (CheckPost w (checkS L nm t now sk pr)) := by
  have H := Lib.hid h; have HNM := Lib.hid hn; have HA := Lib.hid hA; have HT := Lib.hid hT
  have hz := zeroPers
  have hcs : checkS L nm t now sk pr = if [t, now, sk].all okTime = false then ((0, 2) : Int × Int) else
    match findE L nm with
    | none => (6, 0)
    | some x => if (proofS x.key nm t).1 ≠ pr then (24, 0) else if sk < t - now ∨ sk < now - t then (37, 0) else (0, 0) := rfl
  obtain ⟨X, hX⟩ : ∃ X, X = w.alloc (.cells #[.int .i64 t, .int .i64 now, .int .i64 sk] 3) := ⟨_, rfl⟩
  have HX := Lib.hid hX
  have BX := Lib.hid (show Below w.heap.size w X by rw [hX]; exact below_alloc (Below.refl _ _) _)
  have HRI := Lib.hid (show RI X (some ⟨w.heap.size, 0, none⟩) [t, now, sk] by rw [hX]; exact ri_three (blk_new _ rfl))
  have BKX := Lib.hid (H.out.below BX.out)
  clear h hn hA hT hX
  rw [hcs]
  clear hcs
  cases c1 : [t, now, sk].all okTime with
  | false =>
    rw [if_pos rfl]
    go_enter Tryd.func14, Tryd.ntmps14
    go_wp2_with fail
    refine (book_is p mp w H.out.cells.1).mono ?_
    rintro e w1 ⟨rfl, rfl⟩
    go_wp2_with fail
    rw [← HX.out]
    refine (times_c (some ⟨w.heap.size, 0, none⟩) 3 3 [t, now, sk] rfl (by decide) X HRI.out).mono ?_
    rw [c1]
    rintro e w1 ⟨rfl, rfl⟩
    go_wp2
    go_ret2
    exact ⟨rfl, BX.out⟩
  | true =>
    rw [if_neg (by decide)]
    have hcx := BKX.out.cells.1
    cases hf : findE L nm with
    | none =>
      have hlk := (run_look BKX.out.map nm).1
      rw [hf, show lookV L nm = noneV by unfold lookV; rw [hf]; rfl] at hlk
      unfold noneV persV at hlk
      simp only [Option.isSome_none] at hlk
      clear hf
      go_enter Tryd.func14, Tryd.ntmps14
      go_wp2_with fail
      refine (book_is p mp w H.out.cells.1).mono ?_
      rintro e w1 ⟨rfl, rfl⟩
      go_wp2_with fail
      rw [← HX.out]
      refine (times_c (some ⟨w.heap.size, 0, none⟩) 3 3 [t, now, sk] rfl (by decide) X HRI.out).mono ?_
      rw [c1]
      rintro e w1 ⟨rfl, rfl⟩
      go_wp2_with (with_reducible refine wpList_store_any rfl 50 _ _ rfl X.heap.size [.string ByteArray.empty, .slice none 0 0, .int .i64 0, .int .i64 0, .int .i64 0] rfl rfl 50 _ (blk_new _ rfl) 5 (by kernel_rfl) rfl rfl (by simp [Value.oneCell']) ?_ rfl)
      go_ret2
      exact ⟨rfl, BX.out.trans ((below_setRow (below_alloc (Below.refl _ _) _) (Nat.le_refl _) _).mono BX.out.size)⟩
    | some x =>
      have hmem : x ∈ L := List.mem_of_find?_eq_some hf
      obtain ⟨k1, k2, k3⟩ := BKX.out.keys x hmem
      have hlk := (run_look BKX.out.map nm).1
      rw [hf, show lookV L nm = x.val by unfold lookV; rw [hf]; rfl] at hlk
      obtain ⟨xn, blk, cap, key, fl, li, re⟩ := x
      unfold Ent.val persV at hlk
      simp only [Option.isSome_some] at hlk
      have hpc := fun W (hW : Below X.heap.size X W) => proof_c (some ⟨blk, 0, none⟩) cap key nm t W HNM.out (k1.below hW) (HT.out.below (BX.out.trans (hW.mono BX.out.size)))
      rw [show key.length = 16 from k2] at hpc
      simp only
      obtain ⟨⟨pb, pi⟩, hpo⟩ : ∃ po, po = proofS key nm t := ⟨_, rfl⟩
      rw [← hpo] at hpc ⊢
      simp only
      obtain ⟨o, ho⟩ : ∃ o : Int × Int, o = if pb ≠ pr then (24, 0) else if sk < t - now ∨ sk < now - t then (37, 0) else (0, 0) := ⟨_, rfl⟩
      rw [← ho]
      have HO := Lib.hid ho
      have hbd : (0 ≤ t ∧ t ≤ 1099511627776) ∧ (0 ≤ now ∧ now ≤ 1099511627776) ∧ (0 ≤ sk ∧ sk ≤ 1099511627776) := by
        simpa [okTime] using c1
      obtain ⟨⟨q1, q2⟩, ⟨q3, q4⟩, q5, q6⟩ := hbd
      clear ho
      have HPC := Lib.hid hpc
      clear hf hmem k1 k2 k3 hpc hpo
      obtain ⟨Y, hY⟩ : ∃ Y, Y = (X.alloc (.cells #[.string ByteArray.empty, .slice none 0 0, .int .i64 0, .int .i64 0, .int .i64 0] 50)).setRow X.heap.size [Value.string xn, .slice (some ⟨blk, 0, none⟩) 16 cap, .int .i64 fl, .int .i64 li, .int .i64 re].toArray := ⟨_, rfl⟩
      have HBY := Lib.hid (show Below X.heap.size X Y by rw [hY]; exact below_setRow (below_alloc (Below.refl _ _) _) (Nat.le_refl _) _)
      have hrow : Y.heap[X.heap.size]? = some (.cells #[Value.string xn, .slice (some ⟨blk, 0, none⟩) 16 cap, .int .i64 fl, .int .i64 li, .int .i64 re] 50 (0, 0)) := by rw [hY]; exact setRow_heap _ _ _ _ _ _ (blk_new _ rfl)
      have y1 := cell_of_row Y X.heap.size 1 _ _ _ hrow
      simp at y1
      have HY := Lib.hid hY
      clear hY hrow
      go_enter Tryd.func14, Tryd.ntmps14
      go_wp2_with fail
      refine (book_is p mp w H.out.cells.1).mono ?_
      rintro e w1 ⟨rfl, rfl⟩
      go_wp2_with fail
      rw [← HX.out]
      refine (times_c (some ⟨w.heap.size, 0, none⟩) 3 3 [t, now, sk] rfl (by decide) X HRI.out).mono ?_
      rw [c1]
      rintro e w1 ⟨rfl, rfl⟩
      go_wp2_with (with_reducible refine wpList_store_any rfl 50 _ _ rfl X.heap.size [.string xn, .slice (some ⟨blk, 0, none⟩) 16 cap, .int .i64 fl, .int .i64 li, .int .i64 re] rfl rfl 50 _ (blk_new _ rfl) 5 (by kernel_rfl) rfl rfl (by simp [Value.oneCell']) ?_ rfl; rw [← HY.out])
      refine (HPC.out Y HBY.out).mono ?_
      rintro e w3 ⟨hb3, A3, c3, rfl, _, hr3, _⟩
      have B3 := Lib.hid (BX.out.trans ((HBY.out.trans (hb3.mono HBY.out.size)).mono BX.out.size)); have R3 := Lib.hid hr3
      clear hb3 hr3
      go_wp2_with fail
      refine (msame_c A3 A c3 d pb pr w3 R3.out (HA.out.below B3.out)).mono ?_
      rintro e w4 ⟨rfl, rfl⟩
      have hb3 := B3.out
      obtain ⟨dq, hdq⟩ : ∃ dq, dq = decide (pb = pr) := ⟨_, rfl⟩
      rw [← hdq]
      have HDQ := Lib.hid hdq
      clear hdq
      cases dq with
      | false =>
        go_wp2
        go_ret2
        exact CheckPost.mk (by rw [HO.out, if_pos (by have := HDQ.out; simpa using this)]) hb3
      | true =>
        go_wp2
        all_goals
          go_ret2
          refine CheckPost.mk ?_ hb3
          rw [HO.out, if_neg (by have := HDQ.out; simpa using this)]
          first | rw [if_pos (by omega)] | rw [if_neg (by omega)]
end Go.Proofs.YteplaginenhfkaaDoor
