/-
  who: the walks of Find, Names; a book that no call made.
-/
import Derived.Test.YteplaginenhfkaaDoorWho6
import Derived.Laws.ResultCell
set_option linter.unusedVariables false
set_option linter.unusedSimpArgs false
namespace Go.Proofs.YteplaginenhfkaaDoor
open Go.RowKit

theorem results_row_tmp {fn : Func} {p u : Tmp} {ty : TypeId} (h : fn.results = #[.cell p ty, .tmp u]) (tmps : Array Value) (w : World) (g : Nat) (cs : Array Value)
    (hp : tmps.getD p undef = .pointer (some ⟨g, 0, none⟩)) (hl : (loadVar ty ⟨g, 0, none⟩).run Tryd.prog w = .ok (.agg cs) w) :
    (results fn tmps).run Tryd.prog w = .ok (.tuple #[.agg cs, tmps.getD u undef]) w := by
  rw [results_cell_tmp h, hp]
  simp only [asAddr, Sem.run_pure, Result.andThen_ok, hl]
theorem load_pers (w : World) (g : Nat) (cs : Array Value) (fr : Nat × Nat) (hg : w.heap[g]? = some (.cells cs 50 fr)) (hs : cs.size = 5) : (loadVar 50 ⟨g, 0, none⟩).run Tryd.prog w = .ok (.agg cs) w :=
  run_loadVar_row w g 50 50 cs fr _ hg Tryd.underlying50 rfl (by rw [hs]; kernel_rfl)
set_option maxRecDepth 100000 in
theorem names_v (P : Value) (w : World) (h : Nobook P w) : Calls Tryd.prog 28 #[P] w fun e w' => e = .returned (.slice none 0 0) ∧ w = w' := by
  have H := Lib.hid h
  clear h
  go_enter Tryd.func28, Tryd.ntmps28
  go_wp2_with fail
  refine H.out.mono ?_
  rintro e w1 ⟨rfl, rfl⟩
  go_wp2
  go_ret
  exact ⟨rfl, rfl⟩
/-- A pointer that tells of no book in every later world. -/
def NoB (P : Value) (w : World) : Prop := ∀ w', Below w.heap.size w w' → Nobook P w'
theorem noB_nil (w : World) : NoB (.pointer none) w := fun w' _ => nobook_nil w'
theorem noB_zero (p : Nat) (w : World) (h : w.cell? ⟨p, 0, none⟩ = some (.map none)) : NoB (.pointer (some ⟨p, 0, none⟩)) w := fun w' hb => nobook_zero p w' ((hb.cell (p := ⟨p, 0, none⟩) (World.block_lt_of_cell? w _ h)).trans h)
set_option maxRecDepth 100000 in
theorem find_v (P : Value) (s : ByteArray) (w : World) (h : NoB P w) : Calls Tryd.prog 26 #[P, .string s] w fun e w' => e = .returned (.tuple #[noneV, .int .i64 1]) ∧ Below w.heap.size w w' := by
  have H := Lib.hid h
  have hz := zeroPers
  clear h
  have hB : Below w.heap.size w (w.alloc (.cells #[.string ByteArray.empty, .slice none 0 0, .int .i64 0, .int .i64 0, .int .i64 0] 50)) := below_alloc (Below.refl _ _) _
  have HB := Lib.hid hB
  clear hB
  go_enter Tryd.func26, Tryd.ntmps26
  go_wp2_with fail
  refine (H.out _ HB.out).mono ?_
  rintro e w1 ⟨rfl, rfl⟩
  go_wp2_with (with_reducible refine wpList_store_any rfl 50 _ _ rfl w.heap.size [.string ByteArray.empty, .slice none 0 0, .int .i64 0, .int .i64 0, .int .i64 0] rfl rfl 50 _ (blk_new _ rfl) 5 (by kernel_rfl) rfl rfl (by simp [Value.oneCell']) ?_ rfl)
  refine bodyPost_ret (v := .tuple #[.agg #[.string ByteArray.empty, .slice none 0 0, .int .i64 0, .int .i64 0, .int .i64 0], .int .i64 1]) ?_ rfl ?_
  · exact (results_row_tmp (p := 4) (u := 5) (ty := 50) rfl _ _ w.heap.size #[.string ByteArray.empty, .slice none 0 0, .int .i64 0, .int .i64 0, .int .i64 0] rfl (load_pers _ _ _ (0, 0) (setRow_heap _ _ _ _ _ _ (blk_new _ rfl)) rfl)).trans rfl
  · exact ⟨rfl, below_setRow HB.out (Nat.le_refl _) _⟩
set_option maxRecDepth 100000 in
theorem add_v (P : Value) (s : ByteArray) (A : Option Addr) (n c : Nat) (fl li re : Int) (w : World) (h : NoB P w) : Calls Tryd.prog 25 #[P, persV s A n c fl li re] w fun e w' => e = .returned (.int .i64 1) ∧ Below w.heap.size w w' := by
  have H := Lib.hid h
  clear h
  unfold persV
  have HB := Lib.hid (show Below w.heap.size w (w.alloc (.cells #[.string s, .slice A n c, .int .i64 fl, .int .i64 li, .int .i64 re] 50)) from below_alloc (Below.refl _ _) _)
  go_enter Tryd.func25, Tryd.ntmps25
  go_wp2_with fail
  refine (H.out _ HB.out).mono ?_
  rintro e w1 ⟨rfl, rfl⟩
  go_wp2
  go_ret
  exact ⟨rfl, HB.out⟩
set_option maxRecDepth 100000 in
theorem check_v (P : Value) (s : ByteArray) (w : World) (h : NoB P w) : Calls Tryd.prog 14 #[P, .string s, .int .i64 0, .int .i64 0, .int .i64 0, .slice none 0 0] w fun e w' => e = .returned (.tuple #[.int .i64 0, .int .i64 1]) ∧ Below w.heap.size w w' := by
  have H := Lib.hid h
  clear h
  go_enter Tryd.func14, Tryd.ntmps14
  go_wp2_with fail
  refine (H.out _ (Below.refl _ _)).mono ?_
  rintro e w1 ⟨rfl, rfl⟩
  go_wp2
  go_ret2
  exact ⟨rfl, Below.refl _ _⟩
/-! ### Find -/
def FindPost (w : World) (L : List Ent) (s : ByteArray) (e : Ending) (w' : World) : Prop :=
  Below w.heap.size w w' ∧ (findE L s = none → e = .returned (.tuple #[noneV, .int .i64 5])) ∧
    ∀ x, findE L s = some x → ∃ A c, e = .returned (.tuple #[persV x.name A x.key.length c x.fl x.li x.re, .int .i64 0]) ∧ RB w' A x.key ∧ ∀ ad, A = some ad → w.heap.size ≤ ad.block
set_option maxRecDepth 100000 in
set_option maxHeartbeats 2000000 in
theorem find_c (B p mp : Nat) (v : Value) (L : List Ent) (s : ByteArray) (w : World) (h : BkA w B p mp v L) : Calls Tryd.prog 26 #[.pointer (some ⟨p, 0, none⟩), .string s] w (FindPost w L s) := by
  have H := Lib.hid h
  have hz := zeroPers
  clear h
  obtain ⟨X, hX⟩ : ∃ X, X = w.alloc (.cells #[.string ByteArray.empty, .slice none 0 0, .int .i64 0, .int .i64 0, .int .i64 0] 50) := ⟨_, rfl⟩
  have HX := Lib.hid hX
  have BX := Lib.hid (show Below w.heap.size w X by rw [hX]; exact below_alloc (Below.refl _ _) _)
  have RX := Lib.hid (show X.heap[w.heap.size]? = some (.cells #[.string ByteArray.empty, .slice none 0 0, .int .i64 0, .int .i64 0, .int .i64 0] 50 (0, 0)) by rw [hX]; exact blk_new _ rfl)
  have BKX := Lib.hid (H.out.below BX.out)
  clear hX
  obtain ⟨l1, l2, l3, l4, l5, l6, l7, hlv⟩ := lookV_shape L s
  have hlk := (run_look BKX.out.map s).1
  rw [hlv] at hlk
  obtain ⟨fb, hfb⟩ : ∃ fb, fb = (findE L s).isSome := ⟨_, rfl⟩
  rw [← hfb] at hlk
  have hcx := BKX.out.cells.1
  have HLV := Lib.hid hlv; have HFB := Lib.hid hfb
  unfold persV at hlk
  clear hlv hfb
  cases fb with
  | false =>
    have hnone : findE L s = none := by have := HFB.out; cases hq : findE L s with
      | none => rfl
      | some x => rw [hq] at this; cases this
    have HNO := Lib.hid hnone
    clear hnone
    go_enter Tryd.func26, Tryd.ntmps26
    go_wp2_with fail
    rw [← HX.out]
    refine (book_is p mp X BKX.out.cells.1).mono ?_
    rintro e w1 ⟨rfl, rfl⟩
    obtain ⟨Y, hY⟩ : ∃ Y, Y = (X.alloc (.cells #[.string ByteArray.empty, .slice none 0 0, .int .i64 0, .int .i64 0, .int .i64 0] 50)).setRow X.heap.size [Value.string l1, .slice l2 l3 l4, .int .i64 l5, .int .i64 l6, .int .i64 l7].toArray := ⟨_, rfl⟩
    have HBY := Lib.hid (show Below X.heap.size X Y by rw [hY]; exact below_setRow (below_alloc (Below.refl _ _) _) (Nat.le_refl _) _)
    have RY := Lib.hid (blk_below RX.out HBY.out (Array.getElem?_eq_some_iff.1 RX.out).1)
    have HY := Lib.hid hY
    clear hY
    go_wp2_with (first
      | (with_reducible refine wpList_store_any rfl 50 _ _ rfl X.heap.size [.string l1, .slice l2 l3 l4, .int .i64 l5, .int .i64 l6, .int .i64 l7] rfl rfl 50 _ (blk_new _ rfl) 5 (by kernel_rfl) rfl rfl (by simp [Value.oneCell']) ?_ rfl; rw [← HY.out])
      | (with_reducible refine wpList_store_any rfl 50 _ _ rfl w.heap.size [.string ByteArray.empty, .slice none 0 0, .int .i64 0, .int .i64 0, .int .i64 0] rfl rfl 50 _ RY.out 5 (by kernel_rfl) rfl rfl (by simp [Value.oneCell']) ?_ rfl))
    refine bodyPost_ret (v := .tuple #[.agg #[.string ByteArray.empty, .slice none 0 0, .int .i64 0, .int .i64 0, .int .i64 0], .int .i64 5]) ?_ rfl ?_
    · exact (results_row_tmp (p := 4) (u := 5) (ty := 50) rfl _ _ w.heap.size #[.string ByteArray.empty, .slice none 0 0, .int .i64 0, .int .i64 0, .int .i64 0] rfl (load_pers _ _ _ (0, 0) (setRow_heap _ _ _ _ _ _ RY.out) rfl)).trans rfl
    · exact ⟨below_setRow (BX.out.trans (HBY.out.mono BX.out.size)) (Nat.le_refl _) _, fun _ => rfl, fun x hx => by rw [HNO.out] at hx; cases hx⟩
  | true =>
    obtain ⟨x, hx⟩ : ∃ x, findE L s = some x := by have := HFB.out; cases hq : findE L s with
      | none => rw [hq] at this; cases this
      | some x => exact ⟨x, rfl⟩
    have hmem : x ∈ L := List.mem_of_find?_eq_some hx
    obtain ⟨k1, k2, k3⟩ := BKX.out.keys x hmem
    have hlk2 := (run_look BKX.out.map s).1
    rw [hx, show lookV L s = x.val by unfold lookV; rw [hx]; rfl] at hlk2
    clear hlk
    obtain ⟨nm, blk, cap, key, fl, li, re⟩ := x
    have HXX := Lib.hid hx; have K1 := Lib.hid k1; have K2 := Lib.hid k2
    unfold Ent.val persV at hlk2
    simp only [Option.isSome_some] at hlk2
    clear hx hmem k1 k2 k3
    go_enter Tryd.func26, Tryd.ntmps26
    go_wp2_with fail
    rw [← HX.out]
    refine (book_is p mp X BKX.out.cells.1).mono ?_
    rintro e w1 ⟨rfl, rfl⟩
    obtain ⟨Y, hY⟩ : ∃ Y, Y = (X.alloc (.cells #[.string ByteArray.empty, .slice none 0 0, .int .i64 0, .int .i64 0, .int .i64 0] 50)).setRow X.heap.size [Value.string nm, .slice (some ⟨blk, 0, none⟩) 16 cap, .int .i64 fl, .int .i64 li, .int .i64 re].toArray := ⟨_, rfl⟩
    have HBY := Lib.hid (show Below X.heap.size X Y by rw [hY]; exact below_setRow (below_alloc (Below.refl _ _) _) (Nat.le_refl _) _)
    have RY := Lib.hid (blk_below RX.out HBY.out (Array.getElem?_eq_some_iff.1 RX.out).1)
    have hrow : Y.heap[X.heap.size]? = some (.cells #[Value.string nm, .slice (some ⟨blk, 0, none⟩) 16 cap, .int .i64 fl, .int .i64 li, .int .i64 re] 50 (0, 0)) := by rw [hY]; exact setRow_heap _ _ _ _ _ _ (blk_new _ rfl)
    have hcl := fun j => cell_of_row Y X.heap.size j _ _ _ hrow
    have y0 := hcl 0
    have y1 := hcl 1
    have y2 := hcl 2
    have y3 := hcl 3
    have y4 := hcl 4
    simp at y0 y1 y2 y3 y4
    have HY := Lib.hid hY
    clear hY hrow hcl
    go_wp2_with (with_reducible refine wpList_store_any rfl 50 _ _ rfl X.heap.size [.string nm, .slice (some ⟨blk, 0, none⟩) 16 cap, .int .i64 fl, .int .i64 li, .int .i64 re] rfl rfl 50 _ (blk_new _ rfl) 5 (by kernel_rfl) rfl rfl (by simp [Value.oneCell']) ?_ rfl; rw [← HY.out])
    have hoc := own_c nm (some ⟨blk, 0, none⟩) cap key fl li re Y (by have h16 : key.length = 16 := K2.out; omega) (K1.out.below HBY.out)
    rw [show key.length = 16 from K2.out] at hoc
    unfold persV at hoc
    refine hoc.mono ?_
    clear hoc
    rintro e w3 ⟨A3, c3, rfl, hr, hge, hb⟩
    rw [show key.length = 16 from K2.out]
    unfold persV
    have HB3 := Lib.hid (BX.out.trans ((HBY.out.trans (hb.mono HBY.out.size)).mono BX.out.size))
    have R3 := Lib.hid (blk_below RY.out hb (Array.getElem?_eq_some_iff.1 RY.out).1)
    have HR := Lib.hid hr
    have hys : w.heap.size + 1 ≤ Y.heap.size := Nat.le_trans (by rw [HX.out]; simp) HBY.out.size
    have HGE := Lib.hid (show ∀ ad, A3 = some ad → w.heap.size < ad.block from fun ad had => by have := (hge ad had).1; omega)
    clear hr hge hb hys
    go_wp2_with (with_reducible refine wpList_store_any rfl 50 _ _ rfl w.heap.size [.string nm, .slice A3 16 c3, .int .i64 fl, .int .i64 li, .int .i64 re] rfl rfl 50 _ R3.out 5 (by kernel_rfl) rfl rfl (by simp [Value.oneCell']) ?_ rfl)
    refine bodyPost_ret (v := .tuple #[.agg #[.string nm, .slice A3 16 c3, .int .i64 fl, .int .i64 li, .int .i64 re], .int .i64 0]) ?_ rfl ?_
    · exact (results_row_tmp (p := 4) (u := 5) (ty := 50) rfl _ _ w.heap.size #[.string nm, .slice A3 16 c3, .int .i64 fl, .int .i64 li, .int .i64 re] rfl (load_pers _ _ _ (0, 0) (setRow_heap _ _ _ _ _ _ R3.out) rfl)).trans rfl
    · refine ⟨below_setRow HB3.out (Nat.le_refl _) _, fun hn => (by rw [HXX.out] at hn; cases hn), fun x' hx' => ?_⟩
      rw [HXX.out] at hx'
      injection hx' with hx'
      subst hx'
      refine ⟨A3, c3, by rw [show key.length = 16 from K2.out]; rfl, HR.out.setRow _ _ (fun ad had => by have := HGE.out ad had; omega), fun ad had => Nat.le_of_lt (HGE.out ad had)⟩
end Go.Proofs.YteplaginenhfkaaDoor
