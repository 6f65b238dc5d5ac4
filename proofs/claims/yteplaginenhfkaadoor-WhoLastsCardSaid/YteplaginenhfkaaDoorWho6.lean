/-
  who: the walk of Add.
-/
import Derived.Test.YteplaginenhfkaaDoorWho5
set_option linter.unusedVariables false
set_option linter.unusedSimpArgs false
namespace Go.Proofs.YteplaginenhfkaaDoor
open Go.RowKit

/-! ### Add -/
theorem lookV_shape (L : List Ent) (s : ByteArray) : ∃ nm A n c f l r, lookV L s = persV nm A n c f l r := by
  unfold lookV
  cases findE L s with
  | none => exact ⟨_, _, _, _, _, _, _, rfl⟩
  | some e => exact ⟨_, _, _, _, _, _, _, rfl⟩
def addS (L : List Ent) (nm : ByteArray) (n : Nat) (fl li re : Int) : Int :=
  if okName nm = false ∨ n ≠ 16 then 2 else
  if fl < 0 ∨ 15 < fl ∨ li = 0 ∨ re = 0 ∨ [li, re].all okTime = false then 2 else
  if (findE L nm).isSome then 6 else if L.length = 256 then 4 else 0
def AddPost (w : World) (B p mp : Nat) (v : Value) (L : List Ent) (nm : ByteArray) (key : List UInt8) (fl li re : Int) (e : Ending) (w' : World) : Prop :=
  e = .returned (.int .i64 (addS L nm key.length fl li re)) ∧ OnlyS (bookS p mp v) w w' ∧
    (addS L nm key.length fl li re ≠ 0 → BkA w' B p mp v L) ∧
    (addS L nm key.length fl li re = 0 → ∃ v' blk cap, w.heap.size ≤ blk ∧ BkA w' B p mp v' (L ++ [⟨nm, blk, cap, key, fl, li, re⟩]))
theorem AddPost.bad {w w' : World} {B p mp : Nat} {v : Value} {L : List Ent} {nm : ByteArray} {key : List UInt8} {fl li re : Int} {e : Ending} (cd : Int) (hcd : addS L nm key.length fl li re = cd) (hne : cd ≠ 0) (he : e = .returned (.int .i64 cd)) (hbk : BkA w B p mp v L) (hb : Below w.heap.size w w') :
    AddPost w B p mp v L nm key fl li re e w' :=
  ⟨by rw [hcd]; exact he, OnlyS.of_below hb, fun _ => hbk.below hb, fun h => absurd (hcd.symm.trans h) hne⟩
theorem addS_name (L : List Ent) (nm : ByteArray) (n : Nat) (fl li re : Int) (h : okName nm = false) : addS L nm n fl li re = 2 := by unfold addS; rw [if_pos (Or.inl h)]
theorem addS_key (L : List Ent) (nm : ByteArray) (n : Nat) (fl li re : Int) (h : n ≠ 16) : addS L nm n fl li re = 2 := by unfold addS; rw [if_pos (Or.inr h)]
theorem addS_num (L : List Ent) (nm : ByteArray) (n : Nat) (fl li re : Int) (h1 : okName nm = true) (h2 : n = 16) (h : fl < 0 ∨ 15 < fl ∨ li = 0 ∨ re = 0 ∨ [li, re].all okTime = false) : addS L nm n fl li re = 2 := by
  unfold addS; rw [if_neg (by rw [h1]; simp [h2]), if_pos h]
theorem addS_ok (L : List Ent) (nm : ByteArray) (n : Nat) (fl li re : Int) (h1 : okName nm = true) (h2 : n = 16) (h3 : ¬ (fl < 0 ∨ 15 < fl ∨ li = 0 ∨ re = 0 ∨ [li, re].all okTime = false)) : addS L nm n fl li re = if (findE L nm).isSome then 6 else if L.length = 256 then 4 else 0 := by
  unfold addS; rw [if_neg (by rw [h1]; simp [h2]), if_neg h3]
set_option maxRecDepth 100000 in
set_option maxHeartbeats 4000000 in
theorem add_c (B p mp : Nat) (v : Value) (L : List Ent) (nm : ByteArray) (A : Option Addr) (c : Nat) (key : List UInt8) (fl li re : Int) (w : World) (h : BkA w B p mp v L) (hB : B ≤ w.heap.size) (hn : nm.size ≤ 1000000) (hk : key.length ≤ 100000) (hR : RB w A key) (hL : L.length ≤ 256) :
    Calls Tryd.prog 25 #[.pointer (some ⟨p, 0, none⟩), persV nm A key.length c fl li re] w (AddPost w B p mp v L nm key fl li re) := by
  have hz := zeroPers
  have H := Lib.hid h; have HBB := Lib.hid hB; have HNM := Lib.hid hn; have HK := Lib.hid hk; have HR := Lib.hid hR; have HLL := Lib.hid hL
  obtain ⟨cd, hcd⟩ : ∃ cd, cd = addS L nm key.length fl li re := ⟨_, rfl⟩
  obtain ⟨n, hn'⟩ : ∃ n, n = key.length := ⟨_, rfl⟩
  have HCD := Lib.hid hcd; have HN := Lib.hid hn'
  rw [← hn']
  clear h hB hn hk hR hL hcd hn'
  obtain ⟨b0, hb0⟩ : ∃ b0, b0 = w.heap.size := ⟨_, rfl⟩
  obtain ⟨X0, hX0⟩ : ∃ X0, X0 = w.alloc (.cells #[.string nm, .slice A n c, .int .i64 fl, .int .i64 li, .int .i64 re] 50) := ⟨_, rfl⟩
  have HB0 := Lib.hid hb0
  have HX0 := Lib.hid hX0
  have BX0 := Lib.hid (show Below w.heap.size w X0 by rw [hX0]; exact below_alloc (Below.refl _ _) _)
  have R0 := Lib.hid (show X0.heap[b0]? = some (.cells #[.string nm, .slice A n c, .int .i64 fl, .int .i64 li, .int .i64 re] 50 (0, 0)) by rw [hX0, hb0]; exact blk_new _ rfl)
  have CX := Lib.hid (show ∀ W', Below X0.heap.size X0 W' → (W'.cell? ⟨b0, 0, none⟩ = some (.string nm) ∧ W'.cell? ⟨b0, 1, none⟩ = some (.slice A n c) ∧ W'.cell? ⟨b0, 2, none⟩ = some (.int .i64 fl) ∧ W'.cell? ⟨b0, 3, none⟩ = some (.int .i64 li) ∧ W'.cell? ⟨b0, 4, none⟩ = some (.int .i64 re)) from fun W' hW => by
    have hr := blk_below R0.out hW (Array.getElem?_eq_some_iff.1 R0.out).1
    refine ⟨?_, ?_, ?_, ?_, ?_⟩ <;> (rw [cell_of_row W' b0 _ _ _ _ hr]; rfl))
  have BK0 := Lib.hid (H.out.below BX0.out)
  clear hb0 hX0
  unfold persV
  go_enter Tryd.func25, Tryd.ntmps25
  go_wp2_with fail
  rw [← HX0.out, ← HB0.out]
  refine (book_is p mp X0 BK0.out.cells.1).mono ?_
  rintro e w1 ⟨rfl, rfl⟩
  go_wp2_with fail
  obtain ⟨l1, l2, l3, l4, l5, l6, l7, hlv⟩ := lookV_shape L nm
  have HLK := Lib.hid (show ∀ W', Below X0.heap.size X0 W' → (Instr.lookup 64 (.map (some mp)) (.string nm) true).run Tryd.prog W' = .ok (.tuple #[.agg #[.string l1, .slice l2 l3 l4, .int .i64 l5, .int .i64 l6, .int .i64 l7], .bool (findE L nm).isSome]) W' from fun W' hW => by
    have hq := (run_look (BK0.out.below hW).map nm).1
    rw [hlv] at hq
    exact hq)
  obtain ⟨fb, hfb⟩ : ∃ fb, fb = (findE L nm).isSome := ⟨_, rfl⟩
  rw [← hfb] at HLK
  have HFB := Lib.hid hfb
  clear hlv hfb
  refine Last.region_hold (fun w' => Below X0.heap.size X0 w') [0, 1, 2, 3, 4, 5, 6, 7, 8, 9] [10, 11, 12] [12] (by kernel_rfl) (by kernel_rfl) (fun d _ _ _ _ h => by cases d <;> exact h) (below_drewN (Below.refl _ _) 1) ?_
  refine Last.hold_move _ _ rfl rfl rfl ?_
  refine Last.hold_read _ (.pointer (some ⟨p, 0, none⟩)) rfl rfl (fun W' _ => ?_) ?_
  · go_simp
  refine Last.hold_read _ (.pointer (some ⟨p, 0, none⟩)) rfl rfl (fun W' _ => ?_) ?_
  · go_simp
  refine Last.hold_read _ (.map (some mp)) rfl rfl (fun W' hW => ?_) ?_
  · have hc := (BK0.out.below hW).cells.1
    go_simp
  refine Last.hold_read _ (.pointer (some ⟨b0, 0, none⟩)) rfl rfl (fun W' _ => ?_) ?_
  · go_simp
  refine Last.hold_read _ (.string nm) rfl rfl (fun W' hW => ?_) ?_
  · have hc := (CX.out W' hW).1
    go_simp
  refine Last.hold_read _ (.tuple #[.agg #[.string l1, .slice l2 l3 l4, .int .i64 l5, .int .i64 l6, .int .i64 l7], .bool fb]) rfl rfl (fun W' hW => ?_) ?_
  · have hc := HLK.out W' hW
    go_simp
  refine Last.hold_move _ _ rfl rfl rfl ?_
  refine Last.hold_read _ (.agg #[.string l1, .slice l2 l3 l4, .int .i64 l5, .int .i64 l6, .int .i64 l7]) rfl rfl (fun W' _ => ?_) ?_
  · go_simp
  refine Last.hold_read _ (.bool fb) rfl rfl (fun W' _ => ?_) ?_
  · go_simp
  refine Last.mid_run _ (.pointer (some ⟨X0.heap.size, 0, none⟩)) ((X0.drewN 1).alloc (.cells #[.string ByteArray.empty, .slice none 0 0, .int .i64 0, .int .i64 0, .int .i64 0] 50)) rfl rfl (by go_simp) (fun _ hS => below_alloc hS _) ?_
  obtain ⟨b1, hb1⟩ : ∃ b1, b1 = X0.heap.size := ⟨_, rfl⟩
  have HB1 := Lib.hid hb1
  clear hb1
  refine Last.mid_store _ 50 _ _ rfl rfl rfl X0.heap.size [.string l1, .slice l2 l3 l4, .int .i64 l5, .int .i64 l6, .int .i64 l7] (by kernel_rfl) (by kernel_rfl) 50 _ (blk_new _ rfl) 5 (by kernel_rfl) rfl rfl (by simp [Value.oneCell']) rfl (fun _ hS => below_setRow hS (Nat.le_refl _) _) ?_
  refine Last.mid_tail 12 (by kernel_rfl) (by decide) ?_
  simp only [List.drop_succ_cons, List.drop_zero]
  obtain ⟨X, hX⟩ : ∃ X, X = ((X0.drewN 1).alloc (.cells #[.string ByteArray.empty, .slice none 0 0, .int .i64 0, .int .i64 0, .int .i64 0] 50)).setRow X0.heap.size [Value.string l1, .slice l2 l3 l4, .int .i64 l5, .int .i64 l6, .int .i64 l7].toArray := ⟨_, rfl⟩
  have BX := Lib.hid (show Below X0.heap.size X0 X by rw [hX]; exact below_setRow (below_alloc (below_drewN (Below.refl _ _) 1) _) (Nat.le_refl _) _)
  rw [← hX]
  clear hX
  obtain ⟨cx0, cx1, cx2, cx3, cx4⟩ := CX.out X BX.out
  go_wp2_with fail
  refine (named_c nm (by have := HNM.out; omega) X).mono ?_
  rintro e w1 ⟨rfl, rfl⟩
  cases c1 : okName nm with
  | false =>
    go_wp2
    go_ret
    exact AddPost.bad 2 (by rw [← HN.out]; exact addS_name L nm n fl li re c1) (by decide) rfl H.out (BX0.out.trans (BX.out.mono BX0.out.size))
  | true =>
    by_cases c2 : n = 16
    · have C2 := Lib.hid c2
      subst c2
      by_cases c3 : fl < 0
      · have C3 := Lib.hid c3
        go_wp2
        go_ret
        exact AddPost.bad 2 (by rw [← HN.out]; exact addS_num L nm _ fl li re c1 rfl (Or.inl c3)) (by decide) rfl H.out (BX0.out.trans (BX.out.mono BX0.out.size))
      · by_cases c4 : 15 < fl
        · go_wp2
          go_ret
          exact AddPost.bad 2 (by rw [← HN.out]; exact addS_num L nm _ fl li re c1 rfl (Or.inr (Or.inl c4))) (by decide) rfl H.out (BX0.out.trans (BX.out.mono BX0.out.size))
        · by_cases c5 : li = 0
          · subst c5
            go_wp2
            go_ret
            exact AddPost.bad 2 (by rw [← HN.out]; exact addS_num L nm _ fl 0 re c1 rfl (Or.inr (Or.inr (Or.inl rfl)))) (by decide) rfl H.out (BX0.out.trans (BX.out.mono BX0.out.size))
          · by_cases c6 : re = 0
            · subst c6
              go_wp2
              go_ret
              exact AddPost.bad 2 (by rw [← HN.out]; exact addS_num L nm _ fl li 0 c1 rfl (Or.inr (Or.inr (Or.inr (Or.inl rfl))))) (by decide) rfl H.out (BX0.out.trans (BX.out.mono BX0.out.size))
            · have t5 : (li == 0) = false := by simpa using c5
              have t6 : (re == 0) = false := by simpa using c6
              go_wp2_with fail
              obtain ⟨Y, hY⟩ : ∃ Y, Y = X.alloc (.cells #[.int .i64 li, .int .i64 re] 3) := ⟨_, rfl⟩
              have hRI : RI Y (some ⟨X.heap.size, 0, none⟩) [li, re] := by rw [hY]; exact ri_two (blk_new _ rfl)
              have BY := Lib.hid (show Below X0.heap.size X0 Y by rw [hY]; exact BX.out.trans ((below_alloc (Below.refl _ _) _).mono BX.out.size))
              rw [← hY]
              clear hY
              refine (times_c (some ⟨X.heap.size, 0, none⟩) 2 2 [li, re] rfl (by decide) Y hRI).mono ?_
              rintro e w1 ⟨rfl, rfl⟩
              clear hRI
              have C4 := Lib.hid c4; have C5 := Lib.hid c5; have C6 := Lib.hid c6; have C1 := Lib.hid c1; have C3' := Lib.hid c3
              clear cx0 cx1 cx2 cx3 cx4
              obtain ⟨vA, vc, rfl⟩ := H.out.shape
              obtain ⟨ln, hln⟩ : ∃ ln, ln = L.length := ⟨_, rfl⟩
              have hp1 := (BK0.out.below BY.out).cells.2
              rw [← hln] at hp1
              have HLN := Lib.hid hln
              clear hln
              cases c7 : [li, re].all okTime with
              | false =>
                go_wp2
                go_ret
                exact AddPost.bad 2 (by rw [← HN.out]; exact addS_num L nm _ fl li re C1.out rfl (Or.inr (Or.inr (Or.inr (Or.inr c7))))) (by decide) rfl H.out (BX0.out.trans (BY.out.mono BX0.out.size))
              | true =>
                have HOK := Lib.hid (addS_ok L nm 16 fl li re C1.out rfl (by have := C3'.out; have := C4.out; have := C5.out; have := C6.out; simp [c7]; omega))
                cases fb with
                | true =>
                  go_wp2
                  go_ret
                  exact AddPost.bad 6 (by rw [← HN.out, HOK.out, if_pos HFB.out.symm]) (by decide) rfl H.out (BX0.out.trans (BY.out.mono BX0.out.size))
                | false =>
                  have HNF := Lib.hid (show findE L nm = none by have := HFB.out; cases hq : findE L nm with
                    | none => rfl
                    | some x => rw [hq] at this; cases this)
                  by_cases c8 : ln = 256
                  · subst c8
                    go_wp2
                    go_ret
                    exact AddPost.bad 4 (by rw [← HN.out, HOK.out, HNF.out, if_neg (by decide), if_pos HLN.out.symm]) (by decide) rfl H.out (BX0.out.trans (BY.out.mono BX0.out.size))
                  · have H0 := Lib.hid (show addS L nm key.length fl li re = 0 by rw [← HN.out, HOK.out, HNF.out, if_neg (by decide), if_neg (by rw [← HLN.out]; exact c8)])
                    have c8' : ¬ (ln : Int) = 256 := by omega
                    go_wp2_with fail
                    have hbkY := BK0.out.below BY.out
                    obtain ⟨cy0, cy1, cy2, cy3, cy4⟩ := CX.out Y BY.out
                    have hpY := hbkY.cells.1
                    have HBKY := Lib.hid hbkY
                    clear hbkY
                    refine Last.region_hold (fun w' => Below Y.heap.size Y w') [0, 1, 2, 3, 4, 5, 6] [7, 8] [8] (by kernel_rfl) (by kernel_rfl) (fun d _ _ _ _ h => by cases d <;> exact h) (below_drewN (Below.refl _ _) 1) ?_
                    refine Last.hold_move _ _ rfl rfl rfl ?_
                    refine Last.hold_read _ (.pointer (some ⟨p, 0, none⟩)) rfl rfl (fun W' _ => ?_) ?_
                    · go_simp
                    refine Last.hold_read _ (.pointer (some ⟨p, 0, none⟩)) rfl rfl (fun W' _ => ?_) ?_
                    · go_simp
                    refine Last.hold_read _ (.map (some mp)) rfl rfl (fun W' hW => ?_) ?_
                    · have hc := (HBKY.out.below hW).cells.1
                      go_simp
                    refine Last.hold_read _ (.pointer (some ⟨b0, 0, none⟩)) rfl rfl (fun W' _ => ?_) ?_
                    · go_simp
                    refine Last.hold_read _ (.string nm) rfl rfl (fun W' hW => ?_) ?_
                    · obtain ⟨cy0, cy1, cy2, cy3, cy4⟩ := CX.out W' (BY.out.trans (Below.mono hW BY.out.size))
                      go_simp
                    refine Last.hold_read _ (.agg #[.string nm, .slice A 16 c, .int .i64 fl, .int .i64 li, .int .i64 re]) rfl rfl (fun W' hW => ?_) ?_
                    · obtain ⟨cy0, cy1, cy2, cy3, cy4⟩ := CX.out W' (BY.out.trans (Below.mono hW BY.out.size))
                      go_simp
                    have hoc := own_c nm A c key fl li re (Y.drewN 1) (by rw [← HN.out]; decide) ((HR.out.below (BX0.out.trans (BY.out.mono BX0.out.size))).drewN 1)
                    rw [← HN.out] at hoc
                    show Last.wpMid _ _ _ _ _ _ _ _
                    refine Last.mid_call _ 44 #[.agg #[.string nm, .slice A 16 c, .int .i64 fl, .int .i64 li, .int .i64 re]] rfl rfl (by kernel_rfl) ?_
                    refine hoc.mono ?_
                    clear hoc
                    rintro e w3 ⟨A3, c3', rfl, hr3, hge3, hb3⟩
                    rw [← HN.out]
                    obtain ⟨b3, o3, rfl, _, _⟩ := hr3.addr (by rw [← HN.out]; decide)
                    obtain ⟨hge4, ho3⟩ := hge3 _ rfl
                    obtain rfl : o3 = 0 := by injection ho3
                    refine ⟨_, rfl, fun _ _ => (below_drewN (Below.refl _ _) 1).trans hb3, ?_⟩
                    refine Last.mid_tail 8 (by kernel_rfl) (by decide) ?_
                    simp only [List.drop_succ_cons, List.drop_zero]
                    have hBw3 : Below Y.heap.size Y w3 := (below_drewN (Below.refl _ _) 1).trans hb3
                    have hbk3 := HBKY.out.below hBw3
                    have hlay := run_lay hbk3.map ⟨nm, b3, c3', key, fl, li, re⟩ HNF.out
                    have R3 := Lib.hid hr3; have G3 := Lib.hid (show Y.heap.size ≤ b3 from hge4); have B3 := Lib.hid hBw3; have BK3 := Lib.hid hbk3
                    obtain ⟨E, hE⟩ : ∃ E : Ent, E = ⟨nm, b3, c3', key, fl, li, re⟩ := ⟨_, rfl⟩
                    have HLAY := Lib.hid (show (Instr.mapUpdate 64 (.map (some mp)) (.string nm) (persV nm (some ⟨b3, 0, none⟩) 16 c3' fl li re)).run Tryd.prog w3 = .ok () (putMap w3 mp (L ++ [E])) by rw [hE]; exact hlay)
                    have HE := Lib.hid hE
                    clear hE hlay hr3 hge3 hge4 ho3 hb3 hBw3 hbk3 cy0 cy1 cy2 cy3 cy4 hpY hp1
                    have hlay := HLAY.out
                    go_wp2_with fail
                    clear hlay
                    obtain ⟨Z, hZ⟩ : ∃ Z, Z = putMap w3 mp (L ++ [E]) := ⟨_, rfl⟩
                    rw [← hZ]
                    have hZs : Z.heap.size = w3.heap.size := by rw [hZ]; simp [putMap]
                    have hZo : ∀ k, k ≠ mp → Z.heap[k]? = w3.heap[k]? := fun k hk => by rw [hZ]; exact (MapKept.heap_set BK3.out.map).2 k hk
                    have hZm : MapAt Z mp (L ++ [E]) := by rw [hZ]; exact (MapKept.heap_set BK3.out.map).1
                    have hpm := BK3.out.ne
                    have hZp : Z.heap[p]? = some (.cells #[.map (some mp), .slice vA ln vc] 66 (0, 0)) := by
                      rw [hZo p hpm, HLN.out]
                      exact BK3.out.row
                    have hbm : b0 ≠ mp := fun e => by
                      have := H.out.lt.2
                      have := HB0.out
                      omega
                    have hZb : Z.cell? ⟨b0, 0, none⟩ = some (.string nm) := by
                      have hc := (CX.out w3 (BY.out.trans (B3.out.mono BY.out.size))).1
                      rw [← hc]
                      exact World.cell?_of_block (a := ⟨b0, 0, none⟩) (hZo b0 hbm)
                    have hZv : Z.ownsRow B 9 1 (.slice vA ln vc) ln (L.map fun e => Value.string e.name) := by
                      have hn := BK3.out.names
                      rw [← HLN.out] at hn
                      refine ownsRow_onlyS (S := fun k => k = mp) hn ⟨by rw [hZ]; rfl, by rw [hZ]; rfl, by rw [hZ]; rfl, by rw [hZs]; exact Nat.le_refl _, fun k _ hk => hZo k hk⟩ (fun g hg e => ?_)
                      have := (BK3.out.names_ne g (by rw [← HLN.out]; exact hg)).2.1
                      exact this e
                    have cz0 : Z.cell? ⟨p, 0, none⟩ = some (.map (some mp)) := by rw [cell_of_row Z p _ _ _ _ hZp]; rfl
                    have cz1 : Z.cell? ⟨p, 1, none⟩ = some (.slice vA ln vc) := by rw [cell_of_row Z p _ _ _ _ hZp]; rfl
                    have hBw : B ≤ Z.heap.size := by
                      rw [hZs]
                      exact Nat.le_trans HBB.out (BX0.out.trans ((BY.out.trans (B3.out.mono BY.out.size)).mono BX0.out.size)).size
                    have ZS := Lib.hid hZs; have ZO := Lib.hid hZo; have ZM := Lib.hid hZm; have ZP := Lib.hid hZp; have ZV := Lib.hid hZv; have ZE := Lib.hid hZ; have ZB := Lib.hid hBw; have PM := Lib.hid hpm; have BM := Lib.hid hbm
                    clear hZs hZo hZm hZp hZv hZ hBw hpm hbm
                    refine Last.region_hold (fun w' => w'.cell? ⟨p, 1, none⟩ = some (.slice vA ln vc) ∧ w'.cell? ⟨b0, 0, none⟩ = some (.string nm)) [0, 1, 2, 3, 4, 5, 6] [7, 8, 9, 10, 11] [9, 10, 11] (by kernel_rfl) (by kernel_rfl) (fun d _ _ _ _ h => by cases d <;> exact h) ⟨cz1, hZb⟩ ?_
                    refine Last.hold_move _ _ rfl rfl rfl ?_
                    refine Last.hold_move _ _ rfl rfl rfl ?_
                    refine Last.hold_read _ (.pointer (some ⟨p, 0, none⟩)) rfl rfl (fun W' _ => ?_) ?_
                    · go_simp
                    refine Last.hold_read _ (.pointer (some ⟨p, 1, none⟩)) rfl rfl (fun W' _ => ?_) ?_
                    · go_simp
                    refine Last.hold_read _ (.slice vA ln vc) rfl rfl (fun W' hW => ?_) ?_
                    · obtain ⟨hw1, hw2⟩ := hW
                      go_simp
                    refine Last.hold_read _ (.pointer (some ⟨b0, 0, none⟩)) rfl rfl (fun W' _ => ?_) ?_
                    · go_simp
                    refine Last.hold_read _ (.string nm) rfl rfl (fun W' hW => ?_) ?_
                    · obtain ⟨hw1, hw2⟩ := hW
                      go_simp
                    have hb8 : Below Z.heap.size Z ((Z.drewN 1).alloc (.cells #[.string nm] 9)) := below_alloc (below_drewN (Below.refl _ _) 1) _
                    have hpl : p < Z.heap.size := (Array.getElem?_eq_some_iff.1 ZP.out).1
                    have hbl : b0 < Z.heap.size := World.block_lt_of_cell? Z ⟨b0, 0, none⟩ hZb
                    have hS8 : ((Z.drewN 1).alloc (.cells #[.string nm] 9)).cell? ⟨p, 1, none⟩ = some (.slice vA ln vc) ∧ ((Z.drewN 1).alloc (.cells #[.string nm] 9)).cell? ⟨b0, 0, none⟩ = some (.string nm) := ⟨(hb8.cell (p := ⟨p, 1, none⟩) hpl).trans cz1, (hb8.cell (p := ⟨b0, 0, none⟩) hbl).trans hZb⟩
                    show Last.wpMid _ _ _ _ _ _ _ _
                    refine Last.mid_run _ (.slice (some ⟨Z.heap.size, 0, none⟩) 1 1) ((Z.drewN 1).alloc (.cells #[.string nm] 9)) rfl rfl (by go_simp) (fun _ _ => hS8) ?_
                    obtain ⟨i, hi, hz0, hz1, hz2⟩ := info_parts info_str
                    have hv8 : ((Z.drewN 1).alloc (.cells #[.string nm] 9)).ownsRow B 9 1 (.slice vA ln vc) ln (L.map fun e => Value.string e.name) := ownsRow_onlyS (S := fun _ => False) ZV.out (OnlyS.of_below hb8) (fun _ _ h => h)
                    have hln := HLN.out
                    have hLL := HLL.out
                    obtain ⟨v1, w9, hr, g1, g2, g3⟩ := run_append_own (P := Tryd.prog) ((Z.drewN 1).alloc (.cells #[.string nm] 9)) B 57 57 9 i (.string ByteArray.empty) 1 16 Tryd.underlying57 hi hz0 hz1 hz2 rfl (by decide) (.slice vA ln vc) ln (L.map fun e => Value.string e.name) hv8 ⟨Z.heap.size, 0, none⟩ 1 1 [.string nm] rfl (cell_one_new _ _ _) (fun y hy => by simp at hy; subst hy; rfl) (by unfold maxLen; omega) (by omega) (Nat.le_trans ZB.out hb8.size)
                    have hS9 : w9.cell? ⟨p, 1, none⟩ = some (.slice vA ln vc) ∧ w9.cell? ⟨b0, 0, none⟩ = some (.string nm) := by
                      have hgp := fun g (hg : (Value.slice vA ln vc).ownBlock = some g) => H.out.names_ne g (by rw [← HLN.out]; exact hg)
                      have hwb := HB0.out
                      refine ⟨(World.cell?_of_block (a := ⟨p, 1, none⟩) (g2.block p (Nat.lt_of_lt_of_le hpl hb8.size) (fun e => (hgp p e.symm).1 rfl))).trans hS8.1, (World.cell?_of_block (a := ⟨b0, 0, none⟩) (g2.block b0 (Nat.lt_of_lt_of_le hbl hb8.size) (fun e => ?_))).trans hS8.2⟩
                      have := (hgp b0 e.symm).2.2.2.1
                      omega
                    refine Last.mid_append _ _ _ 57 rfl rfl rfl (.slice vA ln vc) (.slice (some ⟨Z.heap.size, 0, none⟩) 1 1) (by kernel_rfl) (by kernel_rfl) v1 w9 hr (fun _ _ => hS9) ?_
                    refine Last.mid_tail 9 (by kernel_rfl) (by decide) ?_
                    simp only [List.drop_succ_cons, List.drop_zero]
                    have hlt := H.out.lt
                    have hys : w.heap.size ≤ Y.heap.size := (BX0.out.trans (BY.out.mono BX0.out.size)).size
                    have hEb : E.blk = b3 := by rw [HE.out]
                    have hgb := G3.out
                    subst hln
                    rw [ZE.out] at hb8 g2
                    obtain ⟨k1, k2, k3⟩ := BK3.out.grow E (by rw [HE.out]; exact R3.out) (by rw [HE.out]; exact HN.out.symm) (by have := HBB.out; omega) (by omega) (by omega) (fun g hg => by have := (H.out.names_ne g hg).2.2.2.1; omega) hb8 g2 (by rw [List.length_append, List.map_append, HE.out]; exact g1)
                    have K1 := Lib.hid k1; have K2 := Lib.hid ((OnlyS.of_below (S := bookS p mp (.slice vA L.length vc)) (BX0.out.trans ((BY.out.trans (B3.out.mono BY.out.size)).mono BX0.out.size))).trans k2); have K3 := Lib.hid k3; have K4 := Lib.hid (show w.heap.size ≤ b3 by omega)
                    clear hS8 hS9 hpl hbl k1 k2 k3 hlt hys hEb hgb hb8 g1 g2 g3 hv8 hr hz0 hz1 hz2 hi hLL
                    obtain ⟨v1A, v1c, rfl⟩ := K1.out.shape
                    generalize hl1 : (L ++ [E]).length = ln1 at K1 K2 K3 ⊢
                    clear hl1
                    rw [← row_same K3.out]
                    have hset := fun cs i v => row_set K3.out cs i v
                    have hcell := fun cs j => row_cell K3.out cs j
                    have hfro := fun cs j => row_frozen K3.out cs j
                    go_wp2
                    go_ret
                    refine ⟨by rw [H0.out]; rfl, K2.out, fun hne => absurd H0.out hne, fun _ => ⟨.slice v1A ln1 v1c, b3, c3', K4.out, ?_⟩⟩
                    rw [← HE.out]
                    exact K1.out
    · have C2 := Lib.hid c2
      have c2' : ¬ (n : Int) = 16 := by omega
      go_wp2
      go_ret
      exact AddPost.bad 2 (by rw [← HN.out]; exact addS_key L nm n fl li re C2.out) (by decide) rfl H.out (BX0.out.trans (BX.out.mono BX0.out.size))
end Go.Proofs.YteplaginenhfkaaDoor
