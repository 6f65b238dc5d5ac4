/-
  who: the walk of the reference's Add. who: short: a principal with a short name and key.
-/
import Derived.Test.YteplaginenhfkaaDoorWhoD
import Derived.Test.YteplaginenhfkaaDoorHold2
set_option linter.unusedVariables false
set_option linter.unusedSimpArgs false
namespace Go.Proofs.YteplaginenhfkaaDoor
open Go.RowKit

def RAddPost (w : World) (B q : Nat) (v : Value) (M : List Ent) (nm : ByteArray) (key : List UInt8) (fl li re : Int) (e : Ending) (w' : World) : Prop :=
  e = .returned (.int .i64 (addS M nm key.length fl li re)) ∧ OnlyS (rbS q v) w w' ∧
    (addS M nm key.length fl li re ≠ 0 → RbA w' B q v M) ∧
    (addS M nm key.length fl li re = 0 → ∃ v' blk cap, w.heap.size ≤ blk ∧ RbA w' B q v' (M ++ [⟨nm, blk, cap, key, fl, li, re⟩]))
theorem RAddPost.bad {w w' : World} {B q : Nat} {v : Value} {M : List Ent} {nm : ByteArray} {key : List UInt8} {fl li re : Int} {e : Ending} (cd : Int) (hcd : addS M nm key.length fl li re = cd) (hne : cd ≠ 0) (he : e = .returned (.int .i64 cd)) (hr : RbA w B q v M) (hb : Below w.heap.size w w') :
    RAddPost w B q v M nm key fl li re e w' :=
  ⟨by rw [hcd]; exact he, OnlyS.of_below hb, fun _ => hr.below hb, fun h => absurd (hcd.symm.trans h) hne⟩
theorem info_rpers : (Tryd.prog.info? 45).map (fun i => (i.zero, i.size, i.bytes)) = some (some (.agg #[.string ByteArray.empty, .slice none 0 0, .int .i64 0, .int .i64 0, .int .i64 0]), 5, 64) := by kernel_rfl
theorem time_no {x : Int} (h1 : ¬ x < 1) (h2 : okTime x = false) : okTime x = false ∧ 1099511627776 < x := by
  refine ⟨h2, ?_⟩
  simp [okTime] at h2
  omega
theorem all_no1 {x y : Int} (h : okTime x = false) : [x, y].all okTime = false := by simp [h]
theorem all_no2 {x y : Int} (h : okTime y = false) : [x, y].all okTime = false := by simp [h]
theorem okTime_low {x : Int} (h : x < 1) (h0 : ¬ x = 0) : okTime x = false := by simp [okTime]; omega
set_option maxRecDepth 100000 in
set_option maxHeartbeats 4000000 in
theorem radd_c (B q : Nat) (v : Value) (M : List Ent) (nm : ByteArray) (A : Option Addr) (c : Nat) (key : List UInt8) (fl li re : Int) (w : World) (h : RbA w B q v M) (hB : B ≤ w.heap.size) (hn : nm.size ≤ 1000000) (hk : key.length ≤ 100000) (hR : RB w A key) (hM : M.length ≤ 100) :
    Calls Tryd.prog 31 #[.pointer (some ⟨q, 0, none⟩), persV nm A key.length c fl li re] w (RAddPost w B q v M nm key fl li re) := by
  have hz := zeroRPers
  have H := Lib.hid h; have HBB := Lib.hid hB; have HNM := Lib.hid hn; have HK := Lib.hid hk; have HR := Lib.hid hR; have HM := Lib.hid hM
  obtain ⟨n, hn'⟩ : ∃ n, n = key.length := ⟨_, rfl⟩
  have HN := Lib.hid hn'
  rw [← hn']
  obtain ⟨b0, hb0⟩ : ∃ b0, b0 = w.heap.size := ⟨_, rfl⟩
  obtain ⟨X0, hX0⟩ : ∃ X0, X0 = w.alloc (.cells #[.string nm, .slice A n c, .int .i64 fl, .int .i64 li, .int .i64 re] 45) := ⟨_, rfl⟩
  have HB0 := Lib.hid hb0
  have HX0 := Lib.hid hX0
  have BX0 := Lib.hid (show Below w.heap.size w X0 by rw [hX0]; exact below_alloc (Below.refl _ _) _)
  have R0 := Lib.hid (show X0.heap[b0]? = some (.cells #[.string nm, .slice A n c, .int .i64 fl, .int .i64 li, .int .i64 re] 45 (0, 0)) by rw [hX0, hb0]; exact blk_new _ rfl)
  have RA0 := Lib.hid (H.out.below BX0.out)
  have cx0 := (cell_of_row X0 b0 0 _ _ _ R0.out).trans rfl
  have cx1 := (cell_of_row X0 b0 1 _ _ _ R0.out).trans rfl
  have cx2 := (cell_of_row X0 b0 2 _ _ _ R0.out).trans rfl
  have cx3 := (cell_of_row X0 b0 3 _ _ _ R0.out).trans rfl
  have cx4 := (cell_of_row X0 b0 4 _ _ _ R0.out).trans rfl
  clear h hB hn hk hR hM hn' hb0 hX0
  unfold persV
  go_enter Tryd.func31, Tryd.ntmps31
  go_wp2_with fail
  rw [← HX0.out, ← HB0.out]
  refine (ref_name_c nm (by have := HNM.out; omega) X0).mono ?_
  rintro e w1 ⟨rfl, rfl⟩
  cases c1 : okName nm with
  | false =>
    go_wp2
    go_ret
    exact RAddPost.bad 2 (by rw [← HN.out]; exact addS_name M nm n fl li re c1) (by decide) rfl H.out BX0.out
  | true =>
    by_cases c2 : n = 16
    · subst c2
      by_cases c3 : fl < 0
      · go_wp2
        go_ret
        exact RAddPost.bad 2 (by rw [← HN.out]; exact addS_num M nm _ fl li re c1 rfl (Or.inl c3)) (by decide) rfl H.out BX0.out
      · by_cases c4 : 15 < fl
        · go_wp2
          go_ret
          exact RAddPost.bad 2 (by rw [← HN.out]; exact addS_num M nm _ fl li re c1 rfl (Or.inr (Or.inl c4))) (by decide) rfl H.out BX0.out
        · by_cases c5 : li < 1
          · have HC := Lib.hid (show addS M nm 16 fl li re = 2 from addS_num M nm _ fl li re c1 rfl (Or.inr (Or.inr (by
              by_cases e : li = 0
              · exact Or.inl e
              · exact Or.inr (Or.inr (all_no1 (okTime_low c5 e)))))))
            go_wp2
            go_ret
            exact RAddPost.bad 2 (by rw [← HN.out]; exact HC.out) (by decide) rfl H.out BX0.out
          · cases c6 : okTime li with
            | false =>
              have HC := Lib.hid (show addS M nm 16 fl li re = 2 from addS_num M nm _ fl li re c1 rfl (Or.inr (Or.inr (Or.inr (Or.inr (all_no1 c6))))))
              go_wp2_with fail
              refine (ref_time_c li X0).mono ?_
              rw [c6]
              rintro e w1 ⟨rfl, rfl⟩
              go_wp2
              go_ret
              exact RAddPost.bad 2 (by rw [← HN.out]; exact HC.out) (by decide) rfl H.out BX0.out
            | true =>
              by_cases c7 : re < 1
              · have HC := Lib.hid (show addS M nm 16 fl li re = 2 from addS_num M nm _ fl li re c1 rfl (Or.inr (Or.inr (Or.inr (by
                  by_cases e : re = 0
                  · exact Or.inl e
                  · exact Or.inr (all_no2 (okTime_low c7 e)))))))
                go_wp2_with fail
                refine (ref_time_c li X0).mono ?_
                rw [c6]
                rintro e w1 ⟨rfl, rfl⟩
                go_wp2
                go_ret
                exact RAddPost.bad 2 (by rw [← HN.out]; exact HC.out) (by decide) rfl H.out BX0.out
              · cases c8 : okTime re with
                | false =>
                  have HC := Lib.hid (show addS M nm 16 fl li re = 2 from addS_num M nm _ fl li re c1 rfl (Or.inr (Or.inr (Or.inr (Or.inr (all_no2 c8))))))
                  go_wp2_with fail
                  refine (ref_time_c li X0).mono ?_
                  rw [c6]
                  rintro e w1 ⟨rfl, rfl⟩
                  go_wp2_with fail
                  refine (ref_time_c re X0).mono ?_
                  rw [c8]
                  rintro e w1 ⟨rfl, rfl⟩
                  go_wp2
                  go_ret
                  exact RAddPost.bad 2 (by rw [← HN.out]; exact HC.out) (by decide) rfl H.out BX0.out
                | true =>
                  go_wp2_with fail
                  refine (ref_time_c li X0).mono ?_
                  rw [c6]
                  rintro e w1 ⟨rfl, rfl⟩
                  go_wp2_with fail
                  refine (ref_time_c re X0).mono ?_
                  rw [c8]
                  rintro e w1 ⟨rfl, rfl⟩
                  have HOK := Lib.hid (addS_ok M nm 16 fl li re c1 rfl (by simp [c6, c8]; omega))
                  go_wp2_with fail
                  have hfc := rfind_c B q v M nm X0 RA0.out (by have := HM.out; omega)
                  refine hfc.mono ?_
                  clear hfc
                  intro e w3 hpost
                  obtain ⟨hb3, hp1, hp2⟩ := hpost
                  have B3 := Lib.hid (BX0.out.trans (hb3.mono BX0.out.size)); have H3 := Lib.hid hb3
                  have R3 := Lib.hid (blk_below R0.out hb3 (Array.getElem?_eq_some_iff.1 R0.out).1)
                  cases hf : findE M nm with
                  | some x =>
                    obtain ⟨A2, d2, rfl, _, _⟩ := hp2 x hf
                    have HC := Lib.hid (show addS M nm 16 fl li re = 6 by rw [HOK.out, hf]; rfl)
                    unfold persV
                    clear hp1 hp2 hb3
                    go_wp2
                    go_ret
                    exact RAddPost.bad 6 (by rw [← HN.out]; exact HC.out) (by decide) rfl H.out (below_alloc B3.out _)
                  | none =>
                    obtain rfl := hp1 hf
                    have HC := Lib.hid (show addS M nm 16 fl li re = 0 by rw [HOK.out, hf, if_neg (by decide), if_neg (by have := HM.out; omega)])
                    unfold noneV persV
                    clear hp1 hp2 hb3 hf
                    obtain ⟨X4, hX4⟩ : ∃ X, X = w3.alloc (.cells #[.string ByteArray.empty, .slice none 0 0, .int .i64 0, .int .i64 0, .int .i64 0] 45) := ⟨_, rfl⟩
                    have hb4 : Below w3.heap.size w3 X4 := by rw [hX4]; exact below_alloc (Below.refl _ _) _
                    have B4 := Lib.hid (B3.out.trans (hb4.mono B3.out.size)); have H4 := Lib.hid (H3.out.trans (hb4.mono H3.out.size))
                    have R4 := Lib.hid (blk_below R3.out hb4 (Array.getElem?_eq_some_iff.1 R3.out).1)
                    have RA4 := Lib.hid (RA0.out.below H4.out)
                    have HX4 := Lib.hid hX4
                    have sh : ∃ vA vn vc, v = .slice vA vn vc ∧ vn = M.length := by
                      rcases RA4.out.own with ⟨e, h0⟩ | ⟨g, cap, cur, e, _⟩
                      · exact ⟨_, _, _, e, by rw [h0]; rfl⟩
                      · exact ⟨_, _, _, e, rfl⟩
                    obtain ⟨vA, vn, vc, rfl, hvn⟩ := sh
                    have HVN := Lib.hid hvn
                    have hvn2 : vn ≤ 100 := by rw [hvn]; exact HM.out
                    have cv : X4.cell? ⟨q, 0, none⟩ = some (.slice vA vn vc) := (cell_of_row X4 q 0 _ _ _ RA4.out.row).trans rfl
                    have cb1 := (cell_of_row X4 b0 1 _ _ _ R4.out).trans rfl
                    have hlt256 : ¬ (256 : Int) ≤ (vn : Int) := by omega
                    rw [HX4.out] at cv cb1
                    clear hb4 hX4 hvn
                    go_wp2_with fail
                    rw [← HX4.out]
                    clear cv cb1
                    have hbc := bytes_c A c key X4 (by rw [← HN.out]; decide) (HR.out.below B4.out)
                    rw [← HN.out] at hbc
                    refine hbc.mono ?_
                    clear hbc
                    rintro e w5 ⟨v5, rfl, ho5, hb5⟩
                    obtain ⟨A5, d5, rfl, _, hr5, hge⟩ := ho5.reads3 (by rw [← HN.out]; decide)
                    rw [← HN.out]
                    obtain ⟨b5, o5, rfl, _, _⟩ := hr5.addr (by rw [← HN.out]; decide)
                    obtain ⟨hge5, ho5'⟩ := hge _ rfl
                    obtain rfl : o5 = 0 := by injection ho5'
                    have B5 := Lib.hid (B4.out.trans (hb5.mono B4.out.size)); have H5 := Lib.hid (H4.out.trans (hb5.mono H4.out.size)); have R5 := Lib.hid hr5
                    have GE5 := Lib.hid (show X4.heap.size ≤ b5 from hge5)
                    have R05 := Lib.hid (blk_below R4.out hb5 (Array.getElem?_eq_some_iff.1 R4.out).1)
                    clear ho5 hb5 hr5 hge hge5 ho5'
                    rw [← row_same R05.out]
                    have hset := fun cs i v => row_set R05.out cs i v
                    have hcell := fun cs j => row_cell R05.out cs j
                    have hfro := fun cs j => row_frozen R05.out cs j
                    go_wp2_with fail
                    clear hset hcell hfro
                    obtain ⟨Z, hZ⟩ : ∃ Z, Z = w5.setRow b0 #[.string nm, .slice (some ⟨b5, 0, none⟩) 16 d5, .int .i64 fl, .int .i64 li, .int .i64 re] := ⟨_, rfl⟩
                    rw [← hZ]
                    have BZ := Lib.hid (show Below w.heap.size w Z by rw [hZ]; exact below_setRow B5.out (by rw [HB0.out]; exact Nat.le_refl _) _)
                    have RZ0 := Lib.hid (show Z.heap[b0]? = some (.cells #[.string nm, .slice (some ⟨b5, 0, none⟩) 16 d5, .int .i64 fl, .int .i64 li, .int .i64 re] 45 (0, 0)) by rw [hZ]; exact setRow_heap _ _ _ _ _ _ R05.out)
                    have LT := Lib.hid (show b0 < X4.heap.size from (Array.getElem?_eq_some_iff.1 R4.out).1)
                    have RZ5 := Lib.hid (show RB Z (some ⟨b5, 0, none⟩) key by rw [hZ]; exact R5.out.setRow _ _ (fun ad had => by injection had with had; subst had; have := LT.out; have := GE5.out; show b5 ≠ b0; omega))
                    have RAZ := Lib.hid (H.out.below BZ.out)
                    clear hZ
                    have hown := RAZ.out.rows
                    rw [← HVN.out] at hown
                    have HOWN := Lib.hid hown
                    have hvne := fun g (hg : (Value.slice vA vn vc).ownBlock = some g) => (H.out.own_ne g hg)
                    have HVNE := Lib.hid hvne
                    clear hown hvne
                    have hq0 : Z.cell? ⟨q, 0, none⟩ = some (.slice vA vn vc) := (cell_of_row Z q 0 _ _ _ RAZ.out.row).trans rfl
                    have cz0 := (cell_of_row Z b0 0 _ _ _ RZ0.out).trans rfl
                    have cz1 := (cell_of_row Z b0 1 _ _ _ RZ0.out).trans rfl
                    have cz2 := (cell_of_row Z b0 2 _ _ _ RZ0.out).trans rfl
                    have cz3 := (cell_of_row Z b0 3 _ _ _ RZ0.out).trans rfl
                    have cz4 := (cell_of_row Z b0 4 _ _ _ RZ0.out).trans rfl
                    obtain ⟨S, hS⟩ : ∃ S : World → Prop, S = fun w' => (∀ j, w'.cell? ⟨q, j, none⟩ = Z.cell? ⟨q, j, none⟩) ∧ ∀ j, w'.cell? ⟨b0, j, none⟩ = Z.cell? ⟨b0, j, none⟩ := ⟨_, rfl⟩
                    have SZ : S Z := by rw [hS]; exact ⟨fun _ => rfl, fun _ => rfl⟩
                    have SS := Lib.hid (show ∀ w', S w' → (∀ j, w'.cell? ⟨q, j, none⟩ = Z.cell? ⟨q, j, none⟩) ∧ ∀ j, w'.cell? ⟨b0, j, none⟩ = Z.cell? ⟨b0, j, none⟩ from fun w' h => by rw [hS] at h; exact h)
                    have SM := Lib.hid (show ∀ w', (∀ j, w'.cell? ⟨q, j, none⟩ = Z.cell? ⟨q, j, none⟩) → (∀ j, w'.cell? ⟨b0, j, none⟩ = Z.cell? ⟨b0, j, none⟩) → S w' from fun w' h1 h2 => by rw [hS]; exact ⟨h1, h2⟩)
                    have HSZ := Lib.hid SZ
                    clear hS SZ
                    refine Last.region_hold S [0, 1, 2, 3, 4, 5] [6, 7, 8, 9, 10] [8, 9, 10] (by kernel_rfl) (by kernel_rfl) (fun d _ _ _ _ h => by cases d <;> exact h) (SM.out _ (fun _ => rfl) (fun _ => rfl)) ?_
                    refine Last.hold_move _ _ rfl rfl rfl ?_
                    refine Last.hold_move _ _ rfl rfl rfl ?_
                    refine Last.hold_read _ (.pointer (some ⟨q, 0, none⟩)) rfl rfl (fun W' _ => ?_) ?_
                    · go_simp
                    refine Last.hold_read _ (.pointer (some ⟨q, 0, none⟩)) rfl rfl (fun W' _ => ?_) ?_
                    · go_simp
                    refine Last.hold_read _ (.slice vA vn vc) rfl rfl (fun W' hW => ?_) ?_
                    · have hw := ((SS.out W' hW).1 0).trans hq0
                      go_simp
                    refine Last.hold_read _ (.agg #[.string nm, .slice (some ⟨b5, 0, none⟩) 16 d5, .int .i64 fl, .int .i64 li, .int .i64 re]) rfl rfl (fun W' hW => ?_) ?_
                    · obtain ⟨_, hw2⟩ := SS.out W' hW
                      have e0 := (hw2 0).trans cz0
                      have e1 := (hw2 1).trans cz1
                      have e2 := (hw2 2).trans cz2
                      have e3 := (hw2 3).trans cz3
                      have e4 := (hw2 4).trans cz4
                      clear hw2
                      go_simp
                    show Last.wpMid _ _ _ _ _ _ _ _
                    have hb8 : Below Z.heap.size Z ((Z.drewN 1).alloc (.cells #[.string nm, .slice (some ⟨b5, 0, none⟩) 16 d5, .int .i64 fl, .int .i64 li, .int .i64 re] 45)) := below_alloc (below_drewN (Below.refl _ _) 1) _
                    have hql : q < Z.heap.size := (Array.getElem?_eq_some_iff.1 RAZ.out.row).1
                    have hbl : b0 < Z.heap.size := (Array.getElem?_eq_some_iff.1 RZ0.out).1
                    refine Last.mid_run _ (.slice (some ⟨Z.heap.size, 0, none⟩) 1 1) ((Z.drewN 1).alloc (.cells #[.string nm, .slice (some ⟨b5, 0, none⟩) 16 d5, .int .i64 fl, .int .i64 li, .int .i64 re] 45)) rfl rfl (by go_simp) (fun _ _ => SM.out _ (fun j => hb8.cell (p := ⟨q, j, none⟩) hql) (fun j => hb8.cell (p := ⟨b0, j, none⟩) hbl)) ?_
                    obtain ⟨E, hE⟩ : ∃ E : Ent, E = ⟨nm, b5, d5, key, fl, li, re⟩ := ⟨_, rfl⟩
                    have HE := Lib.hid hE
                    have hEc : E.cells = [.string nm, .slice (some ⟨b5, 0, none⟩) 16 d5, .int .i64 fl, .int .i64 li, .int .i64 re] := by rw [hE]; rfl
                    obtain ⟨i, hi, hz0, hz1, hz2⟩ := info_parts info_rpers
                    have hv8 : ((Z.drewN 1).alloc (.cells #[.string nm, .slice (some ⟨b5, 0, none⟩) 16 d5, .int .i64 fl, .int .i64 li, .int .i64 re] 45)).ownsRow B 45 5 (.slice vA vn vc) vn (rowsOf M) := ownsRow_onlyS (S := fun _ => False) HOWN.out (OnlyS.of_below hb8) (fun _ _ h => h)
                    have hZB : B ≤ Z.heap.size := Nat.le_trans HBB.out BZ.out.size
                    have hnew : ∀ j u, E.cells[j]? = some u → ((Z.drewN 1).alloc (.cells #[.string nm, .slice (some ⟨b5, 0, none⟩) 16 d5, .int .i64 fl, .int .i64 li, .int .i64 re] 45)).cell? ((⟨Z.heap.size, 0, none⟩ : Addr).add j) = some u := fun j u hu => by
                      rw [add_plain, Nat.zero_add, cell_of_row _ Z.heap.size j _ _ _ (blk_new (w := Z.drewN 1) _ rfl)]
                      rw [hEc] at hu
                      simpa using hu
                    have hone : ∀ u ∈ E.cells, u.oneCell' = true := fun u hu => by
                      rw [hEc] at hu
                      simp at hu
                      rcases hu with rfl | rfl | rfl | rfl | rfl <;> rfl
                    obtain ⟨v1, w9, hr, g1, g2, g3⟩ := run_append_own (P := Tryd.prog) ((Z.drewN 1).alloc (.cells #[.string nm, .slice (some ⟨b5, 0, none⟩) 16 d5, .int .i64 fl, .int .i64 li, .int .i64 re] 45)) B 58 58 45 i (.agg #[.string ByteArray.empty, .slice none 0 0, .int .i64 0, .int .i64 0, .int .i64 0]) 5 64 Tryd.underlying58 hi hz0 hz1 hz2 rfl (by decide) (.slice vA vn vc) vn (rowsOf M) hv8 ⟨Z.heap.size, 0, none⟩ 1 1 E.cells (by rw [hEc]; rfl) hnew hone (by unfold maxLen; omega) (by omega) (Nat.le_trans hZB hb8.size)
                    have hqv : ∀ k, some k ≠ (Value.slice vA vn vc).ownBlock → k < Z.heap.size → w9.heap[k]? = Z.heap[k]? := fun k h1 h2 => (g2.block k (Nat.lt_of_lt_of_le h2 hb8.size) h1).trans (hb8.block k h2)
                    have hqq : some q ≠ (Value.slice vA vn vc).ownBlock := fun e => (HVNE.out q e.symm).1 rfl
                    have hbb : some b0 ≠ (Value.slice vA vn vc).ownBlock := fun e => by
                      have h1 := (HVNE.out b0 e.symm).2
                      rw [HB0.out] at h1
                      exact Nat.lt_irrefl _ h1
                    refine Last.mid_append _ _ _ 58 rfl rfl rfl (.slice vA vn vc) (.slice (some ⟨Z.heap.size, 0, none⟩) 1 1) (by kernel_rfl) (by kernel_rfl) v1 w9 hr (fun _ _ => SM.out _ (fun j => World.cell?_of_block (a := ⟨q, j, none⟩) (hqv q hqq hql)) (fun j => World.cell?_of_block (a := ⟨b0, j, none⟩) (hqv b0 hbb hbl))) ?_
                    refine Last.mid_tail 8 (by kernel_rfl) (by decide) ?_
                    simp only [List.drop_succ_cons, List.drop_zero]
                    rw [← rowsOf_snoc] at g1
                    have hlen : vn + 1 = (M ++ [E]).length := by rw [HVN.out]; simp
                    rw [hlen] at g1
                    have hlt := H.out.own_ne
                    have hge5 := GE5.out
                    have hw4 : w.heap.size ≤ X4.heap.size := B4.out.size
                    have hEb : E.blk = b5 := by rw [hE]
                    have hlq : q < w.heap.size := (Array.getElem?_eq_some_iff.1 H.out.row).1
                    obtain ⟨k1, k2, k3⟩ := RAZ.out.grow E (by rw [hE]; exact RZ5.out) (by rw [hE]; exact HN.out.symm) (by have := HBB.out; omega) (by omega) (fun g hg => by have := (hlt g hg).2; omega) hb8 g2 g1
                    have K1 := Lib.hid k1; have K2 := Lib.hid ((OnlyS.of_below (S := rbS q (.slice vA vn vc)) BZ.out).trans k2); have K3 := Lib.hid k3; have K4 := Lib.hid (show w.heap.size ≤ b5 by omega)
                    obtain ⟨v1A, v1n, v1c, hv1⟩ : ∃ a n c, v1 = .slice a n c := by
                      rcases k1.own with ⟨e, _⟩ | ⟨g, cap, cur, e, _⟩
                      · exact ⟨_, _, _, e⟩
                      · exact ⟨_, _, _, e⟩
                    subst hv1
                    clear hb8 hql hbl hE hEc hi hz0 hz1 hz2 hv8 hZB hnew hone hr g1 g2 g3 hqv hqq hbb hlen hlt hge5 hw4 hEb hlq k1 k2 k3 cz0 cz1 cz2 cz3 cz4 hq0
                    rw [← row_same K3.out]
                    have hset := fun cs i v => row_set K3.out cs i v
                    have hcell := fun cs j => row_cell K3.out cs j
                    have hfro := fun cs j => row_frozen K3.out cs j
                    go_wp2
                    go_ret
                    refine ⟨by rw [← HN.out, HC.out]; rfl, K2.out, fun hne => absurd (by rw [← HN.out]; exact HC.out) hne, fun _ => ⟨.slice v1A v1n v1c, b5, d5, K4.out, ?_⟩⟩
                    rw [← HE.out]
                    exact K1.out
    · have c2' : ¬ (n : Int) = 16 := by omega
      have HC := Lib.hid (show addS M nm n fl li re = 2 from addS_key M nm n fl li re c2)
      go_wp2
      go_ret
      exact RAddPost.bad 2 (by rw [← HN.out]; exact HC.out) (by decide) rfl H.out BX0.out
end Go.Proofs.YteplaginenhfkaaDoor
namespace Go.Proofs.YteplaginenhfkaaDoor
open Go.RowKit

theorem run_slice_str (s : ByteArray) (hi : Nat) (h : hi ≤ s.size) (W : World) : (Instr.slice 9 (.string s) none (some (.int .i64 (hi : Int))) none).run Tryd.prog W = .ok (.string (s.extract 0 hi)) W := by
  have h1 := run_bound .i64 hi s.size .sliceAlen h W
  unfold Instr.slice Instr.sliceBounds
  simp only [Sem.run_bind, run_underlying Tryd.underlying9 W, Result.andThen_ok, Sem.run_pure, h1]
  simp [Sem.run_pure, Sem.run_bind, h1]
def cutS (s : ByteArray) (n : Nat) : ByteArray := s.extract 0 (min s.size n)
theorem cutS_size (s : ByteArray) (n : Nat) : (cutS s n).size ≤ n := by
  unfold cutS
  rw [ByteArray.size_extract]
  omega
theorem min_len (x n : Nat) (k : Int) (hk : k = (n : Int)) : (if k < (x : Int) then k else (x : Int)) = ((min x n : Nat) : Int) := by
  subst hk
  split <;> omega
def ShortPost (w : World) (nm : ByteArray) (key : List UInt8) (fl li re : Int) (e : Ending) (w' : World) : Prop :=
  ∃ A c, e = .returned (persV (cutS nm 100) A (key.take 40).length c fl li re) ∧ RB w' A (key.take 40) ∧ Below w.heap.size w w'
set_option maxRecDepth 100000 in
set_option maxHeartbeats 4000000 in
theorem short_c (nm : ByteArray) (A : Option Addr) (c : Nat) (key : List UInt8) (fl li re : Int) (w : World) (hn : nm.size ≤ 140737488351232) (hc : key.length ≤ c) (hR : RB w A key) :
    Calls Tryd.prog 30 #[persV nm A key.length c fl li re] w (ShortPost w nm key fl li re) := by
  have hz := zeroPers
  have HR := Lib.hid hR
  obtain ⟨n, hn'⟩ : ∃ n, n = key.length := ⟨_, rfl⟩
  rw [← hn']
  have HN := Lib.hid hn'
  have hn63 : n ≤ 140737488351232 := by rw [hn']; exact hR.1
  rw [← hn'] at hc
  obtain ⟨m1, hm1⟩ : ∃ m, m = min nm.size 100 := ⟨_, rfl⟩
  obtain ⟨m2, hm2⟩ : ∃ m, m = min n 40 := ⟨_, rfl⟩
  have hk1 := min_len nm.size 100 100 rfl
  have hk2 := min_len n 40 40 rfl
  rw [← hm1] at hk1
  rw [← hm2] at hk2
  obtain ⟨S1, hS1⟩ : ∃ s, s = cutS nm 100 := ⟨_, rfl⟩
  have hsl1 := fun W => run_slice_str nm m1 (by omega) W
  rw [hm1, show nm.extract 0 (min nm.size 100) = S1 from hS1.symm, ← hm1] at hsl1
  have hsl2 := fun W => run_slice_to A n c m2 (by omega) W
  obtain ⟨X, hX⟩ : ∃ X, X = (w.alloc (.cells #[.string nm, .slice A n c, .int .i64 fl, .int .i64 li, .int .i64 re] 50)).alloc (.cells #[.string ByteArray.empty, .slice none 0 0, .int .i64 0, .int .i64 0, .int .i64 0] 50) := ⟨_, rfl⟩
  obtain ⟨b0, hb0⟩ : ∃ b0, b0 = w.heap.size := ⟨_, rfl⟩
  have HX := Lib.hid hX; have HB0 := Lib.hid hb0; have HS1 := Lib.hid hS1; have HM1 := Lib.hid hm1; have HM2 := Lib.hid hm2; have HSL1 := Lib.hid hsl1; have HSL2 := Lib.hid hsl2; have HK1 := Lib.hid hk1; have HK2 := Lib.hid hk2
  have BX := Lib.hid (show Below w.heap.size w X by rw [hX]; exact below_alloc (below_alloc (Below.refl _ _) _) _)
  have RX := Lib.hid (show X.heap[b0]? = some (.cells #[.string nm, .slice A n c, .int .i64 fl, .int .i64 li, .int .i64 re] 50 (0, 0)) by rw [hX, hb0]; exact blk_old _ (blk_new _ rfl))
  have RY := Lib.hid (show X.heap[b0 + 1]? = some (.cells #[.string ByteArray.empty, .slice none 0 0, .int .i64 0, .int .i64 0, .int .i64 0] 50 (0, 0)) by rw [hX, hb0]; exact blk_new _ (by simp))
  have XS := Lib.hid (show X.heap.size = b0 + 2 by rw [hX, hb0]; simp)
  have CX := Lib.hid (show ∀ W', Below X.heap.size X W' → (W'.cell? ⟨b0, 0, none⟩ = some (.string nm) ∧ W'.cell? ⟨b0, 1, none⟩ = some (.slice A n c)) from fun W' hW => by
    have hr := blk_below RX.out hW (Array.getElem?_eq_some_iff.1 RX.out).1
    refine ⟨?_, ?_⟩ <;> (rw [cell_of_row W' b0 _ _ _ _ hr]; rfl))
  unfold persV
  clear hR hn' hc hm1 hm2 hk1 hk2 hS1 hsl1 hsl2 hX hb0
  go_enter Tryd.func30, Tryd.ntmps30
  go_wp2_with fail
  rw [← HX.out, ← HB0.out]
  refine Last.region_hold (fun w' => Below X.heap.size X w') [0, 1, 2, 3, 4, 5, 6, 7, 8, 9, 10, 11, 12, 13, 15] [14, 16, 17, 18] [16, 17, 18] (by kernel_rfl) (by kernel_rfl) (fun d _ _ _ _ h => by cases d <;> exact h) (below_drewN (Below.refl _ _) 1) ?_
  refine Last.hold_read _ (.pointer (some ⟨b0, 0, none⟩)) rfl rfl (fun W' _ => ?_) ?_
  · go_simp
  refine Last.hold_read _ (.string nm) rfl rfl (fun W' hW => ?_) ?_
  · have hc := (CX.out W' hW).1
    go_simp
  refine Last.hold_read _ (.pointer (some ⟨b0, 0, none⟩)) rfl rfl (fun W' _ => ?_) ?_
  · go_simp
  refine Last.hold_read _ (.string nm) rfl rfl (fun W' hW => ?_) ?_
  · have hc := (CX.out W' hW).1
    go_simp
  refine Last.hold_read _ (.int .i64 (nm.size : Int)) rfl rfl (fun W' hW => ?_) ?_
  · go_simp
  refine Last.hold_read _ (.int .i64 (m1 : Int)) rfl rfl (fun W' hW => ?_) ?_
  · have hc := HK1.out
    go_simp
  refine Last.hold_read _ (.string S1) rfl rfl (fun W' hW => ?_) ?_
  · have hc := HSL1.out W'
    go_simp
  refine Last.hold_read _ (.pointer (some ⟨b0, 1, none⟩)) rfl rfl (fun W' _ => ?_) ?_
  · go_simp
  refine Last.hold_read _ (.slice A n c) rfl rfl (fun W' hW => ?_) ?_
  · have hc := (CX.out W' hW).2
    go_simp
  refine Last.hold_read _ (.pointer (some ⟨b0, 1, none⟩)) rfl rfl (fun W' _ => ?_) ?_
  · go_simp
  refine Last.hold_read _ (.slice A n c) rfl rfl (fun W' hW => ?_) ?_
  · have hc := (CX.out W' hW).2
    go_simp
  refine Last.hold_read _ (.int .i64 (n : Int)) rfl rfl (fun W' hW => ?_) ?_
  · go_simp
  refine Last.hold_read _ (.int .i64 (m2 : Int)) rfl rfl (fun W' hW => ?_) ?_
  · have hc := HK2.out
    go_simp
  refine Last.hold_read _ (.slice A m2 c) rfl rfl (fun W' hW => ?_) ?_
  · have hc := HSL2.out W'
    go_simp
  refine Last.hold_read _ (.pointer (some ⟨b0, 0, none⟩)) rfl rfl (fun W' _ => ?_) ?_
  · go_simp
  show Last.wpMid _ _ _ _ _ _ _ _
  obtain ⟨key2, hkey2⟩ : ∃ k, k = key.take 40 := ⟨_, rfl⟩
  have hl2 : m2 = key2.length := by rw [hkey2, List.length_take, ← HN.out, HM2.out]; omega
  have hl40 : key2.length ≤ 40 := by have := HM2.out; omega
  have hbc := bytes_c A c key2 (X.drewN 1) (by omega) (by rw [hkey2]; exact ((HR.out.below BX.out).take 40).drewN 1)
  rw [← hl2] at hbc
  refine Last.mid_call _ 12 #[.slice A m2 c] rfl rfl (by kernel_rfl) ?_
  refine hbc.mono ?_
  clear hbc
  rintro e w3 ⟨v3, rfl, ho3, hb3⟩
  obtain ⟨A3, d3, rfl, _, hr3, hge⟩ := ho3.reads3 (by omega)
  rw [← hl2]
  have B3 := Lib.hid (show Below X.heap.size X w3 from (below_drewN (Below.refl _ _) 1).trans hb3)
  refine ⟨_, rfl, fun _ _ => B3.out, ?_⟩
  refine Last.mid_tail 16 (by kernel_rfl) (by decide) ?_
  simp only [List.drop_succ_cons, List.drop_zero]
  have R03 := Lib.hid (blk_below RX.out B3.out (Array.getElem?_eq_some_iff.1 RX.out).1)
  have RY3 := Lib.hid (blk_below RY.out B3.out (Array.getElem?_eq_some_iff.1 RY.out).1)
  have R3 := Lib.hid hr3; have L2 := Lib.hid hl2; have KEY2 := Lib.hid hkey2
  have GE := Lib.hid (show ∀ ad, A3 = some ad → ad.block ≠ b0 ∧ ad.block ≠ b0 + 1 from fun ad had => by have h1 := (hge ad had).1; have h2 := XS.out; have h3 : (X.drewN 1).heap.size = X.heap.size := rfl; omega)
  have HZR := Lib.hid (fun cs => (setRow_other w3 b0 (b0 + 1) cs (by omega)).trans RY3.out)
  clear hb3 ho3 hr3 hge hl2 hkey2 hl40
  rw [← row_same R03.out]
  have hset := fun cs i v => row_set R03.out cs i v
  have hcell := fun cs j => row_cell R03.out cs j
  have hfro := fun cs j => row_frozen R03.out cs j
  go_wp2_with (with_reducible refine wpList_store_any rfl 50 _ _ rfl (b0 + 1) [.string S1, .slice A3 m2 d3, .int .i64 fl, .int .i64 li, .int .i64 re] rfl rfl 50 _ (HZR.out _) 5 (by kernel_rfl) rfl rfl (by simp [Value.oneCell']) ?_ rfl)
  refine bodyPost_ret (v := .agg #[.string S1, .slice A3 m2 d3, .int .i64 fl, .int .i64 li, .int .i64 re]) ?_ rfl ?_
  · exact results_cell_row rfl _ _ (b0 + 1) _ _ (0, 0) _ rfl (setRow_heap _ _ _ _ _ _ (HZR.out _)) Tryd.underlying50 rfl (by kernel_rfl)
  · have hbw := HB0.out
    refine ⟨A3, d3, ?_, ?_, below_setRow (below_setRow (BX.out.trans (B3.out.mono BX.out.size)) (by omega) _) (by omega) _⟩
    · rw [← KEY2.out, ← L2.out, ← HS1.out]
      rfl
    · rw [← KEY2.out]
      exact (R3.out.setRow _ _ (fun ad had => (GE.out ad had).1)).setRow _ _ (fun ad had => (GE.out ad had).2)
end Go.Proofs.YteplaginenhfkaaDoor
