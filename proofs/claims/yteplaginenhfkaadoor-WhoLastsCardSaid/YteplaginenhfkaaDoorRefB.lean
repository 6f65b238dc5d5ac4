/-
  The reference of layer 4: Block.
-/
import Derived.Test.YteplaginenhfkaaDoorRefA
import Derived.Test.YteplaginenhfkaaDoorLast
set_option linter.unusedVariables false
set_option linter.unusedSimpArgs false
namespace Go.Proofs.YteplaginenhfkaaDoor
open Go.RowKit

theorem Sen.wds_snoc_small (b : List UInt8) (k : Nat) (h : k < 16) : Sen.wds b k ++ [Sen.wd b k] = Sen.wds b (k + 1) := by simp [Sen.wds, h]
theorem word_int (b : List UInt8) (k : Nat) (x0 x1 x2 x3 : Nat) (h0 : x0 = (b.getD (4 * k) 0).toNat) (h1 : x1 = (b.getD (4 * k + 1) 0).toNat) (h2 : x2 = (b.getD (4 * k + 2) 0).toNat) (h3 : x3 = (b.getD (4 * k + 3) 0).toNat) :
    (x0 : Int) * 16777216 + (x1 : Int) * 65536 + (x2 : Int) * 256 + (x3 : Int) = ((Sen.wd b k : Nat) : Int) := by
  subst h0 h1 h2 h3; unfold Sen.wd; omega

theorem xor3_64 (a b c : Nat) (ha : a < 4294967296) (hb : b < 4294967296) (hc : c < 4294967296) : bits .xor .u64 (bits .xor .u64 (a : Int) (b : Int)) (c : Int) = ((Nat.xor (Nat.xor a b) c : Nat) : Int) := by
  rw [xor64 a b (by omega) (by omega), xor64 _ c (Nat.lt_trans (Sen.xor_lt ha hb) (by decide)) (by omega)]
theorem sig0_64 (q : Nat) (hq : q < 4294967296) : bits .xor .u64 (bits .xor .u64 ((Sen.rot q 7 : Nat) : Int) ((Sen.rot q 18 : Nat) : Int)) ((q : Int) / 8) = ((Sen.s0 q : Nat) : Int) :=
  xor3_64 _ _ (q / 8) (Sen.rot_lt q 7 hq (by decide) (by decide)) (Sen.rot_lt q 18 hq (by decide) (by decide)) (by omega)
theorem sig1_64 (q : Nat) (hq : q < 4294967296) : bits .xor .u64 (bits .xor .u64 ((Sen.rot q 17 : Nat) : Int) ((Sen.rot q 19 : Nat) : Int)) ((q : Int) / 1024) = ((Sen.s1 q : Nat) : Int) :=
  xor3_64 _ _ (q / 1024) (Sen.rot_lt q 17 hq (by decide) (by decide)) (Sen.rot_lt q 19 hq (by decide) (by decide)) (by omega)
theorem Sen.wds_snoc_great (b : List UInt8) (k : Nat) (h : ¬ k < 16) : Sen.wds b k ++ [Sen.nextW (Sen.wds b k) k] = Sen.wds b (k + 1) := by simp [Sen.wds, h]
theorem next_int (l : List Nat) (t p q r s o0 o1 : Nat) (hp : p = l.getD (t - 16) 0) (hq : q = l.getD (t - 15) 0) (hr : r = l.getD (t - 7) 0) (hs : s = l.getD (t - 2) 0) (h0 : o0 = Sen.s0 q) (h1 : o1 = Sen.s1 s) :
    ((o1 : Int) + (r : Int) + (o0 : Int) + (p : Int)) % 4294967296 = ((Sen.nextW l t : Nat) : Int) := by
  unfold Sen.nextW
  rw [← hp, ← hq, ← hr, ← hs, ← h0, ← h1]
  omega

/-- Eight words in a row. -/
def C8 (w : World) (q a b c d e f g h : Nat) : Prop :=
  w.cell? ⟨q, 0, none⟩ = some (.int .u64 (a : Int)) ∧ w.cell? ⟨q, 1, none⟩ = some (.int .u64 (b : Int)) ∧ w.cell? ⟨q, 2, none⟩ = some (.int .u64 (c : Int)) ∧ w.cell? ⟨q, 3, none⟩ = some (.int .u64 (d : Int)) ∧
  w.cell? ⟨q, 4, none⟩ = some (.int .u64 (e : Int)) ∧ w.cell? ⟨q, 5, none⟩ = some (.int .u64 (f : Int)) ∧ w.cell? ⟨q, 6, none⟩ = some (.int .u64 (g : Int)) ∧ w.cell? ⟨q, 7, none⟩ = some (.int .u64 (h : Int))
theorem C8.at {w : World} {q a b c d e f g h : Nat} (H : C8 w q a b c d e f g h) (i : Nat) (hi : i < 8) : w.cell? ⟨q, i, none⟩ = some (.int .u64 (([a, b, c, d, e, f, g, h].getD i 0 : Nat) : Int)) := by
  obtain ⟨h0, h1, h2, h3, h4, h5, h6, h7⟩ := H
  obtain rfl | rfl | rfl | rfl | rfl | rfl | rfl | rfl : i = 0 ∨ i = 1 ∨ i = 2 ∨ i = 3 ∨ i = 4 ∨ i = 5 ∨ i = 6 ∨ i = 7 := by omega
  all_goals assumption
theorem C8.of {w : World} {q a b c d e f g h : Nat} (H : ∀ i, i < 8 → w.cell? ⟨q, i, none⟩ = some (.int .u64 (([a, b, c, d, e, f, g, h].getD i 0 : Nat) : Int))) : C8 w q a b c d e f g h :=
  ⟨H 0 (by decide), H 1 (by decide), H 2 (by decide), H 3 (by decide), H 4 (by decide), H 5 (by decide), H 6 (by decide), H 7 (by decide)⟩
theorem ch_64 (e f g : Nat) (he : e < 4294967296) (hf : f < 4294967296) (hg : g < 4294967296) :
    bits .xor .u64 (bits .and .u64 (e : Int) (f : Int)) (bits .and .u64 (4294967295 - (e : Int)) (g : Int)) = ((Sen.ch e f g : Nat) : Int) := by
  rw [show (4294967295 : Int) - (e : Int) = ((4294967295 - e : Nat) : Int) by omega, and64 e f (by omega) (by omega), and64 _ g (by omega) (by omega)]
  exact xor64 _ _ (Nat.lt_trans (Sen.and_lt hf) (by decide)) (Nat.lt_trans (Sen.and_lt hg) (by decide))
theorem maj_64 (a b c : Nat) (ha : a < 4294967296) (hb : b < 4294967296) (hc : c < 4294967296) :
    bits .xor .u64 (bits .xor .u64 (bits .and .u64 (a : Int) (b : Int)) (bits .and .u64 (a : Int) (c : Int))) (bits .and .u64 (b : Int) (c : Int)) = ((Sen.maj a b c : Nat) : Int) := by
  rw [and64 a b (by omega) (by omega), and64 a c (by omega) (by omega), and64 b c (by omega) (by omega)]
  exact xor3_64 _ _ _ (Sen.and_lt hb) (Sen.and_lt hc) (Sen.and_lt hc)
theorem cell_other (w : World) (g : Nat) (cs : Array Value) (a : Addr) (h : a.block ≠ g) : (w.setRow g cs).cell? a = w.cell? a := by
  unfold World.cell?
  rw [setRow_other _ _ _ _ h]
def zeros8L : List Nat := List.replicate 8 0
theorem zero8L (w : World) : (zeroValue 94).run Tryd.prog w = .ok (.agg (wvs zeros8L).toArray) w := by kernel_rfl
/-- The first i words of the result, zeros behind. -/
def ocells (s r : List Nat) (i : Nat) : List Nat := (Sen.add8 s r).take i ++ List.replicate (8 - i) 0
theorem ocells_length (s r : List Nat) (hs : s.length = 8) (hr : r.length = 8) (i : Nat) (hi : i ≤ 8) : (ocells s r i).length = 8 := by
  simp [ocells, Sen.add8_length s r hs hr]; omega
theorem ocells_all (s r : List Nat) (hs : s.length = 8) (hr : r.length = 8) : ocells s r 8 = Sen.add8 s r := by
  simp [ocells, List.take_of_length_le (Nat.le_of_eq (Sen.add8_length s r hs hr))]
theorem ocells_set (s r : List Nat) (hs : s.length = 8) (hr : r.length = 8) (i : Nat) (hi : i < 8) : (ocells s r i).set i ((r.getD i 0 + s.getD i 0) % 4294967296) = ocells s r (i + 1) := by
  have hl : (Sen.add8 s r).length = 8 := Sen.add8_length s r hs hr
  have e : (Sen.add8 s r).take (i + 1) = (Sen.add8 s r).take i ++ [(r.getD i 0 + s.getD i 0) % 4294967296] := by
    have h : (Sen.add8 s r)[i]? = some ((r.getD i 0 + s.getD i 0) % 4294967296) := by
      unfold Sen.add8
      rw [List.getElem?_zipWith, List.getElem?_eq_getElem (by omega), List.getElem?_eq_getElem (by omega)]
      simp [List.getD_eq_getElem?_getD, List.getElem?_eq_getElem (show i < r.length by omega), List.getElem?_eq_getElem (show i < s.length by omega), Nat.add_comm]
    rw [List.take_add_one, h]
    rfl
  have ht : ((Sen.add8 s r).take i).length = i := by simp [hl]; omega
  unfold ocells
  rw [List.set_append_right _ _ (by omega), ht, Nat.sub_self, e, show 8 - i = (8 - (i + 1)) + 1 by omega, List.replicate_succ, List.set_cons_zero, List.append_assoc]
  rfl
theorem wvs_set (L : List Nat) (i x : Nat) (v : Int) (hv : v = (x : Int)) : (wvs L).set i (.int .u32 v) = wvs (L.set i x) := by
  subst hv
  simp [wvs, wv, List.map_set]
theorem wvs_some (L : List Nat) (i : Nat) (h : i < L.length) : ∃ x : Int, (wvs L)[i]? = some (.int .u32 x) := ⟨_, wvs_at L i h⟩
theorem num64 {a : Int} {b : Nat} (h : a = (b : Int)) : Value.int .u64 a = .int .u64 (b : Int) := by rw [h]

set_option maxRecDepth 100000 in
set_option maxHeartbeats 4000000 in
theorem ref_block_c (s : List Nat) (hs : s.length = 8) (hsb : ∀ x ∈ s, x < 4294967296) (b : List UInt8) (hb : b.length = 64) (w : World) :
    Calls Tryd.prog 54 #[.agg (wvs s).toArray, .agg (bvs b).toArray] w fun e w' => e = .returned (.agg (wvs (Sen.block s b)).toArray) ∧ Below w.heap.size w w' := by
  have hz8 := zero32
  have HS := Lib.hid hs; have HSB := Lib.hid hsb; have HBL := Lib.hid hb
  clear hs hsb hb
  go_enter Tryd.func54, Tryd.ntmps54
  go_wp2
  have f0 : (((w.alloc (.cells (wvs s).toArray 94)).alloc (.cells (bvs b).toArray 93)).alloc (.cells zeros8 94)).heap[w.heap.size]? = some (.cells (wvs s).toArray 94 (0, 0)) := blk_old _ (blk_old _ (blk_new _ rfl))
  have f1 : (((w.alloc (.cells (wvs s).toArray 94)).alloc (.cells (bvs b).toArray 93)).alloc (.cells zeros8 94)).heap[w.heap.size + 1]? = some (.cells (bvs b).toArray 93 (0, 0)) := blk_old _ (blk_new _ (by simp))
  have f2 : (((w.alloc (.cells (wvs s).toArray 94)).alloc (.cells (bvs b).toArray 93)).alloc (.cells zeros8 94)).heap[w.heap.size + 1 + 1]? = some (.cells zeros8 94 (0, 0)) := blk_new _ (by simp)
  have f3 : Below w.heap.size w (((w.alloc (.cells (wvs s).toArray 94)).alloc (.cells (bvs b).toArray 93)).alloc (.cells zeros8 94)) := below_alloc (below_alloc (below_alloc (Below.refl _ _) _) _) _
  have f4 : (((w.alloc (.cells (wvs s).toArray 94)).alloc (.cells (bvs b).toArray 93)).alloc (.cells zeros8 94)).heap.size = w.heap.size + 1 + 1 + 1 := by simp
  obtain ⟨W0, hW0⟩ : ∃ W0, W0 = ((w.alloc (.cells (wvs s).toArray 94)).alloc (.cells (bvs b).toArray 93)).alloc (.cells zeros8 94) := ⟨_, rfl⟩
  rw [← hW0] at f0 f1 f2 f3 f4 ⊢
  have hn := OwnQ.new W0 W0.heap.size (Nat.le_refl _)
  rw [f4] at hn
  have F0 := Lib.hid f0; have F1 := Lib.hid f1; have F2 := Lib.hid f2; have F3 := Lib.hid f3; have F4 := Lib.hid f4
  clear hW0 f0 f1 f2 f3 f4 hz8
  go_loopw [5, 6] (fun v vi wr => ∃ k : Nat, k ≤ 16 ∧ vi = .int .i64 (4 * k : Nat) ∧ OwnQ wr W0.heap.size v (Sen.wds b k) ∧ Below W0.heap.size W0 wr) (fun _ i _ => 64 - (intOf i).toNat)
  case atStart => exact ⟨0, by omega, rfl, by rw [F4.out]; exact hn, below_alloc (Below.refl _ _) _⟩
  case round =>
    obtain ⟨k, hk, rfl, hown, hB⟩ := hrel
    by_cases hlt : k < 16
    · --[1
      have d64 : decide (4 * (k : Int) < 64) = true := by simp; omega
      have kp : 0 ≤ 4 * (k : Int) := by omega
      have kn : (4 * (k : Int)).toNat = 4 * k := by omega
      have kp1 : 0 ≤ 4 * (k : Int) + 1 := by omega
      have kn1 : (4 * (k : Int) + 1).toNat = 4 * k + 1 := by omega
      have kp2 : 0 ≤ 4 * (k : Int) + 2 := by omega
      have kn2 : (4 * (k : Int) + 2).toNat = 4 * k + 2 := by omega
      have kp3 : 0 ≤ 4 * (k : Int) + 3 := by omega
      have kn3 : (4 * (k : Int) + 3).toNat = 4 * k + 3 := by omega
      have k0 : 4 * (k : Int) < 64 := by omega
      have k1 : 4 * (k : Int) + 1 < 64 := by omega
      have k2 : 4 * (k : Int) + 2 < 64 := by omega
      have k3 : 4 * (k : Int) + 3 < 64 := by omega
      have h1 := blk_below F1.out hB (by rw [F4.out]; omega)
      have hc := fun i => cell_of_row wr (w.heap.size + 1) i _ _ _ h1
      obtain ⟨x0, hx0, ex0, c0⟩ := getD_at b (4 * k) (by rw [HBL.out]; omega)
      obtain ⟨x1, hx1, ex1, c1⟩ := getD_at b (4 * k + 1) (by rw [HBL.out]; omega)
      obtain ⟨x2, hx2, ex2, c2⟩ := getD_at b (4 * k + 2) (by rw [HBL.out]; omega)
      obtain ⟨x3, hx3, ex3, c3⟩ := getD_at b (4 * k + 3) (by rw [HBL.out]; omega)
      have r0 : wr.cell? ⟨w.heap.size + 1, 4 * k, none⟩ = some (.int .u8 (x0 : Int)) := (hc _).trans (by simpa using c0)
      have r1 : wr.cell? ⟨w.heap.size + 1, 4 * k + 1, none⟩ = some (.int .u8 (x1 : Int)) := (hc _).trans (by simpa using c1)
      have r2 : wr.cell? ⟨w.heap.size + 1, 4 * k + 2, none⟩ = some (.int .u8 (x2 : Int)) := (hc _).trans (by simpa using c2)
      have r3 : wr.cell? ⟨w.heap.size + 1, 4 * k + 3, none⟩ = some (.int .u8 (x3 : Int)) := (hc _).trans (by simpa using c3)
      have V := Lib.hid (word_int b k x0 x1 x2 x3 ex0 ex1 ex2 ex3)
      have HOWN := Lib.hid hown; have HB := Lib.hid hB
      clear ex0 ex1 ex2 ex3 c0 c1 c2 c3 hc h1 hown hB
      go_wp2
      refine Last.region_late 26 (by kernel_rfl) (by kernel_rfl) rfl (fun d _ _ _ _ h => by cases d <;> exact h) ?_
      simp only [List.take_succ_cons, List.take_zero, List.drop_succ_cons, List.drop_zero]
      repeat (refine wpStill_step (fun K hK => ?_); go_simp; (try go_bits); refine hK _ ?_; clear hK K)
      refine wpStill_nil ?_
      go_wp2_with (at_builtin; refine wpList_append_word rfl _ _ rfl W0.heap.size u5 (Sen.wds b k) (Sen.wd b k) _ ?_ rfl rfl ?_ ?_ ?_ ?_; exact V.out; exact HOWN.out; exact HB.out.size; rw [Sen.wds_length]; omega; intro v1 w1 ho1 hg1)
      go_roundw
      case rel =>
        refine ⟨k + 1, by omega, by go_num, by rw [← Sen.wds_snoc_small b k hlt]; exact ho1, ?_⟩
        exact ownQ_below (below_alloc (below_drewN HB.out 1) _) ((HOWN.out.drewN 1).below (below_alloc (Below.refl _ _) _)) hg1 (Nat.le_refl _) (by have := HB.out.size; simp; omega)
      case measure => simp [intOf]; omega
      --]1
    · obtain rfl : k = 16 := by omega
      clear hlt hk
      rw [show ((4 * 16 : Nat) : Int) = 64 from rfl]
      go_wp2
      go_loopw [5, 7] (fun v vi wr => ∃ t : Nat, 16 ≤ t ∧ t ≤ 64 ∧ vi = .int .i64 t ∧ OwnQ wr W0.heap.size v (Sen.wds b t) ∧ Below W0.heap.size W0 wr) (fun _ i _ => 64 - (intOf i).toNat)
      case atStart => exact ⟨16, by omega, by omega, rfl, hown, hB⟩
      case round =>
        clear hown hB
        obtain ⟨t, ht16, ht, rfl, hown, hB⟩ := hrel
        by_cases hlt : t < 64
        · --[2
          have d64 : decide ((t : Int) < 64) = true := by simp; omega
          have t64 : (t : Int) < 64 := by omega
          have a15 : 0 ≤ (t : Int) - 15 := by omega
          have b15 : ((t : Int) - 15).toNat = t - 15 := by omega
          have c15 : (t : Int) - 15 < t := by omega
          have a2 : 0 ≤ (t : Int) - 2 := by omega
          have b2 : ((t : Int) - 2).toNat = t - 2 := by omega
          have c2 : (t : Int) - 2 < t := by omega
          have a7 : 0 ≤ (t : Int) - 7 := by omega
          have b7 : ((t : Int) - 7).toNat = t - 7 := by omega
          have c7 : (t : Int) - 7 < t := by omega
          have a16 : 0 ≤ (t : Int) - 16 := by omega
          have q7 : (7 : Int) ≤ t := by omega
          have q16 : (16 : Int) ≤ t := by omega
          have b16 : ((t : Int) - 16).toNat = t - 16 := by omega
          have c16 : (t : Int) - 16 < t := by omega
          obtain ⟨g, cap, hv, hg1, hg2, hcl⟩ := hown.at (by rw [Sen.wds_length]; omega)
          rw [Sen.wds_length] at hv hcl
          subst hv
          obtain ⟨q, hq, eq⟩ : ∃ q : Nat, q < 4294967296 ∧ q = (Sen.wds b t).getD (t - 15) 0 := ⟨_, Sen.wds_getD_lt b t _, rfl⟩
          obtain ⟨s', hs', es⟩ : ∃ q : Nat, q < 4294967296 ∧ q = (Sen.wds b t).getD (t - 2) 0 := ⟨_, Sen.wds_getD_lt b t _, rfl⟩
          obtain ⟨r, hr, er⟩ : ∃ q : Nat, q < 4294967296 ∧ q = (Sen.wds b t).getD (t - 7) 0 := ⟨_, Sen.wds_getD_lt b t _, rfl⟩
          obtain ⟨p, hp, ep⟩ : ∃ q : Nat, q < 4294967296 ∧ q = (Sen.wds b t).getD (t - 16) 0 := ⟨_, Sen.wds_getD_lt b t _, rfl⟩
          have rq : wr.cell? ⟨g, t - 15, none⟩ = some (.int .u64 (q : Int)) := by rw [hcl _ (by omega), ← eq]
          have rs : wr.cell? ⟨g, t - 2, none⟩ = some (.int .u64 (s' : Int)) := by rw [hcl _ (by omega), ← es]
          have rr : wr.cell? ⟨g, t - 7, none⟩ = some (.int .u64 (r : Int)) := by rw [hcl _ (by omega), ← er]
          have rp : wr.cell? ⟨g, t - 16, none⟩ = some (.int .u64 (p : Int)) := by rw [hcl _ (by omega), ← ep]
          obtain ⟨o0, ho0, eo0⟩ : ∃ n : Nat, n < 4294967296 ∧ n = Sen.s0 q := ⟨_, Sen.s0_lt q hq, rfl⟩
          obtain ⟨o1, ho1, eo1⟩ : ∃ n : Nat, n < 4294967296 ∧ n = Sen.s1 s' := ⟨_, Sen.s1_lt s' hs', rfl⟩
          have e0 := sig0_64 q hq
          have e1 := sig1_64 s' hs'
          rw [← eo0] at e0
          rw [← eo1] at e1
          have V := Lib.hid (next_int (Sen.wds b t) t p q r s' o0 o1 ep eq er es eo0 eo1)
          have HOWN := Lib.hid hown; have HB := Lib.hid hB
          clear eq es er ep eo0 eo1 hcl hown hB hg1 hg2
          go_wp2
          go_quiet (fail)
          go_wp2_with (first | (go_at_call 58; refine (turn_c _ (by assumption) _ (by decide) _).mono ?_; rintro e w' ⟨rfl, m, rfl⟩) | (go_at_call 59; first | (refine (rright_c q (by omega) 3 (by decide) _).mono ?_; rintro e w' ⟨rfl, rfl⟩) | (refine (rright_c s' (by omega) 10 (by decide) _).mono ?_; rintro e w' ⟨rfl, rfl⟩)))
          refine Last.region_late 16 (by kernel_rfl) (by kernel_rfl) rfl (fun d _ _ _ _ h => by cases d <;> exact h) ?_
          simp only [List.take_succ_cons, List.take_zero, List.drop_succ_cons, List.drop_zero]
          repeat (refine wpStill_step (fun K hK => ?_); go_simp; (try go_bits); refine hK _ ?_; clear hK K)
          refine wpStill_nil ?_
          rw [World.drewN_drewN]
          go_wp2_with (first | (go_at_call 60; refine (wrap_c _ (by omega) (by omega) _).mono ?_; rintro e w' ⟨rfl, rfl⟩) | (at_builtin; refine wpList_append_word rfl _ _ rfl W0.heap.size (.slice (some ⟨g, 0, none⟩) t cap) (Sen.wds b t) (Sen.nextW (Sen.wds b t) t) _ ?_ rfl rfl ?_ ?_ ?_ ?_; exact V.out; exact HOWN.out; exact HB.out.size; rw [Sen.wds_length]; omega; intro v1 w1 ho1 hg1))
          go_roundw
          case rel =>
            refine ⟨t + 1, by omega, by omega, by go_num, by rw [← Sen.wds_snoc_great b t (by omega)]; exact ho1, ?_⟩
            exact ownQ_below (below_alloc (below_drewN HB.out _) _) ((HOWN.out.drewN _).below (below_alloc (Below.refl _ _) _)) hg1 (Nat.le_refl _) (by have := HB.out.size; simp; omega)
          case measure => simp [intOf]; omega
          --]2
        · obtain rfl : t = 64 := by omega
          clear hlt ht ht16
          rw [show ((64 : Nat) : Int) = 64 from rfl]
          obtain ⟨g, cap, hv, hg1, hg2, hcl⟩ := hown.at (by rw [Sen.wds_length]; omega)
          rw [Sen.wds_length] at hv hcl
          subst hv
          have HB := Lib.hid hB; have HW := Lib.hid hcl
          have HG := Lib.hid hg2
          clear hB hcl hown hg1 hg2
          go_wp2
          have hB0 : W0.heap.size ≤ wr.heap.size := HB.out.size
          obtain ⟨W1, hW1⟩ : ∃ W1, W1 = wr := ⟨_, rfl⟩
          subst hW1
          go_loopw [12, 13] (fun v vi wx => ∃ i : Nat, i ≤ 8 ∧ vi = .int .i64 i ∧ OwnQ wx W1.heap.size v (s.take i) ∧ Below W1.heap.size W1 wx) (fun _ i _ => 8 - (intOf i).toNat)
          case atStart => exact ⟨0, by omega, rfl, OwnQ.new _ _ (Nat.le_refl _), below_alloc (Below.refl _ _) _⟩
          case round =>
            obtain ⟨i, hi, rfl, hown, hB⟩ := hrel
            by_cases hlt : i < 8
            · --[3
              have d8 : decide ((i : Int) < 8) = true := by simp; omega
              have i8 : (i : Int) < 8 := by omega
              obtain ⟨x, hx, ex, cx⟩ := getD_atw s i (by rw [HS.out]; exact hlt) HSB.out
              have h0 := blk_below (blk_below F0.out HB.out (by rw [F4.out]; omega)) hB (by rw [F4.out] at hB0; omega)
              have hc : wr.cell? ⟨w.heap.size, i, none⟩ = some (.int .u32 (x : Int)) := (cell_of_row wr w.heap.size i _ _ _ h0).trans (by simpa using cx)
              have hsn := Lib.hid (show s.take (i + 1) = s.take i ++ [x] by rw [List.take_add_one, List.getElem?_eq_getElem (by rw [HS.out]; exact hlt), ex, List.getD_eq_getElem?_getD, List.getElem?_eq_getElem (by rw [HS.out]; exact hlt)]; rfl)
              have HOWN := Lib.hid hown; have HB2 := Lib.hid hB
              clear ex cx h0 hown hB
              go_wp2_with (at_builtin; refine wpList_append_word rfl _ _ rfl W1.heap.size u12 (s.take i) x _ rfl rfl rfl ?_ ?_ ?_ ?_; exact HOWN.out; exact HB2.out.size; simp; omega; intro v1 w1 ho1 hg1)
              go_roundw
              case rel =>
                refine ⟨i + 1, by omega, by go_num, by rw [hsn.out]; exact ho1, ?_⟩
                exact ownQ_below (below_alloc HB2.out _) (HOWN.out.below (below_alloc (Below.refl _ _) _)) hg1 (Nat.le_refl _) (by have := HB2.out.size; simp; omega)
              case measure => simp [intOf]; omega
              --]3
            · obtain rfl : i = 8 := by omega
              rw [show ((8 : Nat) : Int) = 8 from rfl]
              rw [List.take_of_length_le (by rw [HS.out]; exact Nat.le_refl _)] at hown
              obtain ⟨gs, cs, hv, hgs1, hgs2, hcs⟩ := hown.at (by rw [HS.out]; omega)
              rw [HS.out] at hv hcs
              subst hv
              have hBx := HB.out.trans (hB.mono HB.out.size)
              have hW2 : ∀ i, i < 64 → wr.cell? ⟨g, i, none⟩ = some (.int .u64 (((Sen.wds b 64).getD i 0 : Nat) : Int)) := fun i hi => (hB.cell HG.out).trans (HW.out i hi)
              have hGx : g < wr.heap.size := Nat.lt_of_lt_of_le HG.out hB.size
              clear hlt hi hown
              have HBX := Lib.hid hBx; have HW2 := Lib.hid hW2; have HCS := Lib.hid hcs
              clear hBx hW2 hcs hB HB HW HG
              go_wp2_with (go_at_call 61; refine (consts_c _).mono ?_; rintro e w' ⟨rfl, rfl⟩)
              have hX : Below wr.heap.size wr (wr.alloc (.cells (qvs Sen.K).toArray 84)) := below_alloc (Below.refl _ _) _
              have hKX : ∀ i, i < 64 → (wr.alloc (.cells (qvs Sen.K).toArray 84)).cell? ⟨wr.heap.size, i, none⟩ = some (.int .u64 ((Sen.K.getD i 0 : Nat) : Int)) := fun i hi => by
                rw [cell_of_row _ wr.heap.size i _ _ _ (blk_new _ rfl)]
                simpa using qvs_at Sen.K i (by rw [Sen.K_length]; exact hi)
              have hWX := fun i hi => (hX.cell (p := ⟨g, i, none⟩) hGx).trans (HW2.out i hi)
              have hSX := fun i hi => (hX.cell (p := ⟨gs, i, none⟩) hgs2).trans (HCS.out i hi)
              have hBX := HBX.out.trans (hX.mono HBX.out.size)
              have hsX : gs < (wr.alloc (.cells (qvs Sen.K).toArray 84)).heap.size := by simp; omega
              have hgX : g < (wr.alloc (.cells (qvs Sen.K).toArray 84)).heap.size := by simp; omega
              have hkX : wr.heap.size < (wr.alloc (.cells (qvs Sen.K).toArray 84)).heap.size := by simp
              obtain ⟨gk, hgk⟩ : ∃ gk, gk = wr.heap.size := ⟨_, rfl⟩
              obtain ⟨X, hXX⟩ : ∃ X, X = wr.alloc (.cells (qvs Sen.K).toArray 84) := ⟨_, rfl⟩
              rw [← hXX] at hKX hWX hSX hBX hsX hgX hkX ⊢
              rw [← hgk] at hKX hkX ⊢
              obtain ⟨s0, s1, s2, s3, s4, s5, s6, s7, hs8⟩ := Sen.eq8 s HS.out
              have hst : C8 X gs s0 s1 s2 s3 s4 s5 s6 s7 := C8.of (by rw [← hs8]; exact hSX)
              have HS8 := Lib.hid hs8; have HKX := Lib.hid hKX; have HWX := Lib.hid hWX; have HBX := Lib.hid hBX
              clear hX hXX hgk hs8 hKX hWX hSX hBX HCS HW2 hGx hgs1 hgs2 hB0
              go_loopw [12, 15] (fun v vi wx => ∃ t q cs a b' c d e f g' h : Nat, t ≤ 64 ∧ vi = .int .i64 t ∧ v = .slice (some ⟨q, 0, none⟩) 8 cs ∧ q < wx.heap.size ∧ RNDS (Sen.wds b 64) s t [a, b', c, d, e, f, g', h] ∧ C8 wx q a b' c d e f g' h ∧ Below X.heap.size X wx) (fun _ i _ => 64 - (intOf i).toNat)
              case atStart => exact ⟨0, gs, cs, s0, s1, s2, s3, s4, s5, s6, s7, by omega, rfl, rfl, hsX, ⟨HS8.out, HSB.out⟩, hst, Below.refl _ _⟩
              case round =>
                clear hst
                obtain ⟨t, q, cs, a, b', c, d, e, f, g', h, ht, rfl, rfl, hq, hR, hC, hB⟩ := hrel
                obtain ⟨ha, hb', hc, hd, he, hf, hg', hh⟩ := hR.bounds
                have HR := Lib.hid hR
                clear hR
                by_cases hlt : t < 64
                · --[4
                  have d64 : decide ((t : Int) < 64) = true := by simp; omega
                  have t64 : (t : Int) < 64 := by omega
                  obtain ⟨kk, hkk, ekk⟩ : ∃ n : Nat, n < 4294967296 ∧ n = Sen.K.getD t 0 := ⟨_, Sen.K_getD_lt t, rfl⟩
                  obtain ⟨ww, hww, eww⟩ : ∃ n : Nat, n < 4294967296 ∧ n = (Sen.wds b 64).getD t 0 := ⟨_, Sen.wds_getD_lt b 64 t, rfl⟩
                  have rk : wr.cell? ⟨gk, t, none⟩ = some (.int .u64 (kk : Int)) := by rw [hB.cell (p := ⟨gk, t, none⟩) hkX, HKX.out t hlt, ← ekk]
                  have rw' : wr.cell? ⟨g, t, none⟩ = some (.int .u64 (ww : Int)) := by rw [hB.cell (p := ⟨g, t, none⟩) hgX, HWX.out t hlt, ← eww]
                  have HC := Lib.hid hC
                  obtain ⟨r0, r1, r2, r3, r4, r5, r6, r7⟩ := hC
                  obtain ⟨cc, hcc, ecc⟩ : ∃ n : Nat, n < 4294967296 ∧ n = Sen.ch e f g' := ⟨_, Sen.ch_lt e f g' hf hg', rfl⟩
                  obtain ⟨mj, hmj, emj⟩ : ∃ n : Nat, n < 4294967296 ∧ n = Sen.maj a b' c := ⟨_, Sen.maj_lt a b' c hb' hc, rfl⟩
                  obtain ⟨u1, hu1, eu1⟩ : ∃ n : Nat, n < 4294967296 ∧ n = Sen.S1 e := ⟨_, Sen.S1_lt e he, rfl⟩
                  obtain ⟨u0, hu0, eu0⟩ : ∃ n : Nat, n < 4294967296 ∧ n = Sen.S0 a := ⟨_, Sen.S0_lt a ha, rfl⟩
                  have x1 := ch_64 e f g' he hf hg'
                  have x2 := maj_64 a b' c ha hb' hc
                  have x3 := xor3_64 _ _ _ (Sen.rot_lt e 6 he (by decide) (by decide)) (Sen.rot_lt e 11 he (by decide) (by decide)) (Sen.rot_lt e 25 he (by decide) (by decide))
                  have x4 := xor3_64 _ _ _ (Sen.rot_lt a 2 ha (by decide) (by decide)) (Sen.rot_lt a 13 ha (by decide) (by decide)) (Sen.rot_lt a 22 ha (by decide) (by decide))
                  rw [show Nat.xor (Nat.xor (Sen.rot e 6) (Sen.rot e 11)) (Sen.rot e 25) = u1 from eu1.symm] at x3
                  rw [show Nat.xor (Nat.xor (Sen.rot a 2) (Sen.rot a 13)) (Sen.rot a 22) = u0 from eu0.symm] at x4
                  rw [← ecc] at x1
                  rw [← emj] at x2
                  have NX := Lib.hid (HR.out.next ekk eww)
                  rw [← ecc, ← emj, ← eu1, ← eu0] at NX
                  have HB := Lib.hid hB
                  clear hB ecc emj eu1 eu0 ekk eww HC
                  go_wp2
                  go_quiet (fail)
                  go_wp2
                  go_quiet (fail)
                  go_wp2
                  go_quiet (fail)
                  go_wp2
                  rw [World.drewN_drewN, World.drewN_drewN]
                  have y1 : IntKind.u64.wrap ((h : Int) + (u1 : Int)) = (h : Int) + (u1 : Int) := IntWalk.u64_in _ (by omega)
                  have y2 : IntKind.u64.wrap ((h : Int) + (u1 : Int) + (cc : Int)) = (h : Int) + (u1 : Int) + (cc : Int) := IntWalk.u64_in _ (by omega)
                  have y3 : IntKind.u64.wrap ((h : Int) + (u1 : Int) + (cc : Int) + (kk : Int)) = (h : Int) + (u1 : Int) + (cc : Int) + (kk : Int) := IntWalk.u64_in _ (by omega)
                  have y4 : IntKind.u64.wrap ((h : Int) + (u1 : Int) + (cc : Int) + (kk : Int) + (ww : Int)) = (h : Int) + (u1 : Int) + (cc : Int) + (kk : Int) + (ww : Int) := IntWalk.u64_in _ (by omega)
                  refine region_class (fun w' => ∃ n, w' = wr.drewN n) (by kernel_rfl) ⟨_, World.drewN_drewN _ _ _⟩ ?_
                  repeat (quiet_step (first | (go_at_call 58; exact (turn_c _ (by assumption) _ (by decide) _).mono fun _ _ h => ⟨h.1, by obtain ⟨m, hm⟩ := h.2; exact ⟨_, hm.trans (World.drewN_drewN _ _ _)⟩⟩) | (go_at_call 60; exact (wrap_c _ (by omega) (by omega) _).mono fun _ _ h => ⟨h.1, _, h.2⟩)))
                  refine wpQuiet_nil ?_
                  rintro _ ⟨nr, rfl⟩
                  go_wp2_with (first | (go_at_call 58; refine (turn_c _ (by assumption) _ (by decide) _).mono ?_; rintro e w' ⟨rfl, m, rfl⟩) | (go_at_call 60; refine (wrap_c _ (by omega) (by omega) _).mono ?_; rintro e w' ⟨rfl, rfl⟩))
                  refine region_tail 28 (by kernel_rfl) (World.drewN_drewN _ _ _) ?_
                  simp only [List.take_succ_cons, List.take_zero, List.drop_succ_cons, List.drop_zero]
                  repeat (refine wpStill_step (fun K hK => ?_); go_simp; (try go_bits); first | (refine hK _ ?_; clear hK K) | (refine ⟨_, wrap_c _ (by omega) (by omega) _, hK _ ?_⟩; clear hK K))
                  refine wpStill_nil ?_
                  go_wp2
                  refine ⟨⟨t + 1, wr.heap.size, 8, _, a, b', c, _, e, f, g', by omega, by go_num, rfl, by simp, NX.out, ?_, ?_⟩, by simp [intOf]; omega⟩
                  · refine ⟨?_, ?_, ?_, ?_, ?_, ?_, ?_, ?_⟩
                    · exact (cell_of_row _ wr.heap.size 0 _ _ _ (blk_new _ rfl)).trans (congrArg some (num64 (by omega)))
                    · exact cell_of_row _ wr.heap.size 1 _ _ _ (blk_new _ rfl)
                    · exact cell_of_row _ wr.heap.size 2 _ _ _ (blk_new _ rfl)
                    · exact cell_of_row _ wr.heap.size 3 _ _ _ (blk_new _ rfl)
                    · exact (cell_of_row _ wr.heap.size 4 _ _ _ (blk_new _ rfl)).trans (congrArg some (num64 (by omega)))
                    · exact cell_of_row _ wr.heap.size 5 _ _ _ (blk_new _ rfl)
                    · exact cell_of_row _ wr.heap.size 6 _ _ _ (blk_new _ rfl)
                    · exact cell_of_row _ wr.heap.size 7 _ _ _ (blk_new _ rfl)
                  · exact below_alloc (below_drewN HB.out _) _
                  --]4
                · obtain rfl : t = 64 := by omega
                  rw [show ((64 : Nat) : Int) = 64 from rfl]
                  have hrr := hC.at
                  obtain ⟨r, hr⟩ : ∃ r, r = [a, b', c, d, e, f, g', h] := ⟨_, rfl⟩
                  rw [← hr] at hrr
                  have hblk : Sen.block s b = Sen.add8 s r := by unfold Sen.block; rw [hr, ← HR.out.1]
                  have hrl : r.length = 8 := by rw [hr]; rfl
                  have hrb : ∀ x ∈ r, x < 4294967296 := by
                    have := Sen.rnds_lt (Sen.wds b 64) s 64 HSB.out
                    rw [HR.out.1] at this
                    rw [hr]; exact this
                  have hBx := HBX.out.trans (hB.mono HBX.out.size)
                  have f0 := blk_below F0.out hBx (by rw [F4.out]; omega)
                  have f2 := blk_below F2.out hBx (by rw [F4.out]; omega)
                  have f3 := F3.out.trans (hBx.mono F3.out.size)
                  have hsz := hBx.size
                  rw [F4.out] at hsz
                  have hz8 := zero8L
                  have HBLK := Lib.hid hblk
                  have F0' := Lib.hid f0; have F2' := Lib.hid f2; have F3' := Lib.hid f3; have HRL := Lib.hid hrl; have HRB := Lib.hid hrb; have HRR := Lib.hid hrr; have HQ := Lib.hid hq
                  clear hlt ht hC hr hblk hrl hrb hBx hB f0 f2 f3 hrr ha hb' hc hd he hf hg' hh HR hq
                  go_wp2_with (with_reducible refine wpList_store_any rfl 94 _ _ rfl _ (wvs zeros8L) rfl rfl 94 _ (blk_new _ rfl) 8 (by kernel_rfl) (by decide) (by kernel_rfl) (wvs_one _) ?_ rfl)
                  rw [setRow_alloc]
                  have hD : (wr.alloc (.cells (wvs zeros8L).toArray 94)).heap[wr.heap.size]? = some (.cells (wvs zeros8L).toArray 94 (0, 0)) := blk_new _ rfl
                  have h0 := blk_old (.cells (wvs zeros8L).toArray 94) F0'.out
                  have h2 := blk_old (.cells (wvs zeros8L).toArray 94) F2'.out
                  have h3 := below_alloc F3'.out (.cells (wvs zeros8L).toArray 94)
                  have hcl := fun i hi => ((below_alloc (Below.refl wr.heap.size wr) (.cells (wvs zeros8L).toArray 94)).cell (p := ⟨q, i, none⟩) HQ.out).trans (HRR.out i hi)
                  have hqD := HQ.out
                  obtain ⟨Y, hY⟩ : ∃ Y, Y = wr.alloc (.cells (wvs zeros8L).toArray 94) := ⟨_, rfl⟩
                  obtain ⟨D, hDD⟩ : ∃ D, D = wr.heap.size := ⟨_, rfl⟩
                  rw [← hY] at hD h0 h2 h3 hcl ⊢
                  rw [← hDD] at hD hqD hsz ⊢
                  have HD := Lib.hid hD; have H0 := Lib.hid h0; have H2 := Lib.hid h2; have H3 := Lib.hid h3; have HCL := Lib.hid hcl
                  clear hY hDD hD h0 h2 h3 hcl F0' F2' F3' HRR HQ hz8
                  have hset := fun cs i v => row_set HD.out cs i v
                  have hcell := fun cs j => row_cell HD.out cs j
                  have hfro := fun cs j => row_frozen HD.out cs j
                  have hsd := setCell_drewN
                  go_loopw [23] (fun vi wx => ∃ i n : Nat, i ≤ 8 ∧ vi = .int .i64 i ∧ wx = (Y.setRow D (wvs (ocells s r i)).toArray).drewN n) (fun i _ => 8 - (intOf i).toNat)
                  case atStart => exact ⟨0, 0, by omega, rfl, (row_same HD.out).symm⟩
                  case round =>
                    obtain ⟨i, n, hi, rfl, rfl⟩ := hrel
                    by_cases hi8 : i < 8
                    · --[5
                      have d8 : decide ((i : Int) < 8) = true := by simp; omega
                      have i8 : (i : Int) < 8 := by omega
                      obtain ⟨x, hx, ex, cx⟩ := getD_atw s i (by rw [HS.out]; exact hi8) HSB.out
                      obtain ⟨y, hy, ey⟩ : ∃ y : Nat, y < 4294967296 ∧ y = r.getD i 0 := ⟨_, Sen.getD_lt HRB.out (by decide) i, rfl⟩
                      have r1 : (Y.setRow D (wvs (ocells s r i)).toArray).cell? ⟨w.heap.size, i, none⟩ = some (.int .u32 (x : Int)) := (cell_other _ _ _ _ (by show w.heap.size ≠ D; omega)).trans ((cell_of_row Y _ i _ _ _ H0.out).trans (by simpa using cx))
                      have r2 : (Y.setRow D (wvs (ocells s r i)).toArray).cell? ⟨q, i, none⟩ = some (.int .u64 (y : Int)) := (cell_other _ _ _ _ (by show q ≠ D; omega)).trans (by rw [HCL.out i hi8, ← ey])
                      have hln := ocells_length s r HS.out HRL.out i hi
                      obtain ⟨z, ez⟩ := wvs_some (ocells s r i) i (by omega)
                      have SET := Lib.hid (show (wvs (ocells s r i)).set i (.int .u32 (((y : Int) + (x : Int)) % 4294967296)) = wvs (ocells s r (i + 1)) by
                        rw [wvs_set _ _ ((y + x) % 4294967296) _ (by omega), ex, ey, ocells_set s r HS.out HRL.out i hi8])
                      clear ex ey cx hln
                      go_wp2
                      refine region_tail 13 (by kernel_rfl) (World.drewN_drewN _ _ _) ?_
                      simp only [List.take_succ_cons, List.take_zero, List.drop_succ_cons, List.drop_zero]
                      repeat (refine wpStill_step (fun K hK => ?_); go_simp; (try go_bits); first | (refine hK _ ?_; clear hK K) | (refine ⟨_, wrap_c _ (by omega) (by omega) _, hK _ ?_⟩; clear hK K))
                      refine wpStill_nil ?_
                      go_wp2
                      exact ⟨⟨i + 1, n + 1, by omega, by go_num, congrArg (fun c => (Y.setRow D (List.toArray c)).drewN (n + 1)) SET.out⟩, by simp [intOf]; omega⟩
                      --]5
                    · obtain rfl : i = 8 := by omega
                      rw [show ((8 : Nat) : Int) = 8 from rfl, ocells_all s r HS.out HRL.out]
                      clear hset hcell hfro hsd
                      have hll : (wvs (Sen.add8 s r)).length = 8 := by rw [wvs_length, Sen.add8_length s r HS.out HRL.out]
                      have v1 : ((Y.setRow D (wvs (Sen.add8 s r)).toArray).drewN n).heap[D]? = some (.cells (wvs (Sen.add8 s r)).toArray 94 (0, 0)) := setRow_heap Y D _ _ _ _ HD.out
                      have v2 : ((Y.setRow D (wvs (Sen.add8 s r)).toArray).drewN n).heap[w.heap.size + 1 + 1]? = some (.cells zeros8 94 (0, 0)) := (setRow_other Y D _ _ (by omega)).trans H2.out
                      have v3 : Below w.heap.size w ((Y.setRow D (wvs (Sen.add8 s r)).toArray).drewN n) := below_drewN (below_setRow H3.out (by omega) _) n
                      obtain ⟨V, hV⟩ : ∃ V, V = (Y.setRow D (wvs (Sen.add8 s r)).toArray).drewN n := ⟨_, rfl⟩
                      rw [← hV] at v1 v2 v3 ⊢
                      have V1 := Lib.hid v1; have V2 := Lib.hid v2; have V3 := Lib.hid v3; have HLL := Lib.hid hll
                      clear v1 v2 v3 hll hV
                      go_wp2_with (first | (with_reducible refine wpList_load_any rfl 94 _ rfl D (wvs (Sen.add8 s r)) rfl 94 (0, 0) V1.out 8 87 Tryd.underlying94 (by kernel_rfl) HLL.out ?_) | (with_reducible refine wpList_store_any rfl 94 _ _ rfl (w.heap.size + 1 + 1) (wvs (Sen.add8 s r)) rfl rfl 94 _ V2.out 8 (by kernel_rfl) HLL.out (by kernel_rfl) (wvs_one _) ?_ rfl))
                      refine bodyPost_ret (v := .agg (wvs (Sen.add8 s r)).toArray) ?_ rfl ?_
                      · exact results_array rfl _ _ (w.heap.size + 1 + 1) _ _ (0, 0) 8 87 rfl (setRow_heap _ _ _ _ _ _ V2.out) Tryd.underlying94 (by kernel_rfl) HLL.out
                      · exact ⟨by rw [HBLK.out], below_setRow V3.out (by omega) _⟩
end Go.Proofs.YteplaginenhfkaaDoor
