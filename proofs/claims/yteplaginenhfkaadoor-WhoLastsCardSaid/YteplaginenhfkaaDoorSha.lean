/-
  sha: the walks of the program's SHA-256.
-/
import Derived.Test.YteplaginenhfkaaDoorBase
set_option linter.unusedVariables false
set_option linter.unusedSimpArgs false
namespace Go.Proofs.YteplaginenhfkaaDoor
open Go.RowKit

theorem rot_or_int (x n : Nat) (hx : x < 4294967296) (h1 : 1 ≤ n) (h2 : n ≤ 31) (p q : Int) (hp : p = 2 ^ (32 - n)) (hq : q = 2 ^ n) :
    bits .or .u32 ((x : Int) * p % 4294967296) ((x : Int) / q) = ((Sen.rot x n : Nat) : Int) := by
  have e1 : (x : Int) * p % 4294967296 = ((x * 2 ^ (32 - n) % 4294967296 : Nat) : Int) := by subst hp; rw [Int.natCast_emod, Int.natCast_mul, Int.natCast_pow]; rfl
  have e2 : (x : Int) / q = ((x / 2 ^ n : Nat) : Int) := by subst hq; rw [Int.natCast_ediv, Int.natCast_pow]; rfl
  have a : x * 2 ^ (32 - n) % 4294967296 < 4294967296 := Nat.mod_lt _ (by decide)
  have b : x / 2 ^ n < 4294967296 := Nat.lt_of_le_of_lt (Nat.div_le_self _ _) hx
  rw [e1, e2, or32 _ _ a b]
  exact congrArg _ (Sen.rot_or x n hx h1 h2)

theorem right_c (x : Nat) (hx : x < 4294967296) (n : Int) (hn : n = 2 ∨ n = 6 ∨ n = 7 ∨ n = 11 ∨ n = 13 ∨ n = 17 ∨ n = 18 ∨ n = 19 ∨ n = 22 ∨ n = 25) (w : World) :
    Calls Tryd.prog 63 #[.int .u32 x, .int .i64 n] w fun e w' => e = .returned (.int .u32 ((Sen.rot x n.toNat : Nat) : Int)) ∧ w = w' := by
  have hb2 : bits .and .u64 (IntKind.u64.wrap (-2)) 31 = 30 := by decide
  have hb6 : bits .and .u64 (IntKind.u64.wrap (-6)) 31 = 26 := by decide
  have hb7 : bits .and .u64 (IntKind.u64.wrap (-7)) 31 = 25 := by decide
  have hb11 : bits .and .u64 (IntKind.u64.wrap (-11)) 31 = 21 := by decide
  have hb13 : bits .and .u64 (IntKind.u64.wrap (-13)) 31 = 19 := by decide
  have hb17 : bits .and .u64 (IntKind.u64.wrap (-17)) 31 = 15 := by decide
  have hb18 : bits .and .u64 (IntKind.u64.wrap (-18)) 31 = 14 := by decide
  have hb19 : bits .and .u64 (IntKind.u64.wrap (-19)) 31 = 13 := by decide
  have hb22 : bits .and .u64 (IntKind.u64.wrap (-22)) 31 = 10 := by decide
  have hb25 : bits .and .u64 (IntKind.u64.wrap (-25)) 31 = 7 := by decide
  rcases hn with rfl | rfl | rfl | rfl | rfl | rfl | rfl | rfl | rfl | rfl
  all_goals
    go_enter Tryd.func63, Tryd.ntmps63
    go_wp2
    go_ret
    refine ⟨congrArg Ending.returned (congrArg (Value.int IntKind.u32) ?_), rfl⟩
    exact rot_or_int x _ hx (by decide) (by decide) _ _ rfl rfl

/-! ### words -/
def zeros56 : Array Value := (wvs (List.replicate 64 0)).toArray
theorem zero56 (w : World) : (zeroValue 101).run Tryd.prog w = .ok (.agg zeros56) w := by kernel_rfl
/-- The cells of the words' array behind k rounds. -/
def wcells (b : List UInt8) (k : Nat) : List Nat := Sen.wds b k ++ List.replicate (64 - k) 0
theorem wcells_length (b : List UInt8) (k : Nat) (hk : k ≤ 64) : (wcells b k).length = 64 := by simp [wcells, Sen.wds_length]; omega
theorem wcells_getD (b : List UInt8) (k i : Nat) (hi : i < k) : (wcells b k).getD i 0 = (Sen.wds b k).getD i 0 := by
  simp only [wcells, List.getD_eq_getElem?_getD]
  rw [List.getElem?_append_left (by rw [Sen.wds_length]; exact hi)]
theorem wcells_set (b : List UInt8) (k : Nat) (hk : k < 64) (v : Nat) (hv : v = (Sen.wds b (k + 1)).getD k 0) : (wcells b k).set k v = wcells b (k + 1) := by
  subst hv
  rw [Sen.wds_last]
  simp only [wcells, Sen.wds]
  rw [List.set_append_right _ _ (by rw [Sen.wds_length]; exact Nat.le_refl _), Sen.wds_length, Nat.sub_self, List.append_assoc]
  congr 1
  rw [show 64 - k = (64 - (k + 1)) + 1 by omega, List.replicate_succ]
  rfl
theorem wcells_set' (b : List UInt8) (k : Nat) (hk : k < 64) (v : Int) (hv : v = (((Sen.wds b (k + 1)).getD k 0 : Nat) : Int)) :
    ((wvs (wcells b k)).set k (.int .u32 v)).toArray = (wvs (wcells b (k + 1))).toArray := by
  subst hv
  rw [← wcells_set b k hk _ rfl]
  simp [wvs, List.map_set, wv]
theorem or4 (x0 x1 x2 x3 : Nat) (h0 : x0 < 256) (h1 : x1 < 256) (h2 : x2 < 256) (h3 : x3 < 256) :
    bits .or .u32 (bits .or .u32 (bits .or .u32 ((x0 : Int) * 16777216) ((x1 : Int) * 65536)) ((x2 : Int) * 256)) (x3 : Int) = ((x0 * 16777216 + x1 * 65536 + x2 * 256 + x3 : Nat) : Int) := by
  have e1 : bits .or .u32 ((x0 : Int) * 16777216) ((x1 : Int) * 65536) = ((x0 * 16777216 + x1 * 65536 : Nat) : Int) := by
    have := or32 (x0 * 16777216) (x1 * 65536) (by omega) (by omega)
    rw [show ((x0 * 16777216 : Nat) : Int) = (x0 : Int) * 16777216 by omega, show ((x1 * 65536 : Nat) : Int) = (x1 : Int) * 65536 by omega] at this
    rw [this]
    have h := Nat.two_pow_add_eq_or_of_lt (i := 24) (b := x1 * 65536) (by omega) x0
    exact congrArg _ (by rw [Nat.mul_comm x0 16777216]; exact h.symm)
  have e2 : bits .or .u32 ((x0 * 16777216 + x1 * 65536 : Nat) : Int) ((x2 : Int) * 256) = ((x0 * 16777216 + x1 * 65536 + x2 * 256 : Nat) : Int) := by
    have := or32 (x0 * 16777216 + x1 * 65536) (x2 * 256) (by omega) (by omega)
    rw [show ((x2 * 256 : Nat) : Int) = (x2 : Int) * 256 by omega] at this
    rw [this]
    have h := Nat.two_pow_add_eq_or_of_lt (i := 16) (b := x2 * 256) (by omega) (x0 * 256 + x1)
    exact congrArg _ (by rw [show x0 * 16777216 + x1 * 65536 = 2 ^ 16 * (x0 * 256 + x1) by omega]; exact h.symm)
  have e3 := or32 (x0 * 16777216 + x1 * 65536 + x2 * 256) x3 (by omega) (by omega)
  rw [e1, e2, e3]
  have h := Nat.two_pow_add_eq_or_of_lt (i := 8) (b := x3) (by omega) (x0 * 65536 + x1 * 256 + x2)
  exact congrArg _ (by rw [show x0 * 16777216 + x1 * 65536 + x2 * 256 = 2 ^ 8 * (x0 * 65536 + x1 * 256 + x2) by omega]; exact h.symm)
theorem getD_at (b : List UInt8) (j : Nat) (h : j < b.length) : ∃ x : Nat, x < 256 ∧ x = (b.getD j 0).toNat ∧ (bvs b)[j]? = some (.int .u8 (x : Int)) :=
  ⟨_, UInt8.toNat_lt _, rfl, bvs_at b j h⟩
theorem getD_atw (l : List Nat) (j : Nat) (h : j < l.length) (hb : ∀ x ∈ l, x < 4294967296) : ∃ x : Nat, x < 4294967296 ∧ x = l.getD j 0 ∧ (wvs l)[j]? = some (.int .u32 (x : Int)) :=
  ⟨_, Sen.getD_lt hb (by decide) j, rfl, wvs_at l j h⟩
theorem wcells_lt (b : List UInt8) (k : Nat) : ∀ x ∈ wcells b k, x < 4294967296 := by
  intro x hx
  simp only [wcells, List.mem_append, List.mem_replicate] at hx
  rcases hx with hx | ⟨_, rfl⟩
  · exact Sen.wds_lt b k x hx
  · decide

theorem words_small (b : List UInt8) (k : Nat) (h : k < 16) (x0 x1 x2 x3 : Nat) (h0 : x0 = (b.getD (4 * k) 0).toNat) (h1 : x1 = (b.getD (4 * k + 1) 0).toNat) (h2 : x2 = (b.getD (4 * k + 2) 0).toNat) (h3 : x3 = (b.getD (4 * k + 3) 0).toNat) :
    bits .or .u32 (bits .or .u32 (bits .or .u32 ((x0 : Int) * 16777216) ((x1 : Int) * 65536)) ((x2 : Int) * 256)) (x3 : Int) = (((Sen.wds b (k + 1)).getD k 0 : Nat) : Int) := by
  rw [Sen.wds_last, if_pos h]
  subst h0 h1 h2 h3
  exact or4 _ _ _ _ (UInt8.toNat_lt _) (UInt8.toNat_lt _) (UInt8.toNat_lt _) (UInt8.toNat_lt _)
theorem xor3 (a b c : Nat) (ha : a < 4294967296) (hb : b < 4294967296) (hc : c < 4294967296) : bits .xor .u32 (bits .xor .u32 (a : Int) (b : Int)) (c : Int) = ((Nat.xor (Nat.xor a b) c : Nat) : Int) := by
  rw [xor32 a b ha hb, xor32 _ c (Sen.xor_lt ha hb) hc]
theorem sig0 (q : Nat) (hq : q < 4294967296) : bits .xor .u32 (bits .xor .u32 ((Sen.rot q 7 : Nat) : Int) ((Sen.rot q 18 : Nat) : Int)) ((q : Int) / 8) = ((Sen.s0 q : Nat) : Int) := by
  have := xor3 (Sen.rot q 7) (Sen.rot q 18) (q / 8) (Sen.rot_lt q 7 hq (by decide) (by decide)) (Sen.rot_lt q 18 hq (by decide) (by decide)) (by omega)
  rw [show ((q / 8 : Nat) : Int) = (q : Int) / 8 by omega] at this
  exact this
theorem sig1 (q : Nat) (hq : q < 4294967296) : bits .xor .u32 (bits .xor .u32 ((Sen.rot q 17 : Nat) : Int) ((Sen.rot q 19 : Nat) : Int)) ((q : Int) / 1024) = ((Sen.s1 q : Nat) : Int) := by
  have := xor3 (Sen.rot q 17) (Sen.rot q 19) (q / 1024) (Sen.rot_lt q 17 hq (by decide) (by decide)) (Sen.rot_lt q 19 hq (by decide) (by decide)) (by omega)
  rw [show ((q / 1024 : Nat) : Int) = (q : Int) / 1024 by omega] at this
  exact this
theorem words_great (b : List UInt8) (k : Nat) (h : ¬ k < 16) (hk : k < 64) (p q r s : Nat) (hp : p = (wcells b k).getD (k - 16) 0) (hq : q = (wcells b k).getD (k - 15) 0) (hr : r = (wcells b k).getD (k - 7) 0) (hs : s = (wcells b k).getD (k - 2) 0)
    (hq' : q < 4294967296) (hs' : s < 4294967296) :
    ((p : Int) + bits .xor .u32 (bits .xor .u32 ((Sen.rot q 7 : Nat) : Int) ((Sen.rot q 18 : Nat) : Int)) ((q : Int) / 8) + (r : Int) +
      bits .xor .u32 (bits .xor .u32 ((Sen.rot s 17 : Nat) : Int) ((Sen.rot s 19 : Nat) : Int)) ((s : Int) / 1024)) % 4294967296 = (((Sen.wds b (k + 1)).getD k 0 : Nat) : Int) := by
  rw [Sen.wds_last, if_neg h, sig0 q hq', sig1 s hs']
  rw [wcells_getD b k _ (by omega)] at hp hq hr hs
  have e : Sen.nextW (Sen.wds b k) k = (p + Sen.s0 q + r + Sen.s1 s) % 4294967296 := by subst hp hq hr hs; rfl
  rw [e]
  omega

set_option maxRecDepth 100000 in
set_option maxHeartbeats 1000000 in
theorem words_c (b : List UInt8) (hb : b.length = 64) (w : World) :
    Calls Tryd.prog 62 #[.agg (bvs b).toArray] w fun e w' => e = .returned (.agg (wvs (Sen.wds b 64)).toArray) ∧ Below w.heap.size w w' := by
  have hz := zero56
  have hsd := setCell_drewN
  have had := alloc_drewN
  go_enter Tryd.func62, Tryd.ntmps62
  go_wp2
  go_loopw [10] (fun i wr => ∃ k n : Nat, k ≤ 64 ∧ i = .int .i64 k ∧ wr = (((w.alloc (.cells (bvs b).toArray 93)).alloc (.cells zeros56 101)).alloc (.cells (wvs (wcells b k)).toArray 101)).drewN n) (fun i _ => 64 - (intOf i).toNat)
  case atStart => exact ⟨0, 0, by omega, rfl, rfl⟩
  case round =>
    obtain ⟨k, n, hk, rfl, rfl⟩ := hrel
    by_cases hlt : k < 64
    · have hbl := bvs_length b
      have hwl := wvs_length (wcells b k)
      rw [wcells_length b k hk] at hwl
      rw [hb] at hbl
      have d64 : decide ((k : Int) < 64) = true := by simp; omega
      have k64 : (k : Int) < 64 := by omega
      obtain ⟨xk, hxk, exk, ck⟩ := getD_atw (wcells b k) k (by rw [wcells_length b k hk]; exact hlt) (wcells_lt b k)
      clear exk
      by_cases h16 : k < 16
      · obtain ⟨x0, hx0, ex0, c0⟩ := getD_at b (4 * k) (by omega)
        obtain ⟨x1, hx1, ex1, c1⟩ := getD_at b (4 * k + 1) (by omega)
        obtain ⟨x2, hx2, ex2, c2⟩ := getD_at b (4 * k + 2) (by omega)
        obtain ⟨x3, hx3, ex3, c3⟩ := getD_at b (4 * k + 3) (by omega)
        have V := Lib.hid (words_small b k h16 x0 x1 x2 x3 ex0 ex1 ex2 ex3)
        clear ex0 ex1 ex2 ex3
        have d16 : decide ((k : Int) < 16) = true := by simp; omega
        have hsl := fun W => run_sliceAt_from 93 5 64 Tryd.underlying93 rfl w.heap.size 0 (4 * k) (by omega) W
        rw [show ((4 * k : Nat) : Int) = 4 * (k : Int) by omega] at hsl
        simp only [Nat.zero_add] at hsl
        obtain ⟨L, hL⟩ : ∃ L, 64 - 4 * k = L := ⟨_, rfl⟩
        rw [hL] at hsl
        have l0 : 0 < L := by omega
        have l1 : (1 : Int) < L := by omega
        have l2 : (2 : Int) < L := by omega
        have l3 : (3 : Int) < L := by omega
        clear hL
        go_wp2
        refine region_tail 24 (by kernel_rfl) (World.drewN_drewN _ _ _) ?_
        simp only [List.take_succ_cons, List.take_zero, List.drop_succ_cons, List.drop_zero]
        repeat (refine wpStill_step (fun K hK => ?_); go_simp; (try go_bits); refine hK _ ?_; clear hK K)
        refine wpStill_nil ?_
        go_wp2
        go_roundw
        case rel =>
          refine ⟨k + 1, n + 1, by omega, by go_num, ?_⟩
          exact congrArg (fun c => World.drewN (((w.alloc (.cells (bvs b).toArray 93)).alloc (.cells zeros56 101)).alloc (.cells c 101)) (n + 1)) (wcells_set' b k hlt _ V.out)
        case measure => simp [intOf]; omega
      · have d16 : decide ((k : Int) < 16) = false := by simp; omega
        have hwk := wcells_length b k hk
        obtain ⟨p, hp, ep, cp⟩ := getD_atw (wcells b k) (k - 16) (by omega) (wcells_lt b k)
        obtain ⟨q, hq, eq, cq⟩ := getD_atw (wcells b k) (k - 15) (by omega) (wcells_lt b k)
        obtain ⟨r, hr, er, cr⟩ := getD_atw (wcells b k) (k - 7) (by omega) (wcells_lt b k)
        obtain ⟨s, hs, es, cs⟩ := getD_atw (wcells b k) (k - 2) (by omega) (wcells_lt b k)
        have V := Lib.hid (words_great b k h16 hlt p q r s ep eq er es hq hs)
        clear ep eq er es hwk
        have k16 : (16 : Int) ≤ k := by omega
        have a16 : (k : Int) - 16 < 64 := by omega
        have b16 : ((k : Int) - 16).toNat = k - 16 := by omega
        have a7 : (k : Int) - 7 < 64 := by omega
        have b7 : ((k : Int) - 7).toNat = k - 7 := by omega
        have c7 : (7 : Int) ≤ k := by omega
        go_wp2
        go_quiet (fail)
        go_wp2_with (go_at_call 63; refine (right_c _ (by assumption) _ (by decide) _).mono ?_; rintro e w' ⟨rfl, rfl⟩)
        refine region_tail 15 (by kernel_rfl) (World.drewN_drewN _ _ _) ?_
        simp only [List.take_succ_cons, List.take_zero, List.drop_succ_cons, List.drop_zero]
        repeat (refine wpStill_step (fun K hK => ?_); go_simp; (try go_bits); refine hK _ ?_; clear hK K)
        refine wpStill_nil ?_
        go_wp2
        go_roundw
        case rel =>
          refine ⟨k + 1, n + nq + 1, by omega, by go_num, ?_⟩
          exact congrArg (fun c => World.drewN (((w.alloc (.cells (bvs b).toArray 93)).alloc (.cells zeros56 101)).alloc (.cells c 101)) (n + nq + 1)) (wcells_set' b k hlt _ V.out)
        case measure => simp [intOf]; omega
    · obtain rfl : k = 64 := by omega
      have d64 : decide (((64 : Nat) : Int) < 64) = false := by decide
      have e64 : wcells b 64 = Sen.wds b 64 := by simp [wcells]
      rw [e64]
      clear e64
      obtain ⟨W, hW⟩ : ∃ W, W = World.drewN (((w.alloc (.cells (bvs b).toArray 93)).alloc (.cells zeros56 101)).alloc (.cells (wvs (Sen.wds b 64)).toArray 101)) n := ⟨_, rfl⟩
      have h2 : W.heap[w.heap.size + 1 + 1]? = some (.cells (wvs (Sen.wds b 64)).toArray 101 (0, 0)) := by subst hW; exact blk_new _ (by simp)
      have h1 : W.heap[w.heap.size + 1]? = some (.cells zeros56 101 (0, 0)) := by subst hW; exact blk_old _ (blk_new _ (by simp))
      have hB : Below w.heap.size w W := by subst hW; exact below_drewN (below_alloc (below_alloc (below_alloc (Below.refl _ _) _) _) _) n
      rw [← hW]
      have hl : (wvs (Sen.wds b 64)).toArray.size = 64 := by simp [wvs, Sen.wds_length]
      have h3 := setRow_heap W (w.heap.size + 1) zeros56 (wvs (Sen.wds b 64)).toArray 101 (0, 0) h1
      have H1 := Lib.hid h1; have H2 := Lib.hid h2; have HB := Lib.hid hB; have HL := Lib.hid hl; have H3 := Lib.hid h3
      clear h1 h2 hB hl h3 hW
      go_wp2_with (first | (refine wpList_load_row rfl 101 _ rfl _ rfl 101 _ (0, 0) _ H2.out Tryd.underlying101 rfl (by rw [HL.out]; kernel_rfl) ?_) | (refine wpList_store_row rfl 101 _ _ rfl _ _ rfl rfl 101 _ H1.out (by rw [HL.out]; kernel_rfl) (by rw [HL.out]; kernel_rfl) (Array.all_eq_true_iff_forall_mem.2 (fun v hv => wvs_one _ v (by simpa using hv))) ?_))
      refine bodyPost_ret (v := .agg (wvs (Sen.wds b 64)).toArray) ?_ rfl ?_
      · exact results_cell_row rfl _ _ _ _ _ (0, 0) _ rfl H3.out Tryd.underlying101 rfl (by rw [HL.out]; kernel_rfl)
      · exact ⟨rfl, below_setRow HB.out (by omega) _⟩
end Go.Proofs.YteplaginenhfkaaDoor
