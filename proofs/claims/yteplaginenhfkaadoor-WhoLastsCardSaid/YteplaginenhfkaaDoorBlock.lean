/-
  sha: the walk of the program's step of SHA-256 (Block).
-/
import Derived.Test.YteplaginenhfkaaDoorSha
set_option linter.unusedVariables false
set_option linter.unusedSimpArgs false
namespace Go.Proofs.YteplaginenhfkaaDoor
open Go.RowKit

/-! ### Block -/
def zeros8 : Array Value := (wvs (List.replicate 8 0)).toArray
theorem zero32 (w : World) : (zeroValue 94).run Tryd.prog w = .ok (.agg zeros8) w := by kernel_rfl
theorem setRow_alloc (w : World) (o n : Array Value) (t : TypeId) : (w.alloc (.cells o t)).setRow w.heap.size n = w.alloc (.cells n t) := by
  unfold World.setRow World.alloc
  congr 1
  apply Array.ext_getElem?
  intro k
  simp only [Array.getElem?_modify, Array.getElem?_push]
  by_cases hk : k = w.heap.size
  · subst hk; simp
  · simp [hk, Ne.symm hk]
/-- The state behind k rounds, written out. -/
def RNDS (ws s : List Nat) (k : Nat) (r : List Nat) : Prop := Sen.rnds ws s k = r ∧ ∀ x ∈ s, x < 4294967296
theorem RNDS.bounds {ws s : List Nat} {k a b c d e f g h : Nat} (R : RNDS ws s k [a, b, c, d, e, f, g, h]) :
    a < 4294967296 ∧ b < 4294967296 ∧ c < 4294967296 ∧ d < 4294967296 ∧ e < 4294967296 ∧ f < 4294967296 ∧ g < 4294967296 ∧ h < 4294967296 := by
  have := Sen.rnds_lt ws s k R.2
  rw [R.1] at this
  simpa using this
theorem not32 (e : Nat) (he : e < 4294967296) : bits .xor .u32 (if IntKind.u32.signed = true then -1 else IntKind.u32.max) (e : Int) = ((4294967295 - e : Nat) : Int) := by
  show IntKind.u32.wrap ((BitVec.ofInt 32 4294967295 ^^^ BitVec.ofInt 32 (e : Int)).toNat : Int) = _
  rw [show BitVec.ofInt 32 4294967295 = BitVec.allOnes 32 from rfl, BitVec.allOnes_xor, BitVec.toNat_not, ofInt_nat 32 e he]
  exact wrap_u32n _ (by omega)
theorem sum1 (e : Nat) (he : e < 4294967296) : bits .xor .u32 (bits .xor .u32 ((Sen.rot e 6 : Nat) : Int) ((Sen.rot e 11 : Nat) : Int)) ((Sen.rot e 25 : Nat) : Int) = ((Sen.S1 e : Nat) : Int) :=
  xor3 _ _ _ (Sen.rot_lt e 6 he (by decide) (by decide)) (Sen.rot_lt e 11 he (by decide) (by decide)) (Sen.rot_lt e 25 he (by decide) (by decide))
theorem sum0 (e : Nat) (he : e < 4294967296) : bits .xor .u32 (bits .xor .u32 ((Sen.rot e 2 : Nat) : Int) ((Sen.rot e 13 : Nat) : Int)) ((Sen.rot e 22 : Nat) : Int) = ((Sen.S0 e : Nat) : Int) :=
  xor3 _ _ _ (Sen.rot_lt e 2 he (by decide) (by decide)) (Sen.rot_lt e 13 he (by decide) (by decide)) (Sen.rot_lt e 22 he (by decide) (by decide))
theorem ch_int (e f g : Nat) (he : e < 4294967296) (hf : f < 4294967296) (hg : g < 4294967296) :
    bits .xor .u32 (bits .and .u32 (e : Int) (f : Int)) (bits .and .u32 (bits .xor .u32 (if IntKind.u32.signed = true then -1 else IntKind.u32.max) (e : Int)) (g : Int)) = ((Sen.ch e f g : Nat) : Int) := by
  rw [not32 e he, and32 e f he hf, and32 _ g (by omega) hg, xor32 _ _ (Sen.and_lt hf) (Sen.and_lt hg)]
  rfl
theorem maj_int (a b c : Nat) (ha : a < 4294967296) (hb : b < 4294967296) (hc : c < 4294967296) :
    bits .xor .u32 (bits .xor .u32 (bits .and .u32 (a : Int) (b : Int)) (bits .and .u32 (a : Int) (c : Int))) (bits .and .u32 (b : Int) (c : Int)) = ((Sen.maj a b c : Nat) : Int) := by
  rw [and32 a b ha hb, and32 a c ha hc, and32 b c hb hc, xor3 _ _ _ (Sen.and_lt hb) (Sen.and_lt hc) (Sen.and_lt hc)]
  rfl
theorem new_e (d h e f g k w : Nat) (he : e < 4294967296) (hf : f < 4294967296) (hg : g < 4294967296) :
    ((d : Int) + (((((h : Int) + bits .xor .u32 (bits .xor .u32 ((Sen.rot e 6 : Nat) : Int) ((Sen.rot e 11 : Nat) : Int)) ((Sen.rot e 25 : Nat) : Int)) % 4294967296 +
      bits .xor .u32 (bits .and .u32 (e : Int) (f : Int)) (bits .and .u32 (bits .xor .u32 (if IntKind.u32.signed = true then -1 else IntKind.u32.max) (e : Int)) (g : Int))) % 4294967296 + (k : Int)) % 4294967296 + (w : Int)) % 4294967296) % 4294967296
    = (((d + (h + Sen.S1 e + Sen.ch e f g + k + w) % 4294967296) % 4294967296 : Nat) : Int) := by
  rw [sum1 e he, ch_int e f g he hf hg]
  omega
theorem new_a (a b c h e f g k w : Nat) (ha : a < 4294967296) (hb : b < 4294967296) (hc : c < 4294967296) (he : e < 4294967296) (hf : f < 4294967296) (hg : g < 4294967296) :
    ((((((h : Int) + bits .xor .u32 (bits .xor .u32 ((Sen.rot e 6 : Nat) : Int) ((Sen.rot e 11 : Nat) : Int)) ((Sen.rot e 25 : Nat) : Int)) % 4294967296 +
      bits .xor .u32 (bits .and .u32 (e : Int) (f : Int)) (bits .and .u32 (bits .xor .u32 (if IntKind.u32.signed = true then -1 else IntKind.u32.max) (e : Int)) (g : Int))) % 4294967296 + (k : Int)) % 4294967296 + (w : Int)) % 4294967296 +
      (bits .xor .u32 (bits .xor .u32 ((Sen.rot a 2 : Nat) : Int) ((Sen.rot a 13 : Nat) : Int)) ((Sen.rot a 22 : Nat) : Int) +
        bits .xor .u32 (bits .xor .u32 (bits .and .u32 (a : Int) (b : Int)) (bits .and .u32 (a : Int) (c : Int))) (bits .and .u32 (b : Int) (c : Int))) % 4294967296) % 4294967296
    = ((((h + Sen.S1 e + Sen.ch e f g + k + w) % 4294967296 + (Sen.S0 a + Sen.maj a b c) % 4294967296) % 4294967296 : Nat) : Int) := by
  rw [sum1 e he, ch_int e f g he hf hg, sum0 a ha, maj_int a b c ha hb hc]
  omega
theorem RNDS.next {s : List Nat} {b : List UInt8} {k a b' c d e f g h kk ww : Nat} (R : RNDS (Sen.wds b 64) s k [a, b', c, d, e, f, g, h]) (hk : kk = Sen.K.getD k 0) (hw : ww = (Sen.wds b 64).getD k 0) :
    RNDS (Sen.wds b 64) s (k + 1) [((h + Sen.S1 e + Sen.ch e f g + kk + ww) % 4294967296 + (Sen.S0 a + Sen.maj a b' c) % 4294967296) % 4294967296, a, b', c, (d + (h + Sen.S1 e + Sen.ch e f g + kk + ww) % 4294967296) % 4294967296, e, f, g] :=
  ⟨by rw [Sen.rnds, R.1, ← hk, ← hw]; rfl, R.2⟩
theorem num32 {a : Int} {b : Nat} (h : a = (b : Int)) : Value.int .u32 a = .int .u32 (b : Int) := by rw [h]
set_option maxRecDepth 100000 in
set_option maxHeartbeats 2000000 in
theorem block_c (s : List Nat) (hs : s.length = 8) (hsb : ∀ x ∈ s, x < 4294967296) (b : List UInt8) (hb : b.length = 64) (w : World) (hT : Tab w) :
    Calls Tryd.prog 57 #[.agg (wvs s).toArray, .agg (bvs b).toArray] w fun e w' => e = .returned (.agg (wvs (Sen.block s b)).toArray) ∧ Below w.heap.size w w' := by
  have hz := zero56
  have hz8 := zero32
  have HT := Lib.hid hT
  clear hT
  have lb : (bvs b).toArray.size = 64 := by simp [bvs, hb]
  have HL := Lib.hid lb
  have HW := Lib.hid (show (wvs (Sen.wds b 64)).toArray.size = 64 by simp [wvs, Sen.wds_length])
  clear lb
  go_enter Tryd.func57, Tryd.ntmps57
  have h0 : (((w.alloc (.cells (wvs s).toArray 94)).alloc (.cells (bvs b).toArray 93)).alloc (.cells zeros8 94)).heap[w.heap.size]? = some (.cells (wvs s).toArray 94 (0, 0)) := blk_old _ (blk_old _ (blk_new _ rfl))
  have h1 : (((w.alloc (.cells (wvs s).toArray 94)).alloc (.cells (bvs b).toArray 93)).alloc (.cells zeros8 94)).heap[w.heap.size + 1]? = some (.cells (bvs b).toArray 93 (0, 0)) := blk_old _ (blk_new _ (by simp))
  have h2 : (((w.alloc (.cells (wvs s).toArray 94)).alloc (.cells (bvs b).toArray 93)).alloc (.cells zeros8 94)).heap[w.heap.size + 1 + 1]? = some (.cells zeros8 94 (0, 0)) := blk_new _ (by simp)
  have H0 := Lib.hid h0; have H1 := Lib.hid h1; have H2 := Lib.hid h2
  clear h0 h1 h2
  go_wp2_with (first | (refine wpList_load_row rfl 93 _ rfl _ rfl 93 _ (0, 0) _ H1.out Tryd.underlying93 rfl (by rw [HL.out]; kernel_rfl) ?_) | (go_at_call 62; refine (words_c b hb _).mono ?_; rintro e w1 ⟨rfl, hbw⟩; have HB := Lib.hid hbw; clear hbw) | (refine wpList_store_row rfl 101 _ _ rfl _ _ rfl rfl 101 _ (blk_new _ rfl) (by rw [HW.out]; kernel_rfl) (by rw [HW.out]; kernel_rfl) (Array.all_eq_true_iff_forall_mem.2 (fun v hv => wvs_one _ v (by simpa using hv))) ?_))
  rw [show ∀ x : Act, x.put none undef = x from fun _ => rfl, setRow_alloc]
  have hb1 := HB.out
  have f0 := blk_old (.cells (wvs (Sen.wds b 64)).toArray 101) (blk_below H0.out hb1 (by simp; omega))
  have f1 := blk_old (.cells (wvs (Sen.wds b 64)).toArray 101) (blk_below H2.out hb1 (by simp))
  have f2 : (w1.alloc (.cells (wvs (Sen.wds b 64)).toArray 101)).heap[w1.heap.size]? = some (.cells (wvs (Sen.wds b 64)).toArray 101) := blk_new _ rfl
  have f3 : Below w.heap.size w (w1.alloc (.cells (wvs (Sen.wds b 64)).toArray 101)) :=
    below_alloc ((below_alloc (below_alloc (below_alloc (Below.refl _ _) _) _) _).trans (hb1.mono (by simp; omega))) _
  have f4 : w.heap.size < w1.heap.size := by have := hb1.size; simp at this; omega
  clear H0 H1 H2 HB hb1 hz hz8 HL
  obtain ⟨W, hW⟩ : ∃ W, W = w1.alloc (.cells (wvs (Sen.wds b 64)).toArray 101) := ⟨_, rfl⟩
  rw [← hW] at f0 f1 f2 f3 ⊢
  obtain ⟨T, hTT⟩ : ∃ T, T = w1.heap.size := ⟨_, rfl⟩
  rw [← hTT] at f2 f4 ⊢
  clear hW hTT w1
  obtain ⟨s0, s1, s2, s3, s4, s5, s6, s7, rfl⟩ := Sen.eq8 s hs
  have hc := fun i => cell_of_row W w.heap.size i _ _ _ f0
  have c0 : W.cell? ⟨w.heap.size, 0, none⟩ = some (.int .u32 (s0 : Int)) := hc 0
  have c1 : W.cell? ⟨w.heap.size, 1, none⟩ = some (.int .u32 (s1 : Int)) := hc 1
  have c2 : W.cell? ⟨w.heap.size, 2, none⟩ = some (.int .u32 (s2 : Int)) := hc 2
  have c3 : W.cell? ⟨w.heap.size, 3, none⟩ = some (.int .u32 (s3 : Int)) := hc 3
  have c4 : W.cell? ⟨w.heap.size, 4, none⟩ = some (.int .u32 (s4 : Int)) := hc 4
  have c5 : W.cell? ⟨w.heap.size, 5, none⟩ = some (.int .u32 (s5 : Int)) := hc 5
  have c6 : W.cell? ⟨w.heap.size, 6, none⟩ = some (.int .u32 (s6 : Int)) := hc 6
  have c7 : W.cell? ⟨w.heap.size, 7, none⟩ = some (.int .u32 (s7 : Int)) := hc 7
  clear hc
  have F0 := Lib.hid f0; have F1 := Lib.hid f1; have F2 := Lib.hid f2; have F3 := Lib.hid f3
  have HS := Lib.hid hs; have HSB := Lib.hid hsb; have HBL := Lib.hid hb
  clear f0 f1 f2 f3 hs hsb hb
  go_quiet (fail)
  go_wp2_with (refine wpList_load_run rfl 101 _ rfl _ rfl _ (Tab.load ((HT.out.below F3.out).drewN _)) ?_)
  clear c0 c1 c2 c3 c4 c5 c6 c7
  go_loopw [6, 7, 8, 9, 10, 11, 12, 13, 39] (fun va vb vc vd ve vf vg vh vi wr => ∃ k n a b' c d e f g h : Nat, k ≤ 64 ∧ vi = .int .i64 k ∧ RNDS (Sen.wds b 64) [s0, s1, s2, s3, s4, s5, s6, s7] k [a, b', c, d, e, f, g, h] ∧
      va = .int .u32 a ∧ vb = .int .u32 b' ∧ vc = .int .u32 c ∧ vd = .int .u32 d ∧ ve = .int .u32 e ∧ vf = .int .u32 f ∧ vg = .int .u32 g ∧ vh = .int .u32 h ∧ wr = W.drewN n) (fun _ _ _ _ _ _ _ _ i _ => 64 - (intOf i).toNat)
  case atStart => exact ⟨0, nq, _, _, _, _, _, _, _, _, by omega, rfl, ⟨rfl, HSB.out⟩, rfl, rfl, rfl, rfl, rfl, rfl, rfl, rfl, rfl⟩
  case round =>
    obtain ⟨k, n, a, b', c, d, e, f, g, h, hk, rfl, hR, rfl, rfl, rfl, rfl, rfl, rfl, rfl, rfl, rfl⟩ := hrel
    obtain ⟨ha, hb', hc, hd, he, hf, hg, hh⟩ := hR.bounds
    have HR := Lib.hid hR
    clear hR
    by_cases hlt : k < 64
    · have d64 : decide ((k : Int) < 64) = true := by simp; omega
      have k64 : (k : Int) < 64 := by omega
      obtain ⟨kk, hkk, ekk, ck⟩ := getD_atw Sen.K k (by rw [Sen.K_length]; exact hlt) Sen.K_lt
      obtain ⟨ww, hww, eww, cw⟩ := getD_atw (Sen.wds b 64) k (by rw [Sen.wds_length]; exact hlt) (Sen.wds_lt b 64)
      have EK := Lib.hid ekk; have EW := Lib.hid eww
      clear ekk eww
      have hix := fun w => run_index_num 101 87 64 .u32 (wvs Sen.K).toArray k (.int .u32 (kk : Int)) Tryd.underlying101 rfl Tryd.underlying87 hlt (by simpa using ck) w
      have hcw : W.cell? ⟨T, k, none⟩ = some (.int .u32 (ww : Int)) := (cell_of_row W T k _ _ _ F2.out).trans (by simpa using cw)
      clear ck cw
      go_wp2
      refine region_class (fun w' => ∃ n, w' = W.drewN n) (by kernel_rfl) ⟨_, World.drewN_drewN _ _ _⟩ ?_
      repeat (quiet_step ((go_at_call 63; exact (right_c _ (by assumption) _ (by decide) _).mono fun _ _ h => ⟨h.1, _, h.2.symm⟩)))
      refine wpQuiet_nil ?_
      rintro _ ⟨nr, rfl⟩
      go_wp2_with (go_at_call 63; refine (right_c _ (by assumption) _ (by decide) _).mono ?_; rintro e w' ⟨rfl, rfl⟩)
      go_roundw
      case rel =>
        exact ⟨k + 1, nr, _, _, _, _, _, _, _, _, by omega, by go_num, HR.out.next EK.out EW.out, num32 (new_a _ _ _ _ _ _ _ _ _ ha hb' hc he hf hg), rfl, rfl, rfl, num32 (new_e _ _ _ _ _ _ _ he hf hg), rfl, rfl, rfl, rfl⟩
      case measure => simp [intOf]; omega
    · obtain rfl : k = 64 := by omega
      have d64 : decide (((64 : Nat) : Int) < 64) = false := by decide
      have hfin := Lib.hid (show Sen.block [s0, s1, s2, s3, s4, s5, s6, s7] b = [(s0 + a) % 4294967296, (s1 + b') % 4294967296, (s2 + c) % 4294967296, (s3 + d) % 4294967296, (s4 + e) % 4294967296, (s5 + f) % 4294967296, (s6 + g) % 4294967296, (s7 + h) % 4294967296] by
        unfold Sen.block; rw [HR.out.1]; rfl)
      clear HR
      have hsd := setCell_drewN
      have hset := fun cs i v => row_set F0.out cs i v
      have hcell := fun cs j => row_cell F0.out cs j
      have hfro := fun cs j => row_frozen F0.out cs j
      have i0 : ∀ w, (Instr.index 94 (.agg #[.int .u32 (a : Int), .int .u32 (b' : Int), .int .u32 (c : Int), .int .u32 (d : Int), .int .u32 (e : Int), .int .u32 (f : Int), .int .u32 (g : Int), .int .u32 (h : Int)]) (.int .i64 0)).run Tryd.prog w = .ok (.int .u32 (a : Int)) w := fun _ => by kernel_rfl
      have i1 : ∀ w, (Instr.index 94 (.agg #[.int .u32 (a : Int), .int .u32 (b' : Int), .int .u32 (c : Int), .int .u32 (d : Int), .int .u32 (e : Int), .int .u32 (f : Int), .int .u32 (g : Int), .int .u32 (h : Int)]) (.int .i64 1)).run Tryd.prog w = .ok (.int .u32 (b' : Int)) w := fun _ => by kernel_rfl
      have i2 : ∀ w, (Instr.index 94 (.agg #[.int .u32 (a : Int), .int .u32 (b' : Int), .int .u32 (c : Int), .int .u32 (d : Int), .int .u32 (e : Int), .int .u32 (f : Int), .int .u32 (g : Int), .int .u32 (h : Int)]) (.int .i64 2)).run Tryd.prog w = .ok (.int .u32 (c : Int)) w := fun _ => by kernel_rfl
      have i3 : ∀ w, (Instr.index 94 (.agg #[.int .u32 (a : Int), .int .u32 (b' : Int), .int .u32 (c : Int), .int .u32 (d : Int), .int .u32 (e : Int), .int .u32 (f : Int), .int .u32 (g : Int), .int .u32 (h : Int)]) (.int .i64 3)).run Tryd.prog w = .ok (.int .u32 (d : Int)) w := fun _ => by kernel_rfl
      have i4 : ∀ w, (Instr.index 94 (.agg #[.int .u32 (a : Int), .int .u32 (b' : Int), .int .u32 (c : Int), .int .u32 (d : Int), .int .u32 (e : Int), .int .u32 (f : Int), .int .u32 (g : Int), .int .u32 (h : Int)]) (.int .i64 4)).run Tryd.prog w = .ok (.int .u32 (e : Int)) w := fun _ => by kernel_rfl
      have i5 : ∀ w, (Instr.index 94 (.agg #[.int .u32 (a : Int), .int .u32 (b' : Int), .int .u32 (c : Int), .int .u32 (d : Int), .int .u32 (e : Int), .int .u32 (f : Int), .int .u32 (g : Int), .int .u32 (h : Int)]) (.int .i64 5)).run Tryd.prog w = .ok (.int .u32 (f : Int)) w := fun _ => by kernel_rfl
      have i6 : ∀ w, (Instr.index 94 (.agg #[.int .u32 (a : Int), .int .u32 (b' : Int), .int .u32 (c : Int), .int .u32 (d : Int), .int .u32 (e : Int), .int .u32 (f : Int), .int .u32 (g : Int), .int .u32 (h : Int)]) (.int .i64 6)).run Tryd.prog w = .ok (.int .u32 (g : Int)) w := fun _ => by kernel_rfl
      have i7 : ∀ w, (Instr.index 94 (.agg #[.int .u32 (a : Int), .int .u32 (b' : Int), .int .u32 (c : Int), .int .u32 (d : Int), .int .u32 (e : Int), .int .u32 (f : Int), .int .u32 (g : Int), .int .u32 (h : Int)]) (.int .i64 7)).run Tryd.prog w = .ok (.int .u32 (h : Int)) w := fun _ => by kernel_rfl
      go_wp2
      rw [← row_same F0.out, show (wvs [s0, s1, s2, s3, s4, s5, s6, s7]).toArray = #[.int .u32 (s0 : Int), .int .u32 (s1 : Int), .int .u32 (s2 : Int), .int .u32 (s3 : Int), .int .u32 (s4 : Int), .int .u32 (s5 : Int), .int .u32 (s6 : Int), .int .u32 (s7 : Int)] from rfl]
      refine wp_loop_rounds 9 ?_
      iterate 8 (rw [rounds_succ]; go_wp2)
      clear hset hcell hfro i0 i1 i2 i3 i4 i5 i6 i7 hsd
      obtain ⟨X, hX⟩ : ∃ X, (W.setRow w.heap.size #[.int .u32 ((((s0 : Nat) : Int) + ((a : Nat) : Int)) % 4294967296), .int .u32 ((((s1 : Nat) : Int) + ((b' : Nat) : Int)) % 4294967296), .int .u32 ((((s2 : Nat) : Int) + ((c : Nat) : Int)) % 4294967296), .int .u32 ((((s3 : Nat) : Int) + ((d : Nat) : Int)) % 4294967296), .int .u32 ((((s4 : Nat) : Int) + ((e : Nat) : Int)) % 4294967296), .int .u32 ((((s5 : Nat) : Int) + ((f : Nat) : Int)) % 4294967296), .int .u32 ((((s6 : Nat) : Int) + ((g : Nat) : Int)) % 4294967296), .int .u32 ((((s7 : Nat) : Int) + ((h : Nat) : Int)) % 4294967296)]).drewN n = X := ⟨_, rfl⟩
      rw [hX]
      have hcs : (wvs [(s0 + a) % 4294967296, (s1 + b') % 4294967296, (s2 + c) % 4294967296, (s3 + d) % 4294967296, (s4 + e) % 4294967296, (s5 + f) % 4294967296, (s6 + g) % 4294967296, (s7 + h) % 4294967296]).toArray = #[.int .u32 ((((s0 : Nat) : Int) + ((a : Nat) : Int)) % 4294967296), .int .u32 ((((s1 : Nat) : Int) + ((b' : Nat) : Int)) % 4294967296), .int .u32 ((((s2 : Nat) : Int) + ((c : Nat) : Int)) % 4294967296), .int .u32 ((((s3 : Nat) : Int) + ((d : Nat) : Int)) % 4294967296), .int .u32 ((((s4 : Nat) : Int) + ((e : Nat) : Int)) % 4294967296), .int .u32 ((((s5 : Nat) : Int) + ((f : Nat) : Int)) % 4294967296), .int .u32 ((((s6 : Nat) : Int) + ((g : Nat) : Int)) % 4294967296), .int .u32 ((((s7 : Nat) : Int) + ((h : Nat) : Int)) % 4294967296)] := by simp [wvs, wv]
      have x0 : X.heap[w.heap.size]? = some (.cells (wvs [(s0 + a) % 4294967296, (s1 + b') % 4294967296, (s2 + c) % 4294967296, (s3 + d) % 4294967296, (s4 + e) % 4294967296, (s5 + f) % 4294967296, (s6 + g) % 4294967296, (s7 + h) % 4294967296]).toArray 94 (0, 0)) := by
        rw [hcs, ← hX]; exact setRow_heap W _ _ _ _ _ F0.out
      have x1 : X.heap[w.heap.size + 1 + 1]? = some (.cells zeros8 94 (0, 0)) := by
        rw [← hX]; exact (setRow_other W _ _ _ (by omega)).trans F1.out
      have x2 : Below w.heap.size w X := by rw [← hX]; exact below_drewN (below_setRow F3.out (by omega) _) _
      have X0 := Lib.hid x0; have X1 := Lib.hid x1; have X2 := Lib.hid x2
      clear x0 x1 x2 hX hcs
      rw [rounds_succ]
      iterate 15 go_step
      refine wpList_load_row rfl 94 _ rfl _ rfl 94 _ (0, 0) _ X0.out Tryd.underlying94 rfl (by kernel_rfl) ?_
      refine wpList_store_row rfl 94 _ _ rfl _ _ rfl rfl 94 _ X1.out (by kernel_rfl) (by kernel_rfl) (Array.all_eq_true_iff_forall_mem.2 (fun v hv => wvs_one _ v (by simpa using hv))) ?_
      go_wp2
      rw [hfin.out]
      refine bodyPost_ret (v := .agg (wvs [(s0 + a) % 4294967296, (s1 + b') % 4294967296, (s2 + c) % 4294967296, (s3 + d) % 4294967296, (s4 + e) % 4294967296, (s5 + f) % 4294967296, (s6 + g) % 4294967296, (s7 + h) % 4294967296]).toArray) ?_ rfl ?_
      · exact results_cell_row rfl _ _ _ _ _ (0, 0) _ rfl (setRow_heap _ _ _ _ _ _ X1.out) Tryd.underlying94 rfl (by kernel_rfl)
      · exact ⟨rfl, below_setRow X2.out (by omega) _⟩
end Go.Proofs.YteplaginenhfkaaDoor
