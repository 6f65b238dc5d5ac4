/-
  sha: the walks of first, Pad, Sum, Parts, Prefix.
-/
import Derived.Test.YteplaginenhfkaaDoorBlock
import Derived.Test.YteplaginenhfkaaDoorMore
set_option linter.unusedVariables false
set_option linter.unusedSimpArgs false
namespace Go.Proofs.YteplaginenhfkaaDoor
open Go.RowKit

theorem first_c (w : World) : Calls Tryd.prog 55 #[] w fun e w' => e = .returned (.agg (wvs Sen.H0).toArray) ∧ Below w.heap.size w w' := by
  go_enter Tryd.func55, Tryd.ntmps55
  go_wp2
  exact bodyPost_ret (v := .agg (wvs Sen.H0).toArray) (by simp [results, Tryd.results55, go_sem]; rfl) rfl ⟨rfl, below_alloc (Below.refl _ _) _⟩

def PadPost (w : World) (l : List UInt8) (e : Ending) (w' : World) : Prop := ∃ v, e = .returned v ∧ Whole w w' v (Sen.pad l)
set_option maxRecDepth 100000 in
set_option maxHeartbeats 1000000 in
theorem pad_c (A : Option Addr) (c : Nat) (l : List UInt8) (w : World) (hl : l.length ≤ 1048576) (hR : RB w A l) :
    Calls Tryd.prog 56 #[.slice A l.length c] w (PadPost w l) := by
  obtain ⟨n, hn⟩ : ∃ n, n = l.length := ⟨_, rfl⟩
  obtain ⟨N, hN⟩ : ∃ N, N = (Sen.pad l).length := ⟨_, rfl⟩
  have hNg := Sen.pad_length_go l
  have hle := Sen.pad_length l
  rw [← hN, ← hn] at hNg hle
  have hmk := fun W => run_make_bytes N (by omega) (((n : Int) + 8 + 64) / 64 * 64) (by omega) W
  rw [← hn]
  have h1 : n ≤ 1048576 := by omega
  have h2 : n + 9 ≤ N := by omega
  have h3 : N ≤ n + 72 := by omega
  have HN := Lib.hid hN; have Hn := Lib.hid hn; have HR := Lib.hid hR
  have hnl : n ≤ N := by omega
  have hsp := splice_zero N l (by omega)
  have hL : (l ++ List.replicate (N - l.length) 0).length = N := by simp; omega
  obtain ⟨x0, e0⟩ := bvs_some (l ++ List.replicate (N - l.length) 0) n (by omega)
  have HL := Lib.hid hL; have HSP := Lib.hid hsp
  have EI := Lib.hid (show ((n : Int) + 8 + 64) / 64 * 64 - 1 = ((N - 1 : Nat) : Int) by omega)
  have S0 := Lib.hid (show (bvs (l ++ List.replicate (N - l.length) 0)).set n (.int .u8 128) = bvs (Sen.padc l 0) by
    rw [bvs_set _ _ 128 128 rfl, hN, hn, Sen.padc_zero])
  have hnN : (n : Int) < N := by omega
  clear hN hn hR hNg hle hl hL hsp
  go_enter Tryd.func56, Tryd.ntmps56
  go_wp2_with (refine wpList_copy_splice rfl (.tmp 15) (.tmp 16) 24 24 rfl 5 Tryd.underlying24 rfl _ _ _ _ _ _ rfl rfl w.heap.size 0 (bvs (List.replicate N 0)) 5 (blk_new _ rfl) (bvs l) (by rw [bvs_length, ← Hn.out]; exact (Nat.min_eq_left hnl).symm) (fun h => ⟨rfl, HR.out.src (below_alloc (Below.refl _ _) _) h⟩) (by simp only [bvs_length, List.length_replicate, ← Hn.out]; omega) (bvs_one l) w.heap.size w (below_alloc (Below.refl _ _) _) (Nat.le_refl _) ?_; intro w2 hg2 hb2; have hg3 := hg2.out; rw [HSP.out] at hg3; have G := Lib.hid hg3; clear hg2 hg3; rw [← row_same G.out]; have hset := fun cs i v => row_set G.out cs i v; have hcell := fun cs j => row_cell G.out cs j; have hfro := fun cs j => row_frozen G.out cs j)
  go_loopw [5, 6] (fun vi vx wr => ∃ j p x : Nat, p + 1 + j = N ∧ j ≤ 8 ∧ Hid (x = n * 8 / 256 ^ j) ∧ x ≤ 8388608 ∧ vi = .int .i64 p ∧ vx = .int .u64 x ∧ wr = w2.setRow w.heap.size (bvs (Sen.padc l j)).toArray) (fun _ x _ => (intOf x).toNat)
  case atStart =>
    exact ⟨0, N - 1, n * 8, by omega, by omega, Lib.hid (by simp), by omega, congrArg (Value.int .i64) EI.out, congrArg (Value.int .u64) (by omega), congrArg (fun c => w2.setRow w.heap.size (List.toArray c)) S0.out⟩
  case round =>
    obtain ⟨j, p, x, hp, hj, hx, hxb, rfl, rfl, rfl⟩ := hrel
    have hpl : (Sen.padc l j).length = N := by rw [Sen.padc_length, ← HN.out]
    obtain ⟨y, ey⟩ := bvs_some (Sen.padc l j) p (by omega)
    have hpN : (p : Int) < N := by omega
    by_cases h0 : x = 0
    · subst h0
      have t0 : decide (((0 : Nat) : Int) > 0) = false := by decide
      go_wp2
      go_ret
      have e := Sen.padc_all l j hj (by rw [← Hn.out]; exact hx.out.symm)
      rw [e]
      exact ⟨_, rfl, w.heap.size, by rw [← HN.out]; rfl, setRow_heap _ _ _ _ _ _ G.out, Nat.le_refl _, below_setRow hb2 (Nat.le_refl _) _⟩
    · have t0 : decide ((x : Int) > 0) = true := by simp; omega
      have t1 : decide ((0 : Int) < x) = true := by simp; omega
      have hj8 : j < 8 := by
        rcases Nat.lt_or_ge j 8 with h | h
        · exact h
        · have e8 : j = 8 := by omega
          have := hx.out
          rw [e8, Nat.div_eq_of_lt (by omega)] at this
          exact absurd this h0
      have SET := Lib.hid (show (bvs (Sen.padc l j)).set p (.int .u8 ((x : Int) % 256)) = bvs (Sen.padc l (j + 1)) by
        rw [bvs_set _ _ (UInt8.ofNat x) _ (by rw [UInt8.toNat_ofNat']; omega), show x = l.length * 8 / 256 ^ j from by rw [← Hn.out]; exact hx.out, show p = (Sen.pad l).length - 1 - j by rw [← HN.out]; omega, Sen.padc_set l j hj8])
      go_wp2
      exact ⟨⟨j + 1, p - 1, x / 256, by omega, by omega, Lib.hid (by rw [hx.out, Nat.div_div_eq_div_mul, Nat.pow_succ]), by omega, congrArg (Value.int .i64) (by omega), congrArg (Value.int .u64) (by omega), congrArg (fun c => w2.setRow w.heap.size (List.toArray c)) SET.out⟩, by simp [intOf]; omega⟩
end Go.Proofs.YteplaginenhfkaaDoor
