/-
  who: a person of one's own; the book in memory; what is looked up.
-/
import Derived.Test.YteplaginenhfkaaDoorWho2
set_option linter.unusedVariables false
set_option linter.unusedSimpArgs false
namespace Go.Proofs.YteplaginenhfkaaDoor
open Go.RowKit

theorem beq_name (a b : ByteArray) : (a == b) = decide (a = b) := by
  rw [Bool.eq_iff_iff]
  simp only [decide_eq_true_eq]
  show (a.data == b.data) = true ↔ a = b
  rw [beq_iff_eq, ByteArray.ext_iff]
theorem Own.reads3 {w : World} {base : Nat} {v : Value} {l : List UInt8} (h : Own w base v l) (hl : l.length ≤ 140737488351232) : ∃ A c, v = .slice A l.length c ∧ l.length ≤ c ∧ RB w A l ∧ ∀ ad, A = some ad → base ≤ ad.block ∧ ad = ⟨ad.block, 0, none⟩ := by
  obtain ⟨A, c, e, h1, h2⟩ := h.reads hl
  refine ⟨A, c, e, h1, h2, fun ad had => ?_⟩
  obtain ⟨_, h3⟩ := h
  rcases h3 with ⟨e2, h0⟩ | ⟨g, cap, cur, e2, hg, _⟩
  · rw [e2] at e; injection e with e3; rw [← e3] at had; cases had
  · rw [e2] at e; injection e with e3; rw [← e3] at had; injection had with had; rw [← had]; exact ⟨hg, rfl⟩
def OwnPers (w : World) (s : ByteArray) (b : List UInt8) (fl li re : Int) (e : Ending) (w' : World) : Prop :=
  ∃ A c, e = .returned (persV s A b.length c fl li re) ∧ RB w' A b ∧ (∀ ad, A = some ad → w.heap.size ≤ ad.block ∧ ad = ⟨ad.block, 0, none⟩) ∧ Below w.heap.size w w'
set_option maxRecDepth 100000 in
set_option maxHeartbeats 2000000 in
theorem own_c (s : ByteArray) (A : Option Addr) (c : Nat) (b : List UInt8) (fl li re : Int) (w : World) (hb : b.length ≤ 100000) (hR : RB w A b) :
    Calls Tryd.prog 44 #[persV s A b.length c fl li re] w (OwnPers w s b fl li re) := by
  have hz := zeroPers
  obtain ⟨n, hn⟩ : ∃ n, n = b.length := ⟨_, rfl⟩
  rw [← hn]
  have HN := Lib.hid hn; have HR := Lib.hid hR; have HBN := Lib.hid hb
  obtain ⟨X, hX⟩ : ∃ X, X = (w.alloc (.cells #[.string s, .slice A n c, .int .i64 fl, .int .i64 li, .int .i64 re] 50)).alloc (.cells #[.string ByteArray.empty, .slice none 0 0, .int .i64 0, .int .i64 0, .int .i64 0] 50) := ⟨_, rfl⟩
  have HX := Lib.hid hX
  have XS := Lib.hid (show X.heap.size = w.heap.size + 2 by rw [hX]; simp)
  have BX := Lib.hid (show Below w.heap.size w X by rw [hX]; exact below_alloc (below_alloc (Below.refl _ _) _) _)
  have X1 := Lib.hid (show X.heap[w.heap.size]? = some (.cells #[.string s, .slice A n c, .int .i64 fl, .int .i64 li, .int .i64 re] 50 (0, 0)) by rw [hX]; exact blk_old _ (blk_new _ rfl))
  have X2 := Lib.hid (show X.heap[w.heap.size + 1]? = some (.cells #[.string ByteArray.empty, .slice none 0 0, .int .i64 0, .int .i64 0, .int .i64 0] 50 (0, 0)) by rw [hX]; exact blk_new _ (by simp))
  clear hn hR hb hX
  unfold persV
  go_enter Tryd.func44, Tryd.ntmps44
  go_wp2_with (first
    | (at_builtin; rw [← HX.out]; rw [show w.heap.size + 1 + 1 = X.heap.size from XS.out.symm]; refine app_bytes (.tmp 3) (.tmp 5) X.heap.size [] b rfl rfl (.slice (some ⟨X.heap.size, 0, none⟩) 0 0) _ _ _ rfl rfl HN.out (Own.new _ _ (Nat.le_refl _)) (HR.out.below (BX.out.trans ((below_alloc (Below.refl _ _) _).mono BX.out.size))) (by simp) (by have := HBN.out; simp; omega) ?_; intro v2 w2 ho2 hb2; rw [List.nil_append] at ho2; obtain ⟨A2, c2, rfl, _, hr2, hge2⟩ := ho2.reads3 (by have := HBN.out; omega); rw [← HN.out]; have HR2 := Lib.hid hr2; have HGE2 := Lib.hid hge2; have HB2 := Lib.hid ((below_alloc (Below.refl _ _) _).trans hb2); clear ho2 hr2 hge2 hb2; have Y1 := Lib.hid (blk_below X1.out HB2.out (by rw [XS.out]; omega)); have Y2 := Lib.hid (fun cs => (setRow_other w2 w.heap.size (w.heap.size + 1) cs (by omega)).trans (blk_below X2.out HB2.out (by rw [XS.out]; omega))); have hset := fun cs i v => row_set Y1.out cs i v; have hcell := fun cs j => row_cell Y1.out cs j; have hfro := fun cs j => row_frozen Y1.out cs j; rw [← row_same Y1.out])
    | (with_reducible refine wpList_store_any rfl 50 _ _ rfl (w.heap.size + 1) [.string s, .slice A2 n c2, .int .i64 fl, .int .i64 li, .int .i64 re] rfl rfl 50 _ (Y2.out _) 5 (by kernel_rfl) rfl rfl (by simp [Value.oneCell']) ?_ rfl))
  refine bodyPost_ret (v := persV s A2 n c2 fl li re) ?_ rfl ?_
  · exact results_cell_row rfl _ _ (w.heap.size + 1) _ _ (0, 0) _ rfl (setRow_heap _ _ _ _ _ _ (Y2.out _)) Tryd.underlying50 rfl (by kernel_rfl)
  · have hxs := XS.out
    have hb2 := BX.out.trans (HB2.out.mono BX.out.size)
    refine ⟨A2, c2, by rw [HN.out], (HR2.out.setRow _ _ fun ad had => ?_).setRow _ _ fun ad had => ?_, fun ad had => ?_, below_setRow (below_setRow hb2 (Nat.le_refl _) _) (by omega) _⟩
    · have := (HGE2.out ad had).1; omega
    · have := (HGE2.out ad had).1; omega
    · exact ⟨by have := (HGE2.out ad had).1; omega, (HGE2.out ad had).2⟩
end Go.Proofs.YteplaginenhfkaaDoor
