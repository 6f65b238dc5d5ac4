/-
  store: append onto what is full; the walk of sealed.
-/
import Derived.Test.YtinomleiihbfiaaDoorSto4
set_option linter.unusedVariables false
set_option linter.unusedSimpArgs false
namespace Go.Proofs.YtinomleiihbfiaaDoor
open Go.RowKit

theorem firstCells_rb {w : World} {A : Option Addr} {l : List UInt8} (h : RB w A l) (c : Nat) : (Builtin.firstCells 1 l.length (.slice A l.length c)).run Tryd.prog w = .ok (bvs l).toArray w := by
  cases hl : l with
  | nil =>
    subst hl
    cases A with
    | none => exact run_firstCells_none w 1 0 0 c
    | some a => exact run_firstCells_some w 1 0 a 0 c [] rfl (fun j v hj => by simp at hj)
  | cons x l' =>
    rw [← hl]
    obtain ⟨b, off, rfl, _, hc⟩ := h.addr (by rw [hl]; simp)
    exact run_firstCells_some w 1 l.length ⟨b, off, none⟩ l.length c (bvs l) (by simp [bvs_length]) (fun j v hj => by
      have hjl : j < l.length := by
        have := (List.getElem?_eq_some_iff.1 hj).1
        rwa [bvs_length] at this
      rw [add_plain, hc j hjl, ← hj, bvs_at l j hjl])
/-- append(s, x...), s full: a new row. -/
theorem app_full {ops : Array Oper} {rest : List Oper} {o : Oper} {a : Act} {w : World} {Q : Exit → Act → World → Prop} (s x : Operand) (xs ys : List UInt8) (hgd : o.guard = none)
    (ho : o.op = .call { callee := .builtin .append, args := #[s, x], argTypes := #[26, 26] }) (A B : Option Addr) (n m c : Nat)
    (hs : a.eval s = .slice A n n) (hx : a.eval x = .slice B m c) (hn : n = xs.length) (hm : m = ys.length) (h0 : 0 < m) (hR : RB w A xs) (hS : RB w B ys) (hl : n + m ≤ 1048576)
    (h : ∀ v1 w1, Own w1 w.heap.size v1 (xs ++ ys) → Below w.heap.size w w1 → wpList Tryd.prog ops Q rest (a.put o.dst v1) w1) : wpList Tryd.prog ops Q (o :: rest) a w := by
  obtain ⟨i, hi, hz0, hz1, hz2⟩ := info_parts info_byte
  obtain ⟨b, off, rfl, hblt, hc⟩ := hS.addr (by omega)
  have hsrc : Src Tryd.prog i.size 26 (.slice (some ⟨b, off, none⟩) m c) m (bvs ys) w := by
    rw [hz1]
    exact Src.ofSlice w Tryd.underlying26 ⟨b, off, none⟩ m c (bvs ys) (by rw [bvs_length, hm]; simp) (fun j v hj => by
      have hjl : j < ys.length := by
        have := (List.getElem?_eq_some_iff.1 hj).1
        rwa [bvs_length] at this
      rw [add_plain, hc j hjl, ← hj, bvs_at ys j hjl]) (bvs_one ys)
  have hold : (Builtin.firstCells i.size n (.slice A n n)).run Tryd.prog w.drew = .ok (bvs xs).toArray w.drew := by
    rw [hz1, hn]
    exact firstCells_rb (hR.drewN 1) _
  have hr := run_append_grow_src (P := Tryd.prog) w 26 26 o.type 5 i (.int .u8 0) Tryd.underlying26 hi hz0 A n n (bvs xs) hold _ m (bvs ys) hsrc (by omega) (by omega) (by rw [hz2]; have := nextslicecap_le (need := n + m) (old := n) (by omega); omega)
  refine Lib.wpList_append_run w hgd s x 26 26 ho _ _ hs hx _ _ hr (h _ _ ?_ ?_)
  · have hge := grownCap_ge w (n + m) n 5
    have hcm : grownCap w (n + m) n 5 ≤ maxLen := grownCap_le_maxLen w (n + m) n _ (by unfold maxLen; omega)
    have hlen : (bvs xs ++ bvs ys).length = n + m := by rw [List.length_append, bvs_length, bvs_length, ← hn, ← hm]
    unfold Own
    rw [List.length_append, ← hn, ← hm, bvs_append]
    refine ⟨by rw [hlen, Nat.mul_one], .inr ⟨w.heap.size, _, _, rfl, Nat.le_refl _, heap_alloc_new w.drew _, hge, hcm, ?_, ?_⟩⟩
    · have hz1' : (Value.int IntKind.u8 0).cells.size = 1 := rfl
      simp only [Array.size_append, List.size_toArray, size_zeroCells, hz1', hlen]
      omega
    · simp only [Array.toList_append]
      rw [Nat.mul_one, ← hlen]
      exact List.take_left
  · exact below_alloc (below_drewN (Below.refl w.heap.size w) 1) _
set_option maxRecDepth 100000 in
theorem run_slice_3 (A : Option Addr) (len cap hi : Nat) (h : hi ≤ cap) (W : World) : (Instr.slice 26 (.slice A len cap) none (some (.int .i64 (hi : Int))) (some (.int .i64 (hi : Int)))).run Tryd.prog W = .ok (.slice A hi hi) W := by
  have h1 := run_bound .i64 hi cap .slice3Acap h W
  have h2 := run_bound .i64 hi hi .slice3B (Nat.le_refl _) W
  have hsz := run_size 5 1 rfl W
  have e : A.map (fun a => a.add 0) = A := by cases A <;> rfl
  unfold Instr.slice Instr.sliceBounds
  simp only [Sem.run_bind, run_underlying Tryd.underlying26 W, Result.andThen_ok, Sem.run_pure, if_true, h1, h2, hsz, Nat.zero_mul, Nat.sub_zero, e]
  split <;> rfl
theorem Own.reads2' {w : World} {base : Nat} {v : Value} {l : List UInt8} (h : Own w base v l) (hl : l.length ≤ 140737488351232) : ∃ A c, v = .slice A l.length c ∧ l.length ≤ c ∧ RB w A l ∧ ∀ ad, A = some ad → base ≤ ad.block := by
  obtain ⟨A, c, e, h1, h2⟩ := h.reads hl
  refine ⟨A, c, e, h1, h2, fun ad had => ?_⟩
  obtain ⟨_, h3⟩ := h
  rcases h3 with ⟨e2, h0⟩ | ⟨g, cap, cur, e2, hg, _⟩
  · rw [e2] at e; injection e with e3; rw [← e3] at had; cases had
  · rw [e2] at e; injection e with e3; rw [← e3] at had; injection had with had; rw [← had]; exact hg
def SealPost (w : World) (l : List UInt8) (e : Ending) (w' : World) : Prop := ∃ A c, e = .returned (.slice A l.length c) ∧ l.length ≤ c ∧ RB w' A l ∧ Below w.heap.size w w' ∧ ∀ ad, A = some ad → w.heap.size ≤ ad.block
set_option maxRecDepth 100000 in
set_option maxHeartbeats 1000000 in
theorem sealed_c (A : Option Addr) (c : Nat) (b : List UInt8) (hc : b.length ≤ c) (hb : b.length ≤ 1000000) (w : World) (hR : RB w A b) (hT : Tab w) :
    Calls Tryd.prog 29 #[.slice A b.length c] w (SealPost w (Sen.sealB b)) := by
  have kc := fun (w : World) (C : Array Value) (n c : Nat) => Lib.run_convert_bytes_const (P := Tryd.prog) w 26 5 C n c Tryd.underlying26 Tryd.underlying5
  have hz := zero24
  obtain ⟨n, hn⟩ : ∃ n, n = b.length := ⟨_, rfl⟩
  rw [← hn] at hc hb ⊢
  have HN := Lib.hid hn; have HR := Lib.hid hR; have HT := Lib.hid hT
  have HSD := Lib.hid (show (bvs (Sen.hmac Sen.storeKey b)).length = 32 by rw [bvs_length, Sen.hmac_length])
  have hs3 := run_slice_3 A n c n hc
  clear hn hR hT
  go_enter Tryd.func29, Tryd.ntmps29
  go_wp2_with fail
  rw [show #[Value.int IntKind.u8 115, Value.int IntKind.u8 116, Value.int IntKind.u8 111, Value.int IntKind.u8 114, Value.int IntKind.u8 101] = (bvs Sen.storeKey).toArray from rfl]
  clear kc
  have hB0 : Below w.heap.size w (w.alloc (.cells (bvs Sen.storeKey).toArray 5 (5, 6))) := below_alloc (Below.refl _ _) _
  have hcs := mac_sum_c (some ⟨w.heap.size, 0, none⟩) A 5 c Sen.storeKey b _ (by decide) (by rw [← HN.out]; omega) (rb_of_row (blk_new (w := w) (.cells (bvs Sen.storeKey).toArray 5 (5, 6)) rfl) (by decide)) (HR.out.below hB0) (HT.out.below hB0)
  rw [← HN.out] at hcs
  refine hcs.mono ?_
  clear hcs
  rintro e w1 ⟨rfl, hb1⟩
  have hB1 : Below w.heap.size w w1 := hB0.trans (hb1.mono (by simp))
  have HB1 := Lib.hid hB1
  clear hB0 hb1 hB1
  go_wp2_with (with_reducible refine wpList_store_any rfl 64 _ _ rfl _ (bvs (Sen.hmac Sen.storeKey b)) rfl rfl 64 _ (blk_new _ rfl) 32 (by kernel_rfl) HSD.out (by kernel_rfl) (bvs_one _) ?_ rfl; rw [setRow_alloc])
  obtain ⟨X, hX⟩ : ∃ X, X = w1.alloc (.cells (bvs (Sen.hmac Sen.storeKey b)).toArray 64) := ⟨_, rfl⟩
  have hD : X.heap[w1.heap.size]? = some (.cells (bvs (Sen.hmac Sen.storeKey b)).toArray 64 (0, 0)) := by rw [hX]; exact blk_new _ rfl
  have hBX : Below w.heap.size w X := by rw [hX]; exact below_alloc HB1.out _
  rw [← hX]
  have htag := (rb_of_row hD (by rw [Sen.hmac_length]; decide)).take 16
  have HTAG := Lib.hid htag; have HBX := Lib.hid hBX
  clear hX hD hBX htag
  have hst := fun W => run_sliceAt_to 64 5 32 Tryd.underlying64 rfl w1.heap.size 0 16 (by decide) W
  rw [show ((16 : Nat) : Int) = 16 from rfl] at hst
  refine region_tail 7 (by kernel_rfl) rfl ?_
  simp only [List.take_succ_cons, List.take_zero, List.drop_succ_cons, List.drop_zero]
  repeat (refine wpStill_step (fun K hK => ?_); go_simp; refine hK _ ?_; clear hK K)
  refine wpStill_nil ?_
  go_wp2_with (at_builtin; refine app_full (.tmp 13) (.tmp 14) b ((Sen.hmac Sen.storeKey b).take 16) rfl rfl _ _ n 16 _ rfl rfl HN.out (by rw [List.length_take, Sen.hmac_length]; rfl) (by decide) ((HR.out.below HBX.out).drewN 1) (HTAG.out.drewN 1) (by omega) ?_; intro v2 w2 ho2 hb2)
  have hsl : (Sen.sealB b).length ≤ 140737488351232 := by rw [Sen.sealB_length, ← HN.out]; omega
  obtain ⟨A2, c2, rfl, hc2, hr2, hge⟩ := Own.reads2' ho2 hsl
  go_ret
  exact ⟨A2, c2, rfl, hc2, hr2, HBX.out.trans ((below_drewN (Below.refl _ _) 1).trans hb2 |>.mono HBX.out.size), fun ad h => Nat.le_trans HBX.out.size (hge ad h)⟩
end Go.Proofs.YtinomleiihbfiaaDoor
