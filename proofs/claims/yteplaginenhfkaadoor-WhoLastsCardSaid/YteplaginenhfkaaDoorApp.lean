/-
  append of bytes to a slice of the call's own; an own slice read, cut.
-/
import Derived.Test.YteplaginenhfkaaDoorMore
import Derived.Maps.AppendAt
set_option linter.unusedVariables false
set_option linter.unusedSimpArgs false
namespace Go.Proofs.YteplaginenhfkaaDoor
open Go.RowKit

def Own (w : World) (base : Nat) (v : Value) (l : List UInt8) : Prop := w.ownsRow base 5 1 v l.length (bvs l)
theorem Own.nil (w : World) (base : Nat) : Own w base (.slice none 0 0) [] := World.ownsRow_nil w base _ 1
theorem Own.of_row {w : World} {base g : Nat} {l : List UInt8} (h : w.heap[g]? = some (.cells (bvs l).toArray 5 (0, 0))) (hb : base ≤ g) (hl : l.length ≤ 140737488355328) : Own w base (.slice (some ⟨g, 0, none⟩) l.length l.length) l :=
  ⟨by simp [bvs_length], .inr ⟨g, l.length, (bvs l).toArray, rfl, hb, h, Nat.le_refl _, by unfold maxLen; omega, by simp [bvs_length], by rw [Nat.mul_one]; exact List.take_of_length_le (by simp [bvs_length])⟩⟩
theorem Own.mono {w : World} {base base' : Nat} {v : Value} {l : List UInt8} (h : Own w base v l) (hb : base' ≤ base) : Own w base' v l := by
  refine ⟨h.1, ?_⟩
  rcases h.2 with h2 | ⟨g, cap, cur, e1, e2, e3⟩
  · exact .inl h2
  · exact .inr ⟨g, cap, cur, e1, by omega, e3⟩
theorem Own.alloc {w : World} {base : Nat} {v : Value} {l : List UInt8} (h : Own w base v l) (o : Obj) : Own (w.alloc o) base v l := World.ownsRow.alloc h o
theorem Own.drewN {w : World} {base : Nat} {v : Value} {l : List UInt8} (h : Own w base v l) (n : Nat) : Own (w.drewN n) base v l := h
theorem Own.below {w w1 : World} {base : Nat} {v : Value} {l : List UInt8} (h : Own w base v l) (hb : Below w.heap.size w w1) : Own w1 base v l := by
  refine World.ownsRow.kept h (row := none) ⟨hb.os, hb.tape, hb.output, hb.size, fun k hk _ => hb.block k hk⟩ ?_
  cases v.ownBlock <;> simp
/-- Own memory, its row elsewhere written. -/
theorem Own.setRow {w : World} {base g : Nat} {v : Value} {l : List UInt8} (h : Own w base v l) (hg : g < base) (cs : Array Value) : Own (w.setRow g cs) base v l := by
  refine ⟨h.1, ?_⟩
  rcases h.2 with h2 | ⟨g', cap, cur, e1, e2, e3, e4⟩
  · exact .inl h2
  · exact .inr ⟨g', cap, cur, e1, e2, by rw [setRow_other _ _ _ _ (by omega)]; exact e3, e4⟩
theorem Own.reads {w : World} {base : Nat} {v : Value} {l : List UInt8} (h : Own w base v l) (hl : l.length ≤ 140737488351232) : ∃ A c, v = .slice A l.length c ∧ l.length ≤ c ∧ RB w A l := by
  obtain ⟨h1, h2⟩ := h
  rcases h2 with ⟨rfl, h0⟩ | ⟨g, cap, cur, rfl, hg, hh, hn, hc, hs, ht⟩
  · have : l = [] := List.eq_nil_of_length_eq_zero h0
    subst this
    exact ⟨none, 0, rfl, Nat.le_refl _, RB.nil _ _⟩
  · refine ⟨_, _, rfl, hn, hl, fun i hi => ⟨g, 0, rfl, ?_⟩⟩
    rw [Nat.zero_add, cell_of_row w g i cur _ _ hh]
    have := bvs_at l i hi
    rw [← ht, List.getElem?_take] at this
    rw [if_pos (by omega)] at this
    simpa using this
theorem own_below {w0 w w1 : World} {B base : Nat} {v : Value} {l : List UInt8} (hb : Below B w0 w) (h : Own w base v l) (hg : w.grownBy w1 v.ownBlock) (h1 : B ≤ base) (h2 : B ≤ w.heap.size) : Below B w0 w1 :=
  hb.grown hg h2 fun k hk => Nat.le_trans h1 (World.ownsRow.lt h k hk).1

theorem run_append_empty (w : World) (base : Nat) (v : Value) (l : List UInt8) (c : Nat) (ty : TypeId) (h : Own w base v l) : (Builtin.append_ #[24, 24] ty #[v, .slice none 0 c]).run Tryd.prog w = .ok v w := by
  obtain ⟨i, hi, hz0, hz1, hz2⟩ := info_parts info_byte
  rcases h.2 with ⟨rfl, hn⟩ | ⟨g, cap, cur, rfl, _, _, hnc, _⟩
  · simp [Builtin.append_, run_underlying Tryd.underlying24, sizeOf, typeInfo, hi, Builtin.lenOf, Builtin.firstCells, run_underlying Tryd.underlying5]
  · simp [Builtin.append_, run_underlying Tryd.underlying24, sizeOf, typeInfo, hi, Builtin.lenOf, Builtin.firstCells, hnc, storeCells]
/-- append(s, x...): s the call's own, x whatever is read. -/
theorem wpList_append_bytes {ops : Array Oper} {rest : List Oper} {o : Oper} {a : Act} {w : World} {Q : Exit → Act → World → Prop} (hgd : o.guard = none) (s x : Operand)
    (ho : o.op = .call { callee := .builtin .append, args := #[s, x], argTypes := #[24, 24] }) (base : Nat) (v : Value) (xs ys : List UInt8) (A : Option Addr) (m c : Nat)
    (hs : a.eval s = v) (hx : a.eval x = .slice A m c) (hm : m = ys.length) (hown : Own w base v xs) (hr : RB w A ys) (hbase : base ≤ w.heap.size) (hl : xs.length + ys.length ≤ 140737488355328)
    (h : ∀ v1 w1, Own w1 base v1 (xs ++ ys) → w.grownBy w1 v.ownBlock → wpList Tryd.prog ops Q rest (a.put o.dst v1) w1) : wpList Tryd.prog ops Q (o :: rest) a w := by
  subst hm
  obtain ⟨i, hi, hz0, hz1, hz2⟩ := info_parts info_byte
  by_cases h0 : ys.length = 0
  · obtain rfl : ys = [] := List.eq_nil_of_length_eq_zero h0
    cases A with
    | none =>
      refine wpList_plain hgd fun K hK => ?_
      have hrun := run_append_empty w base v xs c o.type hown
      unfold Oper.wp
      simp [execOp, ho, resolve, invoke, builtin, hs, hx, hrun, Result.andThen]
      exact hK _ _ (h v w (by simpa using hown) ⟨rfl, rfl, rfl, Nat.le_refl _, fun _ _ _ => rfl⟩)
    | some ad =>
      refine wpList_append_own w hgd s x 24 ho base 5 i (.int .u8 0) 1 1 Tryd.underlying24 hi hz0 hz1 hz2 rfl (by decide) v xs.length (bvs xs) hs hown ad 0 c [] hx rfl (fun j u hj => by simp at hj) (fun u hu => by simp at hu) (by unfold maxLen; omega) (by simp at hl; omega) hbase ?_
      intro v1 w1 h1 h2 _
      exact h v1 w1 (by simpa [Own] using h1) h2
  · obtain ⟨b, off, rfl, hlt, hc⟩ := hr.addr (by omega)
    refine wpList_append_own w hgd s x 24 ho base 5 i (.int .u8 0) 1 1 Tryd.underlying24 hi hz0 hz1 hz2 rfl (by decide) v xs.length (bvs xs) hs hown ⟨b, off, none⟩ ys.length c (bvs ys) hx (by simp [bvs_length]) (fun j u hj => ?_) (bvs_one ys) (by unfold maxLen; omega) (by omega) hbase ?_
    · have hjl : j < ys.length := by
        have := (List.getElem?_eq_some_iff.1 hj).1
        rwa [bvs_length] at this
      rw [add_plain, hc j hjl, ← hj, bvs_at ys j hjl]
    · intro v1 w1 h1 h2 _
      exact h v1 w1 (by simpa [Own, bvs_append] using h1) h2
end Go.Proofs.YteplaginenhfkaaDoor
