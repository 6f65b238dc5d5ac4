/-
  Slices cut; slices of slices that a call builds; digests compared.
-/
import Derived.Test.YteplaginenhfkaaDoorStr
import Derived.Laws.OwnMore
set_option linter.unusedVariables false
set_option linter.unusedSimpArgs false
namespace Go.Proofs.YteplaginenhfkaaDoor
open Go.RowKit

def cutA (A : Option Addr) (cap lo : Nat) : Option Addr := if cap = lo then A else A.map (·.add lo)
set_option maxRecDepth 100000 in
theorem run_slice_lh (A : Option Addr) (len cap lo hi : Nat) (h1 : lo ≤ hi) (h2 : hi ≤ cap) (W : World) :
    (Instr.slice 24 (.slice A len cap) (some (.int .i64 (lo : Int))) (some (.int .i64 (hi : Int))) none).run Tryd.prog W = .ok (.slice (cutA A cap lo) (hi - lo) (cap - lo)) W := by
  have e1 := run_bound .i64 hi cap .sliceAcap h2 W
  have e2 := run_bound .i64 lo hi .sliceB h1 W
  have hsz := run_size 5 1 rfl W
  unfold Instr.slice Instr.sliceBounds cutA
  simp only [Sem.run_bind, run_underlying Tryd.underlying24 W, Result.andThen_ok, Sem.run_pure, if_true, e1, e2, Option.isSome_none, Bool.false_eq_true, if_false, hsz, Nat.mul_one]
set_option maxRecDepth 100000 in
theorem run_slice_l (A : Option Addr) (len cap lo : Nat) (h1 : lo ≤ len) (W : World) :
    (Instr.slice 24 (.slice A len cap) (some (.int .i64 (lo : Int))) none none).run Tryd.prog W = .ok (.slice (cutA A cap lo) (len - lo) (cap - lo)) W := by
  have e2 := run_bound .i64 lo len .sliceB h1 W
  have hsz := run_size 5 1 rfl W
  unfold Instr.slice Instr.sliceBounds cutA
  simp only [Sem.run_bind, run_underlying Tryd.underlying24 W, Result.andThen_ok, Sem.run_pure, if_true, e2, Option.isSome_none, Bool.false_eq_true, if_false, hsz, Nat.mul_one]
theorem RB.cut {w : World} {A : Option Addr} {l : List UInt8} (h : RB w A l) (cap lo n : Nat) (hc : l.length ≤ cap) (hn : lo + n ≤ l.length) : RB w (cutA A cap lo) ((l.drop lo).take n) := by
  refine ⟨by have := h.1; simp; omega, fun i hi => ?_⟩
  have hi' : i < n := by simp at hi; omega
  obtain ⟨b, off, rfl, hcl⟩ := h.2 (lo + i) (by omega)
  refine ⟨b, off + lo, ?_, ?_⟩
  · unfold cutA
    rw [if_neg (by omega), Option.map_some, add_plain]
  · rw [Nat.add_assoc, hcl, List.getD_eq_getElem?_getD, List.getD_eq_getElem?_getD, List.getElem?_take, if_pos hi', List.getElem?_drop]
theorem RB.drop {w : World} {A : Option Addr} {l : List UInt8} (h : RB w A l) (cap lo : Nat) (hc : l.length ≤ cap) (hn : lo ≤ l.length) : RB w (cutA A cap lo) (l.drop lo) := by
  have := h.cut cap lo (l.length - lo) hc (by omega)
  rwa [List.take_of_length_le (by simp)] at this

/-! ### A slice of slices, the call's own -/
theorem info_bytes : (Tryd.prog.info? 24).map (fun i => (i.zero, i.size, i.bytes)) = some (some (.slice none 0 0), 1, 24) := by kernel_rfl
def OwnL (w : World) (base : Nat) (v : Value) (vs : List Value) : Prop := w.ownsRow base 24 1 v vs.length vs
theorem OwnL.below {w w1 : World} {base : Nat} {v : Value} {l : List Value} (h : OwnL w base v l) (hb : Below w.heap.size w w1) : OwnL w1 base v l := by
  refine World.ownsRow.kept h (row := none) ⟨hb.os, hb.tape, hb.output, hb.size, fun k hk _ => hb.block k hk⟩ ?_
  cases v.ownBlock <;> simp
theorem OwnL.new (w : World) (base : Nat) (hb : base ≤ w.heap.size) : OwnL (w.alloc (.cells #[] 24)) base (.slice (some ⟨w.heap.size, 0, none⟩) 0 0) [] :=
  World.ownsRow_made w #[] 0 hb (Nat.zero_le _) rfl
theorem wpList_append_row {ops : Array Oper} {rest : List Oper} {o : Oper} {a : Act} {w : World} {Q : Exit → Act → World → Prop} (hgd : o.guard = none) (s x : Operand)
    (ho : o.op = .call { callee := .builtin .append, args := #[s, x], argTypes := #[80, 80] }) (base : Nat) (v : Value) (xs : List Value) (u : Value) (hu : u.oneCell' = true)
    (hs : a.eval s = v) (hx : a.eval x = .slice (some ⟨w.heap.size, 0, none⟩) 1 1) (hown : OwnL w base v xs) (hbase : base ≤ w.heap.size) (hl : xs.length ≤ 1048576)
    (h : ∀ v1 w1, OwnL w1 base v1 (xs ++ [u]) → (w.alloc (.cells #[u] 24)).grownBy w1 v.ownBlock → wpList Tryd.prog ops Q rest (a.put o.dst v1) w1) : wpList Tryd.prog ops Q (o :: rest) a (w.alloc (.cells #[u] 24)) := by
  obtain ⟨i, hi, hz0, hz1, hz2⟩ := info_parts info_bytes
  refine wpList_append_own _ hgd s x 80 ho base 24 i (.slice none 0 0) 1 24 Tryd.underlying80 hi hz0 hz1 hz2 rfl (by decide) v xs.length xs hs (hown.alloc _) ⟨w.heap.size, 0, none⟩ 1 1 [u] hx rfl (cell_one_new _ _ _) (fun y hy => by simp at hy; subst hy; exact hu) (by unfold maxLen; omega) (by omega) (by simp; omega) ?_
  intro v1 w1 h1 h2 _
  exact h v1 w1 (by simpa [OwnL] using h1) h2
/-- The slices that lie in a row, each with the bytes that it reads. -/
def Lies (w : World) (vs : List Value) (ls : List (List UInt8)) : Prop := vs.length = ls.length ∧ ∀ i, (h : i < ls.length) → ∃ A c, vs[i]? = some (.slice A (ls[i]'h).length c) ∧ RB w A (ls[i]'h)
theorem Lies.nil (w : World) : Lies w [] [] := ⟨rfl, fun i h => by simp at h⟩
theorem Lies.snoc {w : World} {vs : List Value} {ls : List (List UInt8)} (h : Lies w vs ls) (A : Option Addr) (c : Nat) (l : List UInt8) (hr : RB w A l) : Lies w (vs ++ [.slice A l.length c]) (ls ++ [l]) := by
  refine ⟨by simp [h.1], fun i hi => ?_⟩
  by_cases hlt : i < ls.length
  · obtain ⟨A', c', e, hr'⟩ := h.2 i hlt
    refine ⟨A', c', ?_, ?_⟩
    · rw [List.getElem?_append_left (by rw [h.1]; exact hlt), e]; simp [List.getElem_append_left hlt]
    · simpa [List.getElem_append_left hlt] using hr'
  · obtain rfl : i = ls.length := by simp at hi; omega
    refine ⟨A, c, ?_, ?_⟩
    · have e : (vs ++ [Value.slice A l.length c])[ls.length]? = some (.slice A l.length c) := by rw [List.getElem?_append_right (by rw [h.1]; exact Nat.le_refl _), h.1]; simp
      simpa using e
    · simpa using hr
theorem Lies.below {w w1 : World} {vs : List Value} {ls : List (List UInt8)} (h : Lies w vs ls) (hb : Below w.heap.size w w1) : Lies w1 vs ls :=
  ⟨h.1, fun i hi => by obtain ⟨A, c, e, hr⟩ := h.2 i hi; exact ⟨A, c, e, hr.below hb⟩⟩
theorem OwnL.reads {w : World} {base : Nat} {v : Value} {vs : List Value} {ls : List (List UInt8)} (h : OwnL w base v vs) (hl : Lies w vs ls) : ∃ A c, v = .slice A ls.length c ∧ RBs w A ls := by
  obtain ⟨h1, h2⟩ := h
  rcases h2 with ⟨rfl, h0⟩ | ⟨g, cap, cur, rfl, hg, hh, hn, hc, hs, ht⟩
  · have h0' : ls.length = 0 := by rw [← hl.1]; exact h0
    refine ⟨none, 0, by rw [h0'], fun i hi => by omega⟩
  · refine ⟨_, _, by rw [hl.1], fun i hi => ?_⟩
    obtain ⟨A, c, e, hr⟩ := hl.2 i hi
    refine ⟨g, 0, A, c, rfl, ?_, hr⟩
    rw [Nat.zero_add, cell_of_row w g i cur _ _ hh, ← e, ← ht, List.getElem?_take, if_pos (by rw [hl.1]; omega)]
    simp
theorem ownL_below {w0 w w1 : World} {B base : Nat} {v : Value} {l : List Value} (hb : Below B w0 w) (h : OwnL w base v l) (hg : w.grownBy w1 v.ownBlock) (h1 : B ≤ base) (h2 : B ≤ w.heap.size) : Below B w0 w1 :=
  hb.grown hg h2 fun k hk => Nat.le_trans h1 (World.ownsRow.lt h k hk).1

/-! ### Whole numbers that are read -/
def RI (w : World) (A : Option Addr) (l : List Int) : Prop := ∀ i, i < l.length → ∃ b off, A = some ⟨b, off, none⟩ ∧ w.cell? ⟨b, off + i, none⟩ = some (.int .i64 (l.getD i 0))
theorem RI.below {w w1 : World} {A : Option Addr} {l : List Int} (h : RI w A l) (hb : Below w.heap.size w w1) : RI w1 A l := fun i hi => by
  obtain ⟨b, off, e, hc⟩ := h i hi
  exact ⟨b, off, e, (hb.cell (World.block_lt_of_cell? w _ hc)).trans hc⟩
end Go.Proofs.YteplaginenhfkaaDoor
