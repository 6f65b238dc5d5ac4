/-
  Own slices of bytes: one byte appended; two slices compared as strings (base.SameBytes).
-/
import Derived.Test.YteplaginenhfkaaDoorStr
import Derived.Laws.OwnMore
import Derived.Lib.AppendStr
import Derived.Lib.Strings
set_option linter.unusedVariables false
set_option linter.unusedSimpArgs false
namespace Go.Proofs.YteplaginenhfkaaDoor
open Go.RowKit

theorem Own.new (w : World) (base : Nat) (hb : base ≤ w.heap.size) : Own (w.alloc (.cells #[] 5)) base (.slice (some ⟨w.heap.size, 0, none⟩) 0 0) [] :=
  World.ownsRow_made w #[] 0 hb (Nat.zero_le _) rfl
/-- Below its base nothing turns. -/
theorem Own.grown {w w1 : World} {base : Nat} {v : Value} {l : List UInt8} (h : Own w base v l) (hg : w.grownBy w1 v.ownBlock) (hb : base ≤ w.heap.size) : Below base w w1 :=
  own_below (Below.refl _ _) h hg (Nat.le_refl _) hb
/-- append(s, x...): what is below the base stays. -/
theorem app_bytes {ops : Array Oper} {rest : List Oper} {o : Oper} {a : Act} {w : World} {Q : Exit → Act → World → Prop} (s x : Operand) (base : Nat) (xs ys : List UInt8) (hgd : o.guard = none)
    (ho : o.op = .call { callee := .builtin .append, args := #[s, x], argTypes := #[24, 24] }) (v : Value) (A : Option Addr) (m c : Nat)
    (hs : a.eval s = v) (hx : a.eval x = .slice A m c) (hm : m = ys.length) (hown : Own w base v xs) (hr : RB w A ys) (hbase : base ≤ w.heap.size) (hl : xs.length + ys.length ≤ 140737488355328)
    (h : ∀ v1 w1, Own w1 base v1 (xs ++ ys) → Below base w w1 → wpList Tryd.prog ops Q rest (a.put o.dst v1) w1) : wpList Tryd.prog ops Q (o :: rest) a w :=
  wpList_append_bytes hgd s x ho base v xs ys A m c hs hx hm hown hr hbase hl fun v1 w1 h1 h2 => h v1 w1 h1 (hown.grown h2 hbase)
/-- append of one byte, laid in a block of its own ahead. -/
theorem app_byte {ops : Array Oper} {rest : List Oper} {o : Oper} {a : Act} {w : World} {Q : Exit → Act → World → Prop} (s x : Operand) (base : Nat) (xs : List UInt8) (u : UInt8) (hgd : o.guard = none)
    (ho : o.op = .call { callee := .builtin .append, args := #[s, x], argTypes := #[24, 24] }) (v : Value) (z : Int) (hz : z = ((u.toNat : Nat) : Int))
    (hs : a.eval s = v) (hx : a.eval x = .slice (some ⟨w.heap.size, 0, none⟩) 1 1) (hown : Own w base v xs) (hbase : base ≤ w.heap.size) (hl : xs.length ≤ 140737488350000)
    (h : ∀ v1 w1, Own w1 base v1 (xs ++ [u]) → Below base w w1 → wpList Tryd.prog ops Q rest (a.put o.dst v1) w1) : wpList Tryd.prog ops Q (o :: rest) a (w.alloc (.cells #[.int .u8 z] 5)) := by
  subst hz
  refine wpList_append_bytes hgd s x ho base v xs [u] _ _ _ hs hx rfl (hown.alloc _) (rb_of_row (l := [u]) (blk_new _ rfl) (by simp)) (by simp; omega) (by simp; omega) fun v1 w1 h1 h2 => ?_
  exact h v1 w1 h1 ((Below.alloc (Below.refl _ _) hbase _).trans ((hown.alloc _).grown h2 (by simp; omega)))
theorem app_string {ops : Array Oper} {rest : List Oper} {o : Oper} {a : Act} {w : World} {Q : Exit → Act → World → Prop} (sl x : Operand) (base : Nat) (xs : List UInt8) (s : ByteArray) (hgd : o.guard = none)
    (ho : o.op = .call { callee := .builtin .append, args := #[sl, x], argTypes := #[24, 9] }) (v : Value)
    (hs : a.eval sl = v) (hx : a.eval x = .string s) (hown : Own w base v xs) (hbase : base ≤ w.heap.size) (hl : xs.length + s.size ≤ 140737488350000)
    (h : ∀ v1 w1, Own w1 base v1 (xs ++ s.data.toList) → Below base w w1 → wpList Tryd.prog ops Q rest (a.put o.dst v1) w1) : wpList Tryd.prog ops Q (o :: rest) a w := by
  obtain ⟨i, hi, hz0, hz1, hz2⟩ := info_parts info_byte
  refine Lib.wpList_append_own_string w hgd sl x 24 9 ho base 5 i Tryd.underlying24 Tryd.underlying9 hi hz0 hz1 hz2 v xs.length (bvs xs) hs hown s hx (by unfold maxLen; omega) (by omega) hbase ?_
  intro v1 w1 h1 h2 _
  refine h v1 w1 ?_ (hown.grown h2 hbase)
  have e : bvs xs ++ Lib.strCells s = bvs (xs ++ s.data.toList) := by
    rw [bvs_append]; rfl
  rw [e] at h1
  simpa [Own] using h1
def OwnPost (w : World) (l : List UInt8) (e : Ending) (w' : World) : Prop := ∃ v, e = .returned v ∧ Own w' w.heap.size v l ∧ Below w.heap.size w w'
theorem same_c (A B : Option Addr) (c d : Nat) (a b : List UInt8) (w : World) (hA : RB w A a) (hB : RB w B b) :
    Calls Tryd.prog 16 #[.slice A a.length c, .slice B b.length d] w fun e w' => e = .returned (.bool (decide (a = b))) ∧ w = w' := by
  have h1 := run_str hA c
  have h2 := run_str hB d
  obtain ⟨x, hx⟩ : ∃ x, x = bstr a := ⟨_, rfl⟩
  obtain ⟨y, hy⟩ : ∃ y, y = bstr b := ⟨_, rfl⟩
  have hxy : decide (a = b) = (x.toList == y.toList) := by
    subst hx hy
    rw [Lib.toList_data, Lib.toList_data]
    simp only [bstr]
    rw [Bool.eq_iff_iff]
    simp
  rw [← hx] at h1
  rw [← hy] at h2
  rw [hxy]
  clear hx hy hxy hA hB
  go_enter Tryd.func16, Tryd.ntmps16
  go_wp2
  go_ret
  exact ⟨rfl, rfl⟩
end Go.Proofs.YteplaginenhfkaaDoor
