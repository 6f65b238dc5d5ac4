/-
  The reference of layer 4: wrap, right, turn, Constants; slices of u64 that a call builds.
-/
import Derived.Test.YteplaginenhfkaaDoorSha2
import Derived.Laws.OwnMore
import Derived.BigQuiet
set_option linter.unusedVariables false
set_option linter.unusedSimpArgs false
namespace Go.Proofs.YteplaginenhfkaaDoor
open Go.RowKit

theorem wrap_c (z : Int) (h0 : 0 ≤ z) (h1 : z < 18446744073709551616) (w : World) : Calls Tryd.prog 60 #[.int .u64 z] w fun e w' => e = .returned (.int .u64 (z % 4294967296)) ∧ w' = w := by
  go_enter Tryd.func60, Tryd.ntmps60
  go_wp2
  go_ret
  refine ⟨congrArg Ending.returned (congrArg (Value.int IntKind.u64) ?_), rfl⟩
  first | rfl | exact Int.tmod_eq_emod_of_nonneg h0
theorem rright_c (x : Nat) (hx : x < 18446744073709551616) (n : Nat) (hn : n ≤ 63) (w : World) : Calls Tryd.prog 59 #[.int .u64 x, .int .i64 (n : Int)] w fun e w' => e = .returned (.int .u64 ((x : Int) / 2 ^ n)) ∧ w' = w := by
  go_enter Tryd.func59, Tryd.ntmps59
  go_wp2
  go_ret
  exact ⟨rfl, rfl⟩
theorem rot_turn (x n : Nat) (hx : x < 4294967296) (h1 : 1 ≤ n) (h2 : n ≤ 31) (p q : Int) (hp : p = 2 ^ n) (hq : q = 2 ^ (32 - n)) :
    IntKind.u64.wrap ((x : Int) / p + (x : Int) * q % 4294967296) = ((Sen.rot x n : Nat) : Int) := by
  have e : (x : Int) / p + (x : Int) * q % 4294967296 = ((Sen.rot x n : Nat) : Int) := by
    subst hp hq
    unfold Sen.rot
    rw [Int.natCast_add, Int.natCast_ediv, Int.natCast_emod, Int.natCast_mul, Int.natCast_pow, Int.natCast_pow]
    rfl
  rw [e]
  exact wrap_u64n _ (Nat.lt_trans (Sen.rot_lt x n hx h1 h2) (by decide))
theorem turn_c (x : Nat) (hx : x < 4294967296) (n : Int) (hn : n = 2 ∨ n = 6 ∨ n = 7 ∨ n = 11 ∨ n = 13 ∨ n = 17 ∨ n = 18 ∨ n = 19 ∨ n = 22 ∨ n = 25) (w : World) :
    Calls Tryd.prog 58 #[.int .u64 x, .int .i64 n] w fun e w' => e = .returned (.int .u64 ((Sen.rot x n.toNat : Nat) : Int)) ∧ ∃ m, w' = w.drewN m := by
  have e30 : IntKind.i64.wrap 30 = 30 := by decide
  have e26 : IntKind.i64.wrap 26 = 26 := by decide
  have e25 : IntKind.i64.wrap 25 = 25 := by decide
  have e21 : IntKind.i64.wrap 21 = 21 := by decide
  have e19 : IntKind.i64.wrap 19 = 19 := by decide
  have e15 : IntKind.i64.wrap 15 = 15 := by decide
  have e14 : IntKind.i64.wrap 14 = 14 := by decide
  have e13 : IntKind.i64.wrap 13 = 13 := by decide
  have e10 : IntKind.i64.wrap 10 = 10 := by decide
  have e7 : IntKind.i64.wrap 7 = 7 := by decide
  have w30 : IntKind.u64.wrap ((x : Int) * 1073741824) = (x : Int) * 1073741824 := IntWalk.u64_in _ (by omega)
  have w26 : IntKind.u64.wrap ((x : Int) * 67108864) = (x : Int) * 67108864 := IntWalk.u64_in _ (by omega)
  have w25 : IntKind.u64.wrap ((x : Int) * 33554432) = (x : Int) * 33554432 := IntWalk.u64_in _ (by omega)
  have w21 : IntKind.u64.wrap ((x : Int) * 2097152) = (x : Int) * 2097152 := IntWalk.u64_in _ (by omega)
  have w19 : IntKind.u64.wrap ((x : Int) * 524288) = (x : Int) * 524288 := IntWalk.u64_in _ (by omega)
  have w15 : IntKind.u64.wrap ((x : Int) * 32768) = (x : Int) * 32768 := IntWalk.u64_in _ (by omega)
  have w14 : IntKind.u64.wrap ((x : Int) * 16384) = (x : Int) * 16384 := IntWalk.u64_in _ (by omega)
  have w13 : IntKind.u64.wrap ((x : Int) * 8192) = (x : Int) * 8192 := IntWalk.u64_in _ (by omega)
  have w10 : IntKind.u64.wrap ((x : Int) * 1024) = (x : Int) * 1024 := IntWalk.u64_in _ (by omega)
  have w7 : IntKind.u64.wrap ((x : Int) * 128) = (x : Int) * 128 := IntWalk.u64_in _ (by omega)
  rcases hn with rfl | rfl | rfl | rfl | rfl | rfl | rfl | rfl | rfl | rfl
  all_goals
    go_enter Tryd.func58, Tryd.ntmps58
    go_wp2
    refine region_class (fun w' => ∃ n, w' = w.drewN n) (by kernel_rfl) ⟨_, rfl⟩ ?_
    repeat (quiet_step ((go_at_call 60; exact (wrap_c _ (by omega) (by omega) _).mono fun _ _ h => ⟨h.1, _, h.2⟩)))
    refine wpQuiet_nil ?_
    rintro _ ⟨nr, rfl⟩
    go_wp2
    go_ret
    exact ⟨congrArg Ending.returned (congrArg (Value.int IntKind.u64) (rot_turn x _ hx (by decide) (by decide) _ _ rfl rfl)), _, rfl⟩

/-! ### Slices of u64 -/
theorem info_word : (Tryd.prog.info? 84).map (fun i => (i.zero, i.size, i.bytes)) = some (some (.int .u64 0), 1, 8) := by kernel_rfl
def OwnQ (w : World) (base : Nat) (v : Value) (l : List Nat) : Prop := w.ownsRow base 84 1 v l.length (qvs l)
theorem OwnQ.below {w w1 : World} {base : Nat} {v : Value} {l : List Nat} (h : OwnQ w base v l) (hb : Below w.heap.size w w1) : OwnQ w1 base v l := by
  refine World.ownsRow.kept h (row := none) ⟨hb.os, hb.tape, hb.output, hb.size, fun k hk _ => hb.block k hk⟩ ?_
  cases v.ownBlock <;> simp
theorem OwnQ.drewN {w : World} {base : Nat} {v : Value} {l : List Nat} (h : OwnQ w base v l) (n : Nat) : OwnQ (w.drewN n) base v l := h
theorem OwnQ.new (w : World) (base : Nat) (hb : base ≤ w.heap.size) : OwnQ (w.alloc (.cells #[] 84)) base (.slice (some ⟨w.heap.size, 0, none⟩) 0 0) [] :=
  World.ownsRow_made w #[] 0 hb (Nat.zero_le _) rfl
/-- Where it lies, and what is read there. -/
theorem OwnQ.at {w : World} {base : Nat} {v : Value} {l : List Nat} (h : OwnQ w base v l) (h0 : 0 < l.length) :
    ∃ g cap, v = .slice (some ⟨g, 0, none⟩) l.length cap ∧ base ≤ g ∧ g < w.heap.size ∧ ∀ i, i < l.length → w.cell? ⟨g, i, none⟩ = some (.int .u64 ((l.getD i 0 : Nat) : Int)) := by
  obtain ⟨h1, h2⟩ := h
  rcases h2 with ⟨rfl, h0'⟩ | ⟨g, cap, cur, rfl, hg, hh, hn, hc, hs, ht⟩
  · omega
  · refine ⟨g, cap, rfl, hg, (Array.getElem?_eq_some_iff.1 hh).1, fun i hi => ?_⟩
    rw [cell_of_row w g i cur _ _ hh]
    have := qvs_at l i hi
    rw [← ht, List.getElem?_take] at this
    rw [if_pos (by omega)] at this
    simpa using this
/-- append of one u64, laid in a block of its own ahead. -/
theorem wpList_append_word {ops : Array Oper} {rest : List Oper} {o : Oper} {a : Act} {w : World} {Q : Exit → Act → World → Prop} (hgd : o.guard = none) (s x : Operand)
    (ho : o.op = .call { callee := .builtin .append, args := #[s, x], argTypes := #[97, 97] }) (base : Nat) (v : Value) (xs : List Nat) (u : Nat) (z : Int) (hz : z = (u : Int))
    (hs : a.eval s = v) (hx : a.eval x = .slice (some ⟨w.heap.size, 0, none⟩) 1 1) (hown : OwnQ w base v xs) (hbase : base ≤ w.heap.size) (hl : xs.length ≤ 1048576)
    (h : ∀ v1 w1, OwnQ w1 base v1 (xs ++ [u]) → (w.alloc (.cells #[.int .u64 z] 84)).grownBy w1 v.ownBlock → wpList Tryd.prog ops Q rest (a.put o.dst v1) w1) : wpList Tryd.prog ops Q (o :: rest) a (w.alloc (.cells #[.int .u64 z] 84)) := by
  subst hz
  obtain ⟨i, hi, hz0, hz1, hz2⟩ := info_parts info_word
  refine wpList_append_own _ hgd s x 97 ho base 84 i (.int .u64 0) 1 8 Tryd.underlying97 hi hz0 hz1 hz2 rfl (by decide) v xs.length (qvs xs) hs (hown.alloc _) ⟨w.heap.size, 0, none⟩ 1 1 [.int .u64 (u : Int)] hx rfl (cell_one_new _ _ _) (fun y hy => by simp at hy; subst hy; rfl) (by unfold maxLen; omega) (by omega) (by simp; omega) ?_
  intro v1 w1 h1 h2 _
  exact h v1 w1 (by simpa [OwnQ, qvs, qv] using h1) h2
theorem ownQ_below {w0 w w1 : World} {B base : Nat} {v : Value} {l : List Nat} (hb : Below B w0 w) (h : OwnQ w base v l) (hg : w.grownBy w1 v.ownBlock) (h1 : B ≤ base) (h2 : B ≤ w.heap.size) : Below B w0 w1 :=
  hb.grown hg h2 fun k hk => Nat.le_trans h1 (World.ownsRow.lt h k hk).1
theorem consts_c (w : World) : Calls Tryd.prog 61 #[] w fun e w' => e = .returned (.slice (some ⟨w.heap.size, 0, none⟩) 64 64) ∧ w' = w.alloc (.cells (qvs Sen.K).toArray 84) := by
  go_enter Tryd.func61, Tryd.ntmps61
  go_wp2
  go_ret
  exact ⟨rfl, rfl⟩
end Go.Proofs.YteplaginenhfkaaDoor
