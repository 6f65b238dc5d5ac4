/-
  More words of this seat's walks: slices that a call makes; make, copy.
-/
import Derived.Test.YteplaginenhfkaaDoorBase
import Derived.Carry
import Derived.Deep.OwnRows
set_option linter.unusedVariables false
set_option linter.unusedSimpArgs false
namespace Go.Proofs.YteplaginenhfkaaDoor
open Go.RowKit

/-- A slice that is a whole block of the call's own. -/
def Whole (w w' : World) (v : Value) (l : List UInt8) : Prop :=
  ∃ g, v = .slice (some ⟨g, 0, none⟩) l.length l.length ∧ w'.heap[g]? = some (.cells (bvs l).toArray 5 (0, 0)) ∧ w.heap.size ≤ g ∧ Below w.heap.size w w'
theorem rb_of_row {w : World} {g : Nat} {l : List UInt8} {t : TypeId} {fr : Nat × Nat} (h : w.heap[g]? = some (.cells (bvs l).toArray t fr)) (hl : l.length ≤ 140737488351232) : RB w (some ⟨g, 0, none⟩) l :=
  ⟨hl, fun i hi => ⟨g, 0, rfl, by rw [Nat.zero_add, cell_of_row w g i _ _ _ h]; simpa using bvs_at l i hi⟩⟩
theorem run_make_bytes (N : Nat) (hN : N ≤ 140737488355328) (x : Int) (hx : x = (N : Int)) (W : World) :
    (Instr.makeSlice 24 (.int .i64 x) (.int .i64 x)).run Tryd.prog W = .ok (.slice (some ⟨W.heap.size, 0, none⟩) N N) (W.alloc (.cells (bvs (List.replicate N 0)).toArray 5)) := by
  subst hx
  have h := run_make_row' (P := Tryd.prog) 24 5 (.int .u8 0) 1 Tryd.underlying24 info_byte rfl .i64 .i64 N (by omega) (by omega) W
  have e : madeCells #[Value.int .u8 0] N = (bvs (List.replicate N 0)).toArray := by
    apply Array.ext'
    rw [toList_madeCells_one]
    simp [bvs, bv]
  rw [e] at h
  exact h

theorem RB.src {w W : World} {A : Option Addr} {l : List UInt8} (h : RB w A l) (hb : Below w.heap.size w W) (h0 : 0 < (bvs l).length) : ∃ ad, A = some ad ∧ ∀ (j : Nat) (v : Value), (bvs l)[j]? = some v → W.cell? (ad.add j) = some v := by
  rw [bvs_length] at h0
  obtain ⟨b, off, e, hlt, hc⟩ := h.addr h0
  refine ⟨_, e, fun j v hj => ?_⟩
  have hjl : j < l.length := by
    have := (List.getElem?_eq_some_iff.1 hj).1
    rwa [bvs_length] at this
  rw [add_plain, hb.cell (by exact hlt), hc j hjl, ← hj, bvs_at l j hjl]
theorem bvs_set (L : List UInt8) (i : Nat) (x : UInt8) (v : Int) (hv : v = ((x.toNat : Nat) : Int)) : (bvs L).set i (.int .u8 v) = bvs (L.set i x) := by
  subst hv
  simp [bvs, bv, List.map_set]
theorem splice_zero (N : Nat) (l : List UInt8) (h : l.length ≤ N) : splice (bvs (List.replicate N 0)) 0 (bvs l) = bvs (l ++ List.replicate (N - l.length) 0) := by
  simp [splice, bvs]
theorem bvs_some (L : List UInt8) (i : Nat) (h : i < L.length) : ∃ x : Int, (bvs L)[i]? = some (.int .u8 x) := ⟨_, bvs_at L i h⟩

theorem wpStill_load_run {ops : Array Oper} {rest : List Oper} {o : Oper} {a : Act} {w : World} {Q : Act → Prop} (hgd : o.guard = none) (ty : TypeId) (x : Operand) (ho : o.op = .load ty x)
    (ad : Addr) (hx : a.eval x = .pointer (some ad)) (v : Value) (hr : (loadVar ty ad).run Tryd.prog w = .ok v w) (h : wpStill Tryd.prog ops w Q rest (a.put o.dst v)) : wpStill Tryd.prog ops w Q (o :: rest) a := by
  unfold wpStill
  rw [if_pos (by simp [Region.wanted, hgd])]
  unfold Oper.still execOp
  simp only [ho, hx, Instr.loadAt, Instr.sureAddr, Sem.run_bind, Sem.run_pure, Result.andThen_ok, hr]
  exact ⟨rfl, h⟩
theorem wpList_store_any {ops : Array Oper} {rest : List Oper} {o : Oper} {a : Act} {w : World} {Q : Exit → Act → World → Prop} (hgd : o.guard = none) (ty : TypeId) (x y : Operand) (ho : o.op = .store ty x y)
    (g : Nat) (vs : List Value) (hx : a.eval x = .pointer (some ⟨g, 0, none⟩)) (hy : a.eval y = .agg vs.toArray) (t : TypeId) (old : Array Value) (hg : w.heap[g]? = some (.cells old t (0, 0)))
    (n : Nat) (hi : (Tryd.prog.info? ty).map (·.size) = some n) (hl : vs.length = n) (ho' : old.size = n) (h1 : ∀ v ∈ vs, v.oneCell' = true)
    (h : wpList Tryd.prog ops Q rest a (w.setRow g vs.toArray)) (hd : o.dst = none) : wpList Tryd.prog ops Q (o :: rest) a w :=
  wpList_store_row hgd ty x y ho g vs.toArray hx hy t old hg (by rw [hi]; simp [hl]) (by simp [hl, ho']) (Array.all_eq_true_iff_forall_mem.2 (fun v hv => h1 v (by simpa using hv))) (by rw [hd]; exact h)
theorem wpList_load_any {ops : Array Oper} {rest : List Oper} {o : Oper} {a : Act} {w : World} {Q : Exit → Act → World → Prop} (hgd : o.guard = none) (ty : TypeId) (x : Operand) (ho : o.op = .load ty x)
    (g : Nat) (vs : List Value) (hx : a.eval x = .pointer (some ⟨g, 0, none⟩)) (t : TypeId) (fr : Nat × Nat) (hg : w.heap[g]? = some (.cells vs.toArray t fr))
    (n e : Nat) (hu : Tryd.prog.underlying ty = some (.array n e)) (hi : (Tryd.prog.info? ty).map (·.size) = some n) (hl : vs.length = n)
    (h : wpList Tryd.prog ops Q rest (a.put o.dst (.agg vs.toArray)) w) : wpList Tryd.prog ops Q (o :: rest) a w :=
  wpList_load_run hgd ty x ho _ hx _ (run_load_array w ty e n _ vs hu hi hl (fun j v hj => by rw [add_plain, Nat.zero_add, cell_of_row w g j _ _ _ hg]; simpa using hj)) h
/-- The result is an array in a block. -/
theorem results_array {fn : Func} {p : Tmp} {ty : TypeId} (h : fn.results = #[.cell p ty]) (tmps : Array Value) (w : World) (g : Nat) (t : TypeId) (vs : List Value) (fr : Nat × Nat) (n e : Nat)
    (hp : tmps.getD p undef = .pointer (some ⟨g, 0, none⟩)) (hg : w.heap[g]? = some (.cells vs.toArray t fr)) (hu : Tryd.prog.underlying ty = some (.array n e)) (hi : (Tryd.prog.info? ty).map (·.size) = some n) (hl : vs.length = n) :
    (results fn tmps).run Tryd.prog w = .ok (.agg vs.toArray) w :=
  results_cell_row h tmps w g t vs.toArray fr _ hp hg hu rfl (by rw [hi]; simp [hl])
/-- A block of one's own, in the world's own terms. -/
theorem run_load_part (w : World) (t e n g off : Nat) (cs : List Value) (t' : TypeId) (fr : Nat × Nat) (hg : w.heap[g]? = some (.cells cs.toArray t' fr)) (hu : Tryd.prog.underlying t = some (.array n e)) (hi : (Tryd.prog.info? t).map (·.size) = some n) (hl : off + n ≤ cs.length) :
    (loadVar t ⟨g, off, none⟩).run Tryd.prog w = .ok (.agg ((cs.drop off).take n).toArray) w :=
  run_load_array w t e n _ _ hu hi (by simp; omega) (fun j v hj => by
    rw [add_plain, cell_of_row w g _ _ _ _ hg]
    rw [List.getElem?_take, List.getElem?_drop] at hj
    split at hj
    · simpa using hj
    · cases hj)
end Go.Proofs.YteplaginenhfkaaDoor
