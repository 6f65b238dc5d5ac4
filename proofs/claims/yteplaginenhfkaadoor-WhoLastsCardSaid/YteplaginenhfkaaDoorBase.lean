/-
  The words of this seat's walks: bytes, words of 32 and 64 bits as values; what a slice of bytes reads as; laws on bits of natural numbers; loads of whole arrays.
-/
import Derived.Test.YteplaginenhfkaaDoorProg
import Derived.Test.YteplaginenhfkaaDoorPure
import Derived.WalkKit
import Derived.WalkLawsBesides
import Derived.WalkSpells
import Derived.KernelRfl
import Derived.Deep.QuietTactic
import Derived.BigQuiet
import Derived.StillTailTactics
import Derived.Lib.Hide
import Derived.Laws.MakeOwn
import Derived.Laws.CopyOwn
set_option linter.unusedVariables false
set_option linter.unusedSimpArgs false
namespace Go.Proofs.YteplaginenhfkaaDoor
open Go.RowKit

/-! ### 1. Values -/
def bv (b : UInt8) : Value := .int .u8 ((b.toNat : Nat) : Int)
def bvs (l : List UInt8) : List Value := l.map bv
def wv (n : Nat) : Value := .int .u32 ((n : Nat) : Int)
def wvs (l : List Nat) : List Value := l.map wv
def qv (n : Nat) : Value := .int .u64 ((n : Nat) : Int)
def qvs (l : List Nat) : List Value := l.map qv
theorem bvs_length (l : List UInt8) : (bvs l).length = l.length := by simp [bvs]
theorem wvs_length (l : List Nat) : (wvs l).length = l.length := by simp [wvs]
theorem qvs_length (l : List Nat) : (qvs l).length = l.length := by simp [qvs]
theorem bvs_append (a b : List UInt8) : bvs (a ++ b) = bvs a ++ bvs b := by simp [bvs]
theorem bvs_at (l : List UInt8) (i : Nat) (h : i < l.length) : (bvs l)[i]? = some (.int .u8 (((l.getD i 0).toNat : Nat) : Int)) := by
  simp [bvs, List.getElem?_map, List.getElem?_eq_getElem h, bv, List.getD_eq_getElem?_getD]
theorem wvs_at (l : List Nat) (i : Nat) (h : i < l.length) : (wvs l)[i]? = some (.int .u32 ((l.getD i 0 : Nat) : Int)) := by
  simp [wvs, List.getElem?_map, List.getElem?_eq_getElem h, wv, List.getD_eq_getElem?_getD]
theorem qvs_at (l : List Nat) (i : Nat) (h : i < l.length) : (qvs l)[i]? = some (.int .u64 ((l.getD i 0 : Nat) : Int)) := by
  simp [qvs, List.getElem?_map, List.getElem?_eq_getElem h, qv, List.getD_eq_getElem?_getD]
theorem bvs_one (l : List UInt8) : ∀ u ∈ bvs l, u.oneCell' = true := by
  intro u hu
  simp only [bvs, List.mem_map] at hu
  obtain ⟨b, _, rfl⟩ := hu
  rfl
theorem wvs_one (l : List Nat) : ∀ u ∈ wvs l, u.oneCell' = true := by
  intro u hu
  simp only [wvs, List.mem_map] at hu
  obtain ⟨b, _, rfl⟩ := hu
  rfl
theorem qvs_one (l : List Nat) : ∀ u ∈ qvs l, u.oneCell' = true := by
  intro u hu
  simp only [qvs, List.mem_map] at hu
  obtain ⟨b, _, rfl⟩ := hu
  rfl
theorem bv_inj {a b : UInt8} (h : bv a = bv b) : a = b := by
  unfold bv at h
  injection h with _ h
  exact UInt8.toNat_inj.1 (by omega)
theorem bvs_inj : ∀ {a b : List UInt8}, bvs a = bvs b → a = b
  | [], [], _ => rfl
  | [], _ :: _, h => by simp [bvs] at h
  | _ :: _, [], h => by simp [bvs] at h
  | x :: a, y :: b, h => by
    simp only [bvs, List.map_cons, List.cons.injEq] at h
    rw [bv_inj h.1, bvs_inj (show bvs a = bvs b from h.2)]

/-! ### 2. Bits of natural numbers -/
theorem ofInt_nat (m n : Nat) (h : n < 2 ^ m) : (BitVec.ofInt m (n : Int)).toNat = n := by
  rw [BitVec.ofInt_natCast, BitVec.toNat_ofNat, Nat.mod_eq_of_lt h]
theorem wrap_u32n (n : Nat) (h : n < 4294967296) : IntKind.u32.wrap (n : Int) = n := IntWalk.u32_in _ (by omega)
theorem wrap_u8n (n : Nat) (h : n < 256) : IntKind.u8.wrap (n : Int) = n := IntWalk.u8_in _ (by omega)
theorem wrap_u64n (n : Nat) (h : n < 18446744073709551616) : IntKind.u64.wrap (n : Int) = n := IntWalk.u64_in _ (by omega)
theorem xor32 (a b : Nat) (ha : a < 4294967296) (hb : b < 4294967296) : bits .xor .u32 (a : Int) (b : Int) = ((Nat.xor a b : Nat) : Int) := by
  show IntKind.u32.wrap ((BitVec.ofInt 32 (a : Int) ^^^ BitVec.ofInt 32 (b : Int)).toNat : Int) = _
  rw [BitVec.toNat_xor, ofInt_nat 32 a ha, ofInt_nat 32 b hb]
  exact wrap_u32n _ (Nat.xor_lt_two_pow (n := 32) ha hb)
theorem and32 (a b : Nat) (ha : a < 4294967296) (hb : b < 4294967296) : bits .and .u32 (a : Int) (b : Int) = ((Nat.land a b : Nat) : Int) := by
  show IntKind.u32.wrap ((BitVec.ofInt 32 (a : Int) &&& BitVec.ofInt 32 (b : Int)).toNat : Int) = _
  rw [BitVec.toNat_and, ofInt_nat 32 a ha, ofInt_nat 32 b hb]
  exact wrap_u32n _ (Nat.and_lt_two_pow (n := 32) _ hb)
theorem or32 (a b : Nat) (ha : a < 4294967296) (hb : b < 4294967296) : bits .or .u32 (a : Int) (b : Int) = ((Nat.lor a b : Nat) : Int) := by
  show IntKind.u32.wrap ((BitVec.ofInt 32 (a : Int) ||| BitVec.ofInt 32 (b : Int)).toNat : Int) = _
  rw [BitVec.toNat_or, ofInt_nat 32 a ha, ofInt_nat 32 b hb]
  exact wrap_u32n _ (Nat.or_lt_two_pow (n := 32) ha hb)
theorem xor64 (a b : Nat) (ha : a < 18446744073709551616) (hb : b < 18446744073709551616) : bits .xor .u64 (a : Int) (b : Int) = ((Nat.xor a b : Nat) : Int) := by
  show IntKind.u64.wrap ((BitVec.ofInt 64 (a : Int) ^^^ BitVec.ofInt 64 (b : Int)).toNat : Int) = _
  rw [BitVec.toNat_xor, ofInt_nat 64 a ha, ofInt_nat 64 b hb]
  exact wrap_u64n _ (Nat.xor_lt_two_pow (n := 64) ha hb)
theorem and64 (a b : Nat) (ha : a < 18446744073709551616) (hb : b < 18446744073709551616) : bits .and .u64 (a : Int) (b : Int) = ((Nat.land a b : Nat) : Int) := by
  show IntKind.u64.wrap ((BitVec.ofInt 64 (a : Int) &&& BitVec.ofInt 64 (b : Int)).toNat : Int) = _
  rw [BitVec.toNat_and, ofInt_nat 64 a ha, ofInt_nat 64 b hb]
  exact wrap_u64n _ (Nat.and_lt_two_pow (n := 64) _ hb)
theorem or64 (a b : Nat) (ha : a < 18446744073709551616) (hb : b < 18446744073709551616) : bits .or .u64 (a : Int) (b : Int) = ((Nat.lor a b : Nat) : Int) := by
  show IntKind.u64.wrap ((BitVec.ofInt 64 (a : Int) ||| BitVec.ofInt 64 (b : Int)).toNat : Int) = _
  rw [BitVec.toNat_or, ofInt_nat 64 a ha, ofInt_nat 64 b hb]
  exact wrap_u64n _ (Nat.or_lt_two_pow (n := 64) ha hb)
theorem xor8 (a b : Nat) (ha : a < 256) (hb : b < 256) : bits .xor .u8 (a : Int) (b : Int) = ((Nat.xor a b : Nat) : Int) := by
  show IntKind.u8.wrap ((BitVec.ofInt 8 (a : Int) ^^^ BitVec.ofInt 8 (b : Int)).toNat : Int) = _
  rw [BitVec.toNat_xor, ofInt_nat 8 a ha, ofInt_nat 8 b hb]
  exact wrap_u8n _ (Nat.xor_lt_two_pow (n := 8) ha hb)
theorem or8 (a b : Nat) (ha : a < 256) (hb : b < 256) : bits .or .u8 (a : Int) (b : Int) = ((Nat.lor a b : Nat) : Int) := by
  show IntKind.u8.wrap ((BitVec.ofInt 8 (a : Int) ||| BitVec.ofInt 8 (b : Int)).toNat : Int) = _
  rw [BitVec.toNat_or, ofInt_nat 8 a ha, ofInt_nat 8 b hb]
  exact wrap_u8n _ (Nat.or_lt_two_pow (n := 8) ha hb)

/-! ### 3. A slice of bytes that is read (nil let in) -/
def RB (w : World) (A : Option Addr) (l : List UInt8) : Prop :=
  l.length ≤ 140737488351232 ∧ ∀ i, i < l.length → ∃ b off, A = some ⟨b, off, none⟩ ∧ w.cell? ⟨b, off + i, none⟩ = some (.int .u8 (((l.getD i 0).toNat : Nat) : Int))
theorem RB.below {w w1 : World} {A : Option Addr} {l : List UInt8} (h : RB w A l) (hb : Below w.heap.size w w1) : RB w1 A l :=
  ⟨h.1, fun i hi => by
    obtain ⟨b, off, e, hc⟩ := h.2 i hi
    exact ⟨b, off, e, (hb.cell (World.block_lt_of_cell? w _ hc)).trans hc⟩⟩
theorem RB.drewN {w : World} {A : Option Addr} {l : List UInt8} (h : RB w A l) (n : Nat) : RB (w.drewN n) A l := h
theorem RB.nil (w : World) (A : Option Addr) : RB w A [] := ⟨by simp, fun i hi => by simp at hi⟩
/-- Not empty: the address. -/
theorem RB.addr {w : World} {A : Option Addr} {l : List UInt8} (h : RB w A l) (h0 : 0 < l.length) :
    ∃ b off, A = some ⟨b, off, none⟩ ∧ b < w.heap.size ∧ ∀ i, i < l.length → w.cell? ⟨b, off + i, none⟩ = some (.int .u8 (((l.getD i 0).toNat : Nat) : Int)) := by
  obtain ⟨b, off, e, hc⟩ := h.2 0 h0
  refine ⟨b, off, e, World.block_lt_of_cell? w _ hc, fun i hi => ?_⟩
  obtain ⟨b', off', e', hc'⟩ := h.2 i hi
  rw [e] at e'
  injection e' with e'
  injection e' with e1 e2
  subst e1; subst e2
  exact hc'
/-- A front part. -/
theorem RB.take {w : World} {A : Option Addr} {l : List UInt8} (h : RB w A l) (n : Nat) : RB w A (l.take n) :=
  ⟨by have := h.1; simp; omega, fun i hi => by
    have hi' : i < l.length := by simp at hi; omega
    obtain ⟨b, off, e, hc⟩ := h.2 i hi'
    refine ⟨b, off, e, ?_⟩
    rw [hc, List.getD_eq_getElem?_getD, List.getD_eq_getElem?_getD, List.getElem?_take, if_pos (by simp at hi; omega)]⟩

/-! ### 4. The kinds' rows -/
theorem info_byte : (Tryd.prog.info? 5).map (fun i => (i.zero, i.size, i.bytes)) = some (some (.int .u8 0), 1, 1) := by kernel_rfl

/-- What is made of bytes by a call: its own row, and nothing else touched. -/
def Fresh (w w' : World) (v : Value) (l : List UInt8) : Prop := w'.ownsRow w.heap.size 5 1 v l.length (bvs l) ∧ Below w.heap.size w w'
theorem Fresh.reads {w w' : World} {v : Value} {l : List UInt8} (h : Fresh w w' v l) (hl : l.length ≤ 140737488351232) : ∃ A c, v = .slice A l.length c ∧ RB w' A l := by
  obtain ⟨⟨h1, h2⟩, hb⟩ := h
  rcases h2 with ⟨rfl, h0⟩ | ⟨g, cap, cur, rfl, hg, hh, hn, hc, hs, ht⟩
  · have : l = [] := List.eq_nil_of_length_eq_zero h0
    subst this
    exact ⟨none, 0, rfl, RB.nil _ _⟩
  · refine ⟨_, _, rfl, hl, fun i hi => ⟨g, 0, rfl, ?_⟩⟩
    rw [Nat.zero_add, cell_of_row w' g i cur _ _ hh]
    have := bvs_at l i hi
    rw [← ht, List.getElem?_take] at this
    rw [if_pos (by omega)] at this
    simpa using this

/-! ### 5. A whole array read at whatever address; a row of one's own, given whole -/
theorem run_load_array (w : World) (t e : TypeId) (n : Nat) (a : Addr) (vs : List Value) (hu : Tryd.prog.underlying t = some (.array n e)) (hi : (Tryd.prog.info? t).map (·.size) = some n) (hl : vs.length = n)
    (hc : ∀ (j : Nat) (v : Value), vs[j]? = some v → w.cell? (a.add j) = some v) : (loadVar t a).run Tryd.prog w = .ok (.agg vs.toArray) w := by
  have h1 : (loadCells a vs.length).run Tryd.prog w = .ok vs.toArray w := run_loadCells_list (P := Tryd.prog) w a vs hc
  cases hq : Tryd.prog.info? t with
  | none => simp [hq] at hi
  | some i =>
    have hs : i.size = vs.length := by rw [hl]; simpa [hq] using hi
    have hagg : (isAgg t).run Tryd.prog w = .ok true w := by
      unfold isAgg
      rw [Sem.run_bind, run_underlying hu w]
      simp
    simp [loadVar, Sem.run_bind, hagg, sizeOf, typeInfo, hq, hs, h1]
theorem add_plain (g o j : Nat) : (⟨g, o, none⟩ : Addr).add j = ⟨g, o + j, none⟩ := by unfold Addr.add; split <;> simp_all

/-! ### 5b. Regions that draw their order -/
theorem setCell_drewN (w : World) (n : Nat) (a : Addr) (v : Value) : (w.drewN n).setCell a v = (w.setCell a v).drewN n := rfl
theorem alloc_drewN (w : World) (n : Nat) (o : Obj) : (w.drewN n).alloc o = (w.alloc o).drewN n := rfl
/-- Reads first (whatever their order), then the rest in the text's order. -/
theorem region_tail {id : Nat} {Q : Exit → Act → World → Prop} {a : Act} {w w1 : World} {l : List Oper} (n : Nat) (hB : Region.lexTailB .any l.toArray n = true) (hw : w.drewN 1 = w1)
    (h : wpStill Tryd.prog l.toArray w1 (fun a' => wpList Tryd.prog l.toArray Q (l.drop n) a' w1) (l.take n) a) : (Code.region id l.toArray true).wp Tryd.prog Q a w := by
  subst hw
  exact wp_region_still_tail n (by kernel_rfl) hB h
/-- Every operation quiet in a class of worlds. -/
theorem region_class {id : Nat} {Q : Exit → Act → World → Prop} {a : Act} {w : World} {l : List Oper} (C : World → Prop) (hB : Region.lexB .any l.toArray = true) (hC : C (w.drewN 1))
    (h : wpQuiet Tryd.prog l.toArray C (fun a' => ∀ w', C w' → Q .normal a' w') l a) : (Code.region id l.toArray true).wp Tryd.prog Q a w :=
  wp_region_quiet (C := C) (by kernel_rfl) hB hC (by simpa using h)

theorem below_setRow {B : Nat} {a w : World} (h : Below B a w) {g : Nat} (hg : B ≤ g) (cs : Array Value) : Below B a (w.setRow g cs) :=
  h.trans ⟨rfl, rfl, rfl, by simp, fun k hk => setRow_other w g k cs (by omega)⟩
theorem below_drewN {B : Nat} {a w : World} (h : Below B a w) (n : Nat) : Below B a (w.drewN n) := ⟨h.os, h.tape, h.output, h.size, h.block⟩
theorem below_alloc {w W : World} (h : Below w.heap.size w W) (o : Obj) : Below w.heap.size w (W.alloc o) := h.alloc h.size o

/-- A block is there. -/
theorem blk_new {w : World} (o : Obj) {n : Nat} (h : n = w.heap.size) : (w.alloc o).heap[n]? = some o := by subst h; exact heap_alloc_new w o
theorem blk_old {w : World} (o : Obj) {i : Nat} {x : Obj} (h : w.heap[i]? = some x) : (w.alloc o).heap[i]? = some x := by
  rw [Below.heap_alloc w o i (Array.getElem?_eq_some_iff.1 h).1]; exact h
theorem blk_below {B i : Nat} {w w1 : World} {x : Obj} (h : w.heap[i]? = some x) (hb : Below B w w1) (hi : i < B) : w1.heap[i]? = some x := by rw [hb.block i hi]; exact h

theorem run_size (e : TypeId) (n : Nat) (h : (Tryd.prog.info? e).map (·.size) = some n) (w : World) : (sizeOf e).run Tryd.prog w = .ok n w := by
  cases hq : Tryd.prog.info? e with
  | none => simp [hq] at h
  | some i =>
    have : i.size = n := by simpa [hq] using h
    simp [sizeOf, typeInfo, hq, this]
/-- An operation on memory by its run. -/
theorem wpList_load_run {ops : Array Oper} {rest : List Oper} {o : Oper} {a : Act} {w : World} {Q : Exit → Act → World → Prop} (hgd : o.guard = none) (ty : TypeId) (x : Operand) (ho : o.op = .load ty x)
    (ad : Addr) (hx : a.eval x = .pointer (some ad)) (v : Value) (hr : (loadVar ty ad).run Tryd.prog w = .ok v w) (h : wpList Tryd.prog ops Q rest (a.put o.dst v) w) : wpList Tryd.prog ops Q (o :: rest) a w :=
  wpList_plain hgd fun _ hK => by
    unfold Oper.wp execOp
    simp only [ho, hx, Instr.loadAt, Instr.sureAddr, Sem.run_bind, Sem.run_pure, Result.andThen_ok, hr]
    exact hK _ _ h
theorem run_index_num (t e n : Nat) (kk : IntKind) (cs : Array Value) (k : Nat) (v : Value) (hu : Tryd.prog.underlying t = some (.array n e)) (he : (Tryd.prog.info? e).map (·.size) = some 1) (hd : Tryd.prog.underlying e = some (.int kk))
    (hk : k < n) (hv : cs[k]? = some v) (w : World) : (Instr.index t (.agg cs) (.int .i64 (k : Int))).run Tryd.prog w = .ok v w := by
  have hsz := run_size e 1 he w
  have hagg : (isAgg e).run Tryd.prog w = .ok false w := by
    unfold isAgg
    rw [Sem.run_bind, run_underlying hd w]
    simp
  have hk' : 0 ≤ (k : Int) ∧ (k : Int) < (n : Int) := by omega
  unfold Instr.index part
  simp only [Sem.run_bind, run_underlying hu w, Result.andThen_ok, asIntOf, Sem.run_pure, hsz, Nat.mul_one, Int.toNat_natCast]
  rw [if_pos hk']
  simp [Sem.run_bind, hagg, hsz, hv]

/-- The table of constants, in memory. -/
def Tab (w : World) : Prop := ∀ i, i < 64 → w.cell? ⟨0, i, none⟩ = some (.int .u32 ((Sen.K.getD i 0 : Nat) : Int))
theorem Tab.below {w w1 : World} (h : Tab w) (hb : Below w.heap.size w w1) : Tab w1 := fun i hi => (hb.cell (World.block_lt_of_cell? w _ (h i hi))).trans (h i hi)
theorem Tab.drewN {w : World} (h : Tab w) (n : Nat) : Tab (w.drewN n) := h
theorem Tab.load {w : World} (h : Tab w) : (loadVar 101 ⟨0, 0, none⟩).run Tryd.prog w = .ok (.agg (wvs Sen.K).toArray) w :=
  run_load_array w 101 87 64 _ (wvs Sen.K) Tryd.underlying101 (by kernel_rfl) (by decide) fun j v hj => by
    have hl : j < 64 := by
      have := (List.getElem?_eq_some_iff.1 hj).1
      rwa [wvs_length, Sen.K_length] at this
    rw [add_plain, Nat.zero_add, h j hl, ← hj, wvs_at Sen.K j (by rw [Sen.K_length]; exact hl)]

/-! ### 5c. One row in sight: the world with row g given whole -/
theorem row_same {w : World} {g : Nat} {cs : Array Value} {t : TypeId} {fr : Nat × Nat} (h : w.heap[g]? = some (.cells cs t fr)) : w.setRow g cs = w := by
  have hlt : g < w.heap.size := (Array.getElem?_eq_some_iff.1 h).1
  have hv : w.heap[g] = .cells cs t fr := (Array.getElem?_eq_some_iff.1 h).2
  cases w with
  | mk heap tape drawn os output =>
    unfold World.setRow
    congr 1
    apply Array.ext
    · simp
    · intro k h1 h2
      simp only [Array.getElem_modify]
      split
      · rename_i hk; subst hk; simp at hv; simp [hv]
      · rfl
theorem row_set {w : World} {g : Nat} {old : Array Value} {t : TypeId} {fr : Nat × Nat} (h : w.heap[g]? = some (.cells old t fr)) (cs : Array Value) (i : Nat) (v : Value) :
    (w.setRow g cs).setCell ⟨g, i, none⟩ v = w.setRow g (cs.setIfInBounds i v) := by
  rw [setCell_eq_setRow _ g i cs t fr v (setRow_heap w g old cs t fr h), setRow_setRow]
theorem row_cell {w : World} {g : Nat} {old : Array Value} {t : TypeId} {fr : Nat × Nat} (h : w.heap[g]? = some (.cells old t fr)) (cs : Array Value) (j : Nat) : (w.setRow g cs).cell? ⟨g, j, none⟩ = cs[j]? :=
  cell_setRow_same w g j old cs t fr h
theorem row_frozen {w : World} {g : Nat} {old : Array Value} {t : TypeId} (h : w.heap[g]? = some (.cells old t (0, 0))) (cs : Array Value) (j : Nat) : (w.setRow g cs).frozen? ⟨g, j, none⟩ = false :=
  frozen_of_row _ g j cs t (setRow_heap w g old cs t (0, 0) h)
theorem setRow_drewN (w : World) (n g : Nat) (cs : Array Value) : (w.drewN n).setRow g cs = (w.setRow g cs).drewN n := rfl

/-! ### 6. Slices of arrays in memory -/
theorem run_bound (k : IntKind) (x y : Nat) (c : BoundsCode) (h : x ≤ y) (w : World) : (Instr.sliceBound (.int k (x : Int)) y c).run Tryd.prog w = .ok x w := by
  unfold Instr.sliceBound
  simp [asIntOf, h]
/-- a[lo:], a an array in memory. -/
theorem run_sliceAt_from (t e n : Nat) (hu : Tryd.prog.underlying t = some (.array n e)) (he : (Tryd.prog.info? e).map (·.size) = some 1) (g o lo : Nat) (hlo : lo < n) (w : World) :
    (Instr.sliceAt t (.pointer (some ⟨g, o, none⟩)) (some (.int .i64 (lo : Int))) none none).run Tryd.prog w = .ok (.slice (some ⟨g, o + lo, none⟩) (n - lo) (n - lo)) w := by
  have h2 := run_bound .i64 lo n .sliceB (by omega) w
  have hsz := run_size e 1 he w
  unfold Instr.sliceAt Instr.sliceBounds
  simp only [Sem.run_bind, run_underlying hu w, Result.andThen_ok, Instr.sureAddr, Sem.run_pure, Option.isSome_none, Bool.false_eq_true, if_false, h2, hsz, Nat.mul_one, add_plain]
  rw [if_neg (by omega)]
/-- a[:hi], a an array in memory. -/
theorem run_sliceAt_to (t e n : Nat) (hu : Tryd.prog.underlying t = some (.array n e)) (he : (Tryd.prog.info? e).map (·.size) = some 1) (g o hi : Nat) (hhi : hi ≤ n) (w : World) :
    (Instr.sliceAt t (.pointer (some ⟨g, o, none⟩)) none (some (.int .i64 (hi : Int))) none).run Tryd.prog w = .ok (.slice (some ⟨g, o, none⟩) hi n) w := by
  have h2 := run_bound .i64 hi n .sliceAlen hhi w
  have hsz := run_size e 1 he w
  unfold Instr.sliceAt Instr.sliceBounds
  simp only [Sem.run_bind, run_underlying hu w, Result.andThen_ok, Instr.sureAddr, Sem.run_pure, Bool.false_eq_true, if_false, h2, hsz, Nat.mul_one, Nat.sub_zero, add_plain, Nat.add_zero]
  split <;> rfl
/-- a[:], a an array in memory. -/
theorem run_sliceAt_all (t e n : Nat) (hu : Tryd.prog.underlying t = some (.array n e)) (he : (Tryd.prog.info? e).map (·.size) = some 1) (g o : Nat) (w : World) :
    (Instr.sliceAt t (.pointer (some ⟨g, o, none⟩)) none none none).run Tryd.prog w = .ok (.slice (some ⟨g, o, none⟩) n n) w := by
  have hsz := run_size e 1 he w
  unfold Instr.sliceAt Instr.sliceBounds
  simp only [Sem.run_bind, run_underlying hu w, Result.andThen_ok, Instr.sureAddr, Sem.run_pure, Bool.false_eq_true, if_false, hsz, Nat.mul_one, Nat.sub_zero, add_plain, Nat.add_zero]
  split <;> rfl
end Go.Proofs.YteplaginenhfkaaDoor
