/-
  who: the book in memory; what is looked up, what is laid into the map.
-/
import Derived.Test.YteplaginenhfkaaDoorWho3
import Derived.MapKept
set_option linter.unusedVariables false
set_option linter.unusedSimpArgs false
namespace Go.Proofs.YteplaginenhfkaaDoor
open Go.RowKit

/-- Some blocks apart, nothing that was there has turned. -/
structure OnlyS (S : Nat → Prop) (w w' : World) : Prop where
  os : w'.os = w.os
  tape : w'.tape = w.tape
  output : w'.output = w.output
  size : w.heap.size ≤ w'.heap.size
  block : ∀ k, k < w.heap.size → ¬ S k → w'.heap[k]? = w.heap[k]?
theorem OnlyS.refl (S : Nat → Prop) (w : World) : OnlyS S w w := ⟨rfl, rfl, rfl, Nat.le_refl _, fun _ _ _ => rfl⟩
theorem OnlyS.trans {S : Nat → Prop} {a b c : World} (h : OnlyS S a b) (h2 : OnlyS S b c) : OnlyS S a c :=
  ⟨h2.os.trans h.os, h2.tape.trans h.tape, h2.output.trans h.output, Nat.le_trans h.size h2.size, fun k hk h1 => (h2.block k (Nat.lt_of_lt_of_le hk h.size) h1).trans (h.block k hk h1)⟩
/-- What the first half made anew may turn in the second. -/
theorem OnlyS.trans' {S T : Nat → Prop} {a b c : World} (h : OnlyS S a b) (h2 : OnlyS T b c) (hT : ∀ k, k < a.heap.size → T k → S k) : OnlyS S a c :=
  ⟨h2.os.trans h.os, h2.tape.trans h.tape, h2.output.trans h.output, Nat.le_trans h.size h2.size, fun k hk h1 => (h2.block k (Nat.lt_of_lt_of_le hk h.size) (fun ht => h1 (hT k hk ht))).trans (h.block k hk h1)⟩
theorem OnlyS.of_below {S : Nat → Prop} {w w' : World} (h : Below w.heap.size w w') : OnlyS S w w' := ⟨h.os, h.tape, h.output, h.size, fun k hk _ => h.block k hk⟩
theorem OnlyS.below {S : Nat → Prop} {B : Nat} {w0 w w' : World} (hb : Below B w0 w) (h : OnlyS S w w') (hS : ∀ k, S k → B ≤ k) (hB : B ≤ w.heap.size) : Below B w0 w' :=
  hb.trans ⟨h.os, h.tape, h.output, h.size, fun k hk => h.block k (by omega) (fun hs => by have := hS k hs; omega)⟩
theorem OnlyS.setRow (S : Nat → Prop) (w : World) (g : Nat) (cs : Array Value) (hg : S g) : OnlyS S w (w.setRow g cs) :=
  ⟨rfl, rfl, rfl, by simp, fun k hk h => setRow_other w g k cs (fun e => h (by rw [e]; exact hg))⟩
theorem OnlyS.blk {S : Nat → Prop} {w w' : World} (h : OnlyS S w w') {k : Nat} {o : Obj} (hk : w.heap[k]? = some o) (hS : ¬ S k) : w'.heap[k]? = some o :=
  (h.block k (Array.getElem?_eq_some_iff.1 hk).1 hS).trans hk
theorem RB.onlyS {S : Nat → Prop} {w w' : World} {A : Option Addr} {l : List UInt8} (h : RB w A l) (ho : OnlyS S w w') (hA : ∀ ad, A = some ad → ¬ S ad.block) : RB w' A l :=
  ⟨h.1, fun i hi => by
    obtain ⟨b, off, e, hc⟩ := h.2 i hi
    refine ⟨b, off, e, ?_⟩
    rw [← hc]
    exact World.cell?_of_block (a := ⟨b, off + i, none⟩) (ho.block b (World.block_lt_of_cell? w _ hc) (hA _ e))⟩

/-! ### Who stands in a book -/
structure Ent where
  name : ByteArray
  blk : Nat
  cap : Nat
  key : List UInt8
  fl : Int
  li : Int
  re : Int
def Ent.val (e : Ent) : Value := persV e.name (some ⟨e.blk, 0, none⟩) 16 e.cap e.fl e.li e.re
def noneV : Value := persV ByteArray.empty none 0 0 0 0 0
def entries : List Ent → Nat → List MapEntry
  | [], _ => []
  | e :: r, i => { key := .string e.name, val := e.val, born := i } :: entries r (i + 1)
theorem entries_length : ∀ (L : List Ent) (i : Nat), (entries L i).length = L.length
  | [], _ => rfl
  | e :: r, i => by simp [entries, entries_length r]
theorem entries_snoc (e : Ent) : ∀ (L : List Ent) (i : Nat), entries (L ++ [e]) i = entries L i ++ [{ key := .string e.name, val := e.val, born := i + L.length }]
  | [], i => rfl
  | x :: r, i => by
    rw [List.cons_append, entries, entries, entries_snoc e r (i + 1), List.cons_append, List.length_cons]
    congr 4
    omega
def findE (L : List Ent) (s : ByteArray) : Option Ent := L.find? (fun x => decide (s = x.name))
theorem find_entries (s : ByteArray) : ∀ (L : List Ent) (i j : Nat), ∃ o, Instr.findNow .string (.string s) (entries L i) j = some o ∧ o.map Prod.snd = (findE L s).map Ent.val
  | [], i, j => ⟨none, rfl, rfl⟩
  | e :: r, i, j => by
    obtain ⟨o, h1, h2⟩ := find_entries s r (i + 1) (j + 1)
    by_cases h : s = e.name
    · refine ⟨some (j, e.val), ?_, ?_⟩
      · simp [entries, Instr.findNow, Instr.sameNow, h, beq_name]
      · simp [findE, List.find?_cons, h]
    · refine ⟨o, ?_, ?_⟩
      · simp [entries, Instr.findNow, Instr.sameNow, h, beq_name, h1]
      · rw [h2]
        simp [findE, List.find?_cons, h]
def MapAt (w : World) (mp : Nat) (L : List Ent) : Prop := w.heap[mp]? = some (.map (entries L 0).toArray L.length)
def putMap (w : World) (mp : Nat) (L : List Ent) : World := { w with heap := w.heap.setIfInBounds mp (.map (entries L 0).toArray L.length) }
theorem keyRun (W : World) (b : Bool) (s : ByteArray) : (Instr.checkKey b 10000 9 (.string s)).run Tryd.prog W = .ok () W :=
  MapKept.run_checkKey (k := .string s) Tryd.underlying9 (by simp [MapKept.IsKey]) b 9999
def lookV (L : List Ent) (s : ByteArray) : Value := ((findE L s).map Ent.val).getD noneV
theorem run_look {w : World} {mp : Nat} {L : List Ent} (h : MapAt w mp L) (s : ByteArray) : (Instr.lookup 64 (.map (some mp)) (.string s) true).run Tryd.prog w = .ok (.tuple #[lookV L s, .bool (findE L s).isSome]) w ∧
    (Instr.lookup 64 (.map (some mp)) (.string s) false).run Tryd.prog w = .ok (lookV L s) w := by
  obtain ⟨o, h1, h2⟩ := find_entries s L 0 0
  have hz := zeroPers w
  have hk := keyRun w (entries L 0).isEmpty s
  have hf := MapKept.run_findKey (w := w) Tryd.underlying9 h1
  unfold lookV
  cases o with
  | none =>
    have h3 : findE L s = none := by cases hq : findE L s with
      | none => rfl
      | some e => rw [hq] at h2; cases h2
    rw [h3]
    constructor <;> simp [Instr.lookup, run_underlying Tryd.underlying64, MapKept.run_getObj_map h, hk, hf, Result.andThen, hz, noneV, persV]
  | some iv =>
    obtain ⟨e, he, hv⟩ : ∃ e, findE L s = some e ∧ iv.2 = e.val := by cases hq : findE L s with
      | none => rw [hq] at h2; cases h2
      | some e => rw [hq] at h2; exact ⟨e, rfl, by simpa using h2⟩
    rw [he]
    constructor <;> simp [Instr.lookup, run_underlying Tryd.underlying64, MapKept.run_getObj_map h, hk, hf, Result.andThen, hv]
theorem run_lay {w : World} {mp : Nat} {L : List Ent} (h : MapAt w mp L) (e : Ent) (hn : findE L e.name = none) : (Instr.mapUpdate 64 (.map (some mp)) (.string e.name) e.val).run Tryd.prog w = .ok () (putMap w mp (L ++ [e])) := by
  obtain ⟨o, h1, h2⟩ := find_entries e.name L 0 0
  rw [hn] at h2
  obtain rfl : o = none := by cases o with
    | none => rfl
    | some x => cases h2
  have hk := keyRun w false e.name
  have hf := MapKept.run_findKey (w := w) Tryd.underlying9 h1
  have he : (entries L 0).toArray.push { key := .string e.name, val := e.val, born := L.length } = (entries (L ++ [e]) 0).toArray := by
    rw [entries_snoc, Nat.zero_add]
    simp
  simp [Instr.mapUpdate, run_underlying Tryd.underlying64, MapKept.run_getObj_map h, hk, hf, MapKept.run_setObj_map _ h, Result.andThen, putMap]
  rw [← he]
  simp
end Go.Proofs.YteplaginenhfkaaDoor
