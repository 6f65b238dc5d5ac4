/-
  A region that draws its order and holds reads next to calls: what is read stays so in every world that meets S, so it is read first; then the rest in its own order.
-/
import Derived.Test.YteplaginenhfkaaDoorLast
set_option linter.unusedVariables false
set_option linter.unusedSimpArgs false
namespace Go.Proofs.YteplaginenhfkaaDoor.Last

section
variable {P : Program} {ops : Array Oper} {Q : Exit → Act → World → Prop} {md : Region.Mode} {S : World → Prop} {ds : List Nat}

def wpMid (P : Program) (ops : Array Oper) (Q : Exit → Act → World → Prop) (S : World → Prop) (ds : List Nat) : List Nat → Act → World → Prop
  | [], a, w => Q .normal a w
  | k :: r, a, w => wpOp P ops Q k (fun a' w' => (k ∉ ds → S w → S w') ∧ wpMid P ops Q S ds r a' w') a w
def seqL (md : Region.Mode) (ops : Array Oper) : List Nat → Array Bool → Bool
  | [], listed => decide (Region.ready md ops listed = [])
  | k :: r, listed => decide (Region.ready md ops listed = [k]) && seqL md ops r (listed.setIfInBounds k true)
theorem wpAnyLast_of_mid : ∀ (rest : List Nat) (listed : Array Bool) (a : Act) (w : World), seqL md ops rest listed = true → wpMid P ops Q S ds rest a w → wpAnyLast P md ops Q S ds rest.length listed a w
  | [], listed, a, w, hB, h => ⟨by simpa [seqL] using hB, h⟩
  | k :: r, listed, a, w, hB, h => by
    simp only [seqL, Bool.and_eq_true, decide_eq_true_eq] at hB
    refine ⟨fun h1 => (by rw [hB.1] at h1; cases h1), fun i hi => ?_⟩
    rw [hB.1] at hi
    have hik : i = k := by simpa using hi
    subst hik
    exact wpOp_mono (fun a' w' h' => ⟨h'.1, wpAnyLast_of_mid r _ a' w' hB.2 h'.2⟩) h
def wpHd (P : Program) (ops : Array Oper) (S : World → Prop) (K : Act → Prop) : List Nat → Act → Prop
  | [], a => K a
  | i :: r, a => ∃ o v, ops[i]? = some o ∧ YieldsIf P ops S o v a ∧ wpHd P ops S K r (a.put o.dst v)
def hdB (md : Region.Mode) (ops : Array Oper) (ds rest : List Nat) : List Nat → Array Bool → Bool
  | [], listed => seqL md ops rest listed
  | i :: hd, listed => (match ops[i]? with | some o => moveOp o || (Region.closedB md ops listed && Region.lastB md ops listed ds i) | none => false) &&
      (Region.ready md ops listed).contains i && Region.free md ops listed i && hdB md ops ds rest hd (listed.setIfInBounds i true)
theorem yields_of_if {o : Oper} {v : Value} {a : Act} (hv : moveOp o = true) {w : World} (hS : S w) (h : YieldsIf P ops S o v a) : Yields P ops o v a := by
  unfold moveOp at hv
  split at hv
  · rename_i x ho
    have hr : ∀ w, (execOp a.eval o).run P w = .ok (.value (a.eval x)) w := fun w => by unfold execOp; simp only [ho, Sem.run_pure]
    rcases h with ⟨hw, h1⟩ | h2
    · have h1 := h1 w hS
      rw [hr] at h1
      have e : a.eval x = v := by injection h1 with h1; injection h1
      exact .inl ⟨hw, fun w' => by rw [hr, e]⟩
    · exact .inr h2
  · cases hv
theorem wpAnyLast_hd (hsel : Region.noSelect ops = true) (hQ : ∀ (d : Option Tmp) (v : Value) c (a : Act) w, Q (.panic c) (a.put d v) w → Q (.panic c) a w) {rest : List Nat} {w : World} (hS : S w) :
    ∀ (hd : List Nat) (listed : Array Bool) (a : Act), hdB md ops ds rest hd listed = true → wpHd P ops S (fun a' => wpMid P ops Q S ds rest a' w) hd a → wpAnyLast P md ops Q S ds (hd.length + rest.length) listed a w
  | [], listed, a, hB, h => by
    rw [List.length_nil, Nat.zero_add]
    exact wpAnyLast_of_mid rest listed a w (by simpa [hdB] using hB) h
  | i :: hd, listed, a, hB, h => by
    obtain ⟨o, v, h0, hy, h⟩ := h
    simp only [hdB, h0, Bool.and_eq_true, Bool.or_eq_true] at hB
    obtain ⟨⟨⟨hm, hr⟩, hf⟩, hB'⟩ := hB
    have hrest := wpAnyLast_hd hsel hQ hS hd _ _ hB' h
    rw [List.length_cons, show hd.length + 1 + rest.length = (hd.length + rest.length) + 1 by omega]
    rcases hm with hm | ⟨hc, hl⟩
    · exact wpAnyLast_any h0 (Region.noSelect_spec hsel) (fun c a w => hQ _ _ c a w) _ _ _ _ (Region.free_spec h0 hf) (by simpa using hr) (yields_of_if hm hS hy) hrest
    · exact wpAnyLast_take h0 hsel hf hr hc hl (fun c a w => hQ _ _ c a w) hy hS hrest
def holdB (md : Region.Mode) (ops : Array Oper) (hd rest ds : List Nat) : Bool :=
  Region.noSelect ops && decide (hd.length + rest.length = ops.size) && hdB md ops ds rest hd (Array.replicate ops.size false)
/-- READS FIRST (numbers hd), what is read staying so while S holds; then the rest in its one order, each of it keeping S, those of ds apart, which wait for all that is read. -/
theorem region_hold {id : Nat} {a : Act} {w : World} {l : List Oper} (S : World → Prop) (hd rest ds : List Nat) (hm : P.follows .mixedOrders = true) (hB : holdB .any l.toArray hd rest ds = true)
    (hQ : ∀ (d : Option Tmp) (v : Value) c (a : Act) w, Q (.panic c) (a.put d v) w → Q (.panic c) a w) (hS : S (w.drewN 1))
    (h : wpHd P l.toArray S (fun a' => wpMid P l.toArray Q S ds rest a' (w.drewN 1)) hd a) : (Code.region id l.toArray true).wp P Q a w := by
  simp only [holdB, Bool.and_eq_true, decide_eq_true_eq] at hB
  obtain ⟨⟨hsel, hn⟩, hlex⟩ := hB
  refine wp_region_last (S := S) (ds := ds) hm ?_
  have H := wpAnyLast_hd (P := P) (md := .any) (Q := Q) (S := S) (ds := ds) hsel hQ hS hd _ a hlex h
  rw [hn] at H
  exact H
/-- A read. -/
theorem hold_read {K : Act → Prop} {i : Nat} {r : List Nat} {a : Act} (o : Oper) (v : Value) (hi : ops[i]? = some o) (hg : o.guard = none) (hr : ∀ w, S w → (execOp a.eval o).run P w = .ok (.value v) w)
    (h : wpHd P ops S K r (a.put o.dst v)) : wpHd P ops S K (i :: r) a :=
  ⟨o, v, hi, .inl ⟨by simp [Region.wanted, hg], hr⟩, h⟩
theorem hold_move {K : Act → Prop} {i : Nat} {r : List Nat} {a : Act} (o : Oper) (x : Operand) (hi : ops[i]? = some o) (hg : o.guard = none) (ho : o.op = .move x)
    (h : wpHd P ops S K r (a.put o.dst (a.eval x))) : wpHd P ops S K (i :: r) a :=
  hold_read o _ hi hg (fun w _ => by unfold execOp; simp only [ho, Sem.run_pure]) h
theorem hold_load {K : Act → Prop} {i : Nat} {r : List Nat} {a : Act} (o : Oper) (ty : TypeId) (x : Operand) (ad : Addr) (v : Value) (hi : ops[i]? = some o) (hg : o.guard = none) (ho : o.op = .load ty x) (hx : a.eval x = .pointer (some ad))
    (hr : ∀ w, S w → (loadVar ty ad).run P w = .ok v w) (h : wpHd P ops S K r (a.put o.dst v)) : wpHd P ops S K (i :: r) a :=
  hold_read o v hi hg (fun w hS => by
    unfold execOp
    simp only [ho, hx, Instr.loadAt, Instr.sureAddr, Sem.run_bind, Sem.run_pure, Result.andThen_ok, hr w hS]) h
theorem hold_slice {K : Act → Prop} {i : Nat} {r : List Nat} {a : Act} (o : Oper) (ty : TypeId) (x : Operand) (lo hi' mx : Option Operand) (v : Value) (hi : ops[i]? = some o) (hg : o.guard = none) (ho : o.op = .slice ty x lo hi' mx)
    (hr : ∀ w, S w → (execOp a.eval o).run P w = .ok (.value v) w) (h : wpHd P ops S K r (a.put o.dst v)) : wpHd P ops S K (i :: r) a :=
  hold_read o v hi hg hr h
/-- A call among what follows: it keeps S. -/
theorem mid_call {k : Nat} {r : List Nat} {a : Act} {w : World} (o : Oper) (f : FuncId) (vs : Array Value) (hi : ops[k]? = some o) (hg : o.guard = none) (hr : (execOp a.eval o).run P w = .ok (.enter f vs) w)
    (h : Calls P f vs w fun e w' => ∃ v, e = .returned v ∧ (k ∉ ds → S w → S w') ∧ wpMid P ops Q S ds r (a.put o.dst v) w') : wpMid P ops Q S ds (k :: r) a w := by
  unfold wpMid wpOp
  simp only [hi]
  rw [if_pos (by simp [Region.wanted, hg])]
  refine .inl ?_
  unfold Oper.wp
  rw [hr]
  refine h.mono ?_
  rintro e w' ⟨v, rfl, h1, h2⟩
  exact ⟨h1, h2⟩
/-- The end: nothing is asked of S any more. -/
theorem mid_list {rest : List Nat} {a : Act} {w : World} (l : List Oper) (hl : rest.map (fun k => ops[k]?) = l.map some) (hd : ∀ k ∈ rest, k ∈ ds) (h : wpList P ops Q l a w) : wpMid P ops Q S ds rest a w := by
  induction rest generalizing l a w with
  | nil =>
    cases l with
    | nil => exact h
    | cons o l => simp at hl
  | cons k r ih =>
    cases l with
    | nil => simp at hl
    | cons o l =>
      simp only [List.map_cons, List.cons.injEq] at hl
      have hw : wpOp P ops Q k (wpList P ops Q l) a w := by unfold wpOp; simp only [hl.1]; exact h
      exact wpOp_mono (fun a' w' h' => ⟨fun hn => absurd (hd k (by simp)) hn, ih l hl.2 (fun j hj => hd j (by simp [hj])) h'⟩) hw
theorem mid_tail {l : List Oper} (n : Nat) {rest : List Nat} {a : Act} {w : World} (hl : rest.map (fun k => l.toArray[k]?) = (l.drop n).map some) (hd : ∀ k ∈ rest, k ∈ ds) (h : wpList P l.toArray Q (l.drop n) a w) : wpMid P l.toArray Q S ds rest a w :=
  mid_list (l.drop n) hl hd h
end
end Go.Proofs.YteplaginenhfkaaDoor.Last
