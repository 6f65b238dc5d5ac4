/-
  A region that draws, with two operations that may change places.
-/
import Derived.Test.YteplaginenhfkaaDoorHold
set_option linter.unusedVariables false
set_option linter.unusedSimpArgs false
namespace Go.Proofs.YteplaginenhfkaaDoor.Last

section
variable {P : Program} {ops : Array Oper} {Q : Exit → Act → World → Prop} {md : Region.Mode} {S : World → Prop} {ds : List Nat}

def twoB (md : Region.Mode) (ops : Array Oper) (i j : Nat) (rest : List Nat) (listed : Array Bool) : Bool :=
  decide (Region.ready md ops listed = [i, j]) && seqL md ops (j :: rest) (listed.setIfInBounds i true) && seqL md ops (i :: rest) (listed.setIfInBounds j true)
theorem wpAnyLast_two (i j : Nat) (rest : List Nat) (listed : Array Bool) (a : Act) (w : World) (hB : twoB md ops i j rest listed = true) (h1 : wpMid P ops Q S ds (i :: j :: rest) a w) (h2 : wpMid P ops Q S ds (j :: i :: rest) a w) :
    wpAnyLast P md ops Q S ds (rest.length + 2) listed a w := by
  simp only [twoB, Bool.and_eq_true, decide_eq_true_eq] at hB
  obtain ⟨⟨hr, hs1⟩, hs2⟩ := hB
  refine ⟨fun h => (by rw [hr] at h; cases h), fun k hk => ?_⟩
  rw [hr] at hk
  have hk' : k = i ∨ k = j := by simpa using hk
  rcases hk' with rfl | rfl
  · exact wpOp_mono (fun a' w' h' => ⟨h'.1, wpAnyLast_of_mid (j :: rest) _ a' w' hs1 h'.2⟩) h1
  · exact wpOp_mono (fun a' w' h' => ⟨h'.1, wpAnyLast_of_mid (i :: rest) _ a' w' hs2 h'.2⟩) h2
def hd2B (md : Region.Mode) (ops : Array Oper) (ds : List Nat) (i j : Nat) (rest : List Nat) : List Nat → Array Bool → Bool
  | [], listed => twoB md ops i j rest listed
  | k :: hd, listed => (match ops[k]? with | some o => moveOp o || (Region.closedB md ops listed && Region.lastB md ops listed ds k) | none => false) &&
      (Region.ready md ops listed).contains k && Region.free md ops listed k && hd2B md ops ds i j rest hd (listed.setIfInBounds k true)
theorem wpAnyLast_hd2 (hsel : Region.noSelect ops = true) (hQ : ∀ (d : Option Tmp) (v : Value) c (a : Act) w, Q (.panic c) (a.put d v) w → Q (.panic c) a w) {i j : Nat} {rest : List Nat} {w : World} (hS : S w) :
    ∀ (hd : List Nat) (listed : Array Bool) (a : Act), hd2B md ops ds i j rest hd listed = true → wpHd P ops S (fun a' => wpMid P ops Q S ds (i :: j :: rest) a' w ∧ wpMid P ops Q S ds (j :: i :: rest) a' w) hd a → wpAnyLast P md ops Q S ds (hd.length + (rest.length + 2)) listed a w
  | [], listed, a, hB, h => by
    rw [List.length_nil, Nat.zero_add]
    exact wpAnyLast_two i j rest listed a w (by simpa [hd2B] using hB) h.1 h.2
  | k :: hd, listed, a, hB, h => by
    obtain ⟨o, v, h0, hy, h⟩ := h
    simp only [hd2B, h0, Bool.and_eq_true, Bool.or_eq_true] at hB
    obtain ⟨⟨⟨hm, hr⟩, hf⟩, hB'⟩ := hB
    have hrest := wpAnyLast_hd2 hsel hQ hS hd _ _ hB' h
    rw [List.length_cons, show hd.length + 1 + (rest.length + 2) = (hd.length + (rest.length + 2)) + 1 by omega]
    rcases hm with hm | ⟨hc, hl⟩
    · exact wpAnyLast_any h0 (Region.noSelect_spec hsel) (fun c a w => hQ _ _ c a w) _ _ _ _ (Region.free_spec h0 hf) (by simpa using hr) (yields_of_if hm hS hy) hrest
    · exact wpAnyLast_take h0 hsel hf hr hc hl (fun c a w => hQ _ _ c a w) hy hS hrest
def hold2B (md : Region.Mode) (ops : Array Oper) (hd : List Nat) (i j : Nat) (rest ds : List Nat) : Bool :=
  Region.noSelect ops && decide (hd.length + (rest.length + 2) = ops.size) && hd2B md ops ds i j rest hd (Array.replicate ops.size false)
/-- Reads first, then numbers i and j in any order, then the rest. -/
theorem region_hold2 {id : Nat} {a : Act} {w : World} {l : List Oper} (S : World → Prop) (hd : List Nat) (i j : Nat) (rest ds : List Nat) (hm : P.follows .mixedOrders = true) (hB : hold2B .any l.toArray hd i j rest ds = true)
    (hQ : ∀ (d : Option Tmp) (v : Value) c (a : Act) w, Q (.panic c) (a.put d v) w → Q (.panic c) a w) (hS : S (w.drewN 1))
    (h : wpHd P l.toArray S (fun a' => wpMid P l.toArray Q S ds (i :: j :: rest) a' (w.drewN 1) ∧ wpMid P l.toArray Q S ds (j :: i :: rest) a' (w.drewN 1)) hd a) : (Code.region id l.toArray true).wp P Q a w := by
  simp only [hold2B, Bool.and_eq_true, decide_eq_true_eq] at hB
  obtain ⟨⟨hsel, hn⟩, hlex⟩ := hB
  refine wp_region_last (S := S) (ds := ds) hm ?_
  have H := wpAnyLast_hd2 (P := P) (md := .any) (Q := Q) (S := S) (ds := ds) hsel hQ hS hd _ a hlex h
  rw [hn] at H
  exact H
end
end Go.Proofs.YteplaginenhfkaaDoor.Last
