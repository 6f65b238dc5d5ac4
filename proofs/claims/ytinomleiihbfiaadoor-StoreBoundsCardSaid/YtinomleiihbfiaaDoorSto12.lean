/-
  store: the walk of Erase; a region that draws, with two operations that may change places.
-/
import Derived.Test.YtinomleiihbfiaaDoorSto11
set_option linter.unusedVariables false
set_option linter.unusedSimpArgs false
namespace Go.Proofs.YtinomleiihbfiaaDoor.Last

section
variable {P : Program} {ops : Array Oper} {Q : Exit → Act → World → Prop} {md : Region.Mode} {S : World → Prop} {ds : List Nat}

def twoB (md : Region.Mode) (ops : Array Oper) (i j : Nat) (rest : List Nat) (listed : Array Bool) : Bool :=
  decide (Region.ready md ops listed = [i, j]) && seqL md ops (j :: rest) (listed.setIfInBounds i true) && seqL md ops (i :: rest) (listed.setIfInBounds j true)
theorem wpAnyLast_two (i j : Nat) (rest : List Nat) (listed : Array Bool) (a : Act) (w : World) (hB : twoB md ops i j rest listed = true) (h1 : wpMid P ops Q S ds (i :: j :: rest) a w) (h2 : wpMid P ops Q S ds (j :: i :: rest) a w) :
    wpAnyLast P md ops Q S ds (rest.length + 2) listed a w := by
  simp only [twoB, Bool.and_eq_true, decide_eq_true_eq] at hB
  obtain ⟨⟨hr, hs1⟩, hs2⟩ := hB
  refine ⟨fun h => (by rw [hr] at h; cases h), fun k hk => ?_⟩
  rw [hr] at hk
  have hk' : k = i ∨ k = j := by simpa using hk
  rcases hk' with rfl | rfl
  · exact wpOp_mono (fun a' w' h' => ⟨h'.1, wpAnyLast_of_mid (j :: rest) _ a' w' hs1 h'.2⟩) h1
  · exact wpOp_mono (fun a' w' h' => ⟨h'.1, wpAnyLast_of_mid (i :: rest) _ a' w' hs2 h'.2⟩) h2
def hd2B (md : Region.Mode) (ops : Array Oper) (ds : List Nat) (i j : Nat) (rest : List Nat) : List Nat → Array Bool → Bool
  | [], listed => twoB md ops i j rest listed
  | k :: hd, listed => (match ops[k]? with | some o => moveOp o || (Region.closedB md ops listed && Region.lastB md ops listed ds k) | none => false) &&
      (Region.ready md ops listed).contains k && Region.free md ops listed k && hd2B md ops ds i j rest hd (listed.setIfInBounds k true)
theorem wpAnyLast_hd2 (hsel : Region.noSelect ops = true) (hQ : ∀ (d : Option Tmp) (v : Value) c (a : Act) w, Q (.panic c) (a.put d v) w → Q (.panic c) a w) {i j : Nat} {rest : List Nat} {w : World} (hS : S w) :
    ∀ (hd : List Nat) (listed : Array Bool) (a : Act), hd2B md ops ds i j rest hd listed = true → wpHd P ops S (fun a' => wpMid P ops Q S ds (i :: j :: rest) a' w ∧ wpMid P ops Q S ds (j :: i :: rest) a' w) hd a → wpAnyLast P md ops Q S ds (hd.length + (rest.length + 2)) listed a w
  | [], listed, a, hB, h => by
    rw [List.length_nil, Nat.zero_add]
    exact wpAnyLast_two i j rest listed a w (by simpa [hd2B] using hB) h.1 h.2
  | k :: hd, listed, a, hB, h => by
    obtain ⟨o, v, h0, hy, h⟩ := h
    simp only [hd2B, h0, Bool.and_eq_true, Bool.or_eq_true] at hB
    obtain ⟨⟨⟨hm, hr⟩, hf⟩, hB'⟩ := hB
    have hrest := wpAnyLast_hd2 hsel hQ hS hd _ _ hB' h
    rw [List.length_cons, show hd.length + 1 + (rest.length + 2) = (hd.length + (rest.length + 2)) + 1 by omega]
    rcases hm with hm | ⟨hc, hl⟩
    · exact wpAnyLast_any h0 (Region.noSelect_spec hsel) (fun c a w => hQ _ _ c a w) _ _ _ _ (Region.free_spec h0 hf) (by simpa using hr) (yields_of_if hm hS hy) hrest
    · exact wpAnyLast_take h0 hsel hf hr hc hl (fun c a w => hQ _ _ c a w) hy hS hrest
def hold2B (md : Region.Mode) (ops : Array Oper) (hd : List Nat) (i j : Nat) (rest ds : List Nat) : Bool :=
  Region.noSelect ops && decide (hd.length + (rest.length + 2) = ops.size) && hd2B md ops ds i j rest hd (Array.replicate ops.size false)
/-- Reads first, then numbers i and j in any order, then the rest. -/
theorem region_hold2 {id : Nat} {a : Act} {w : World} {l : List Oper} (S : World → Prop) (hd : List Nat) (i j : Nat) (rest ds : List Nat) (hm : P.follows .mixedOrders = true) (hB : hold2B .any l.toArray hd i j rest ds = true)
    (hQ : ∀ (d : Option Tmp) (v : Value) c (a : Act) w, Q (.panic c) (a.put d v) w → Q (.panic c) a w) (hS : S (w.drewN 1))
    (h : wpHd P l.toArray S (fun a' => wpMid P l.toArray Q S ds (i :: j :: rest) a' (w.drewN 1) ∧ wpMid P l.toArray Q S ds (j :: i :: rest) a' (w.drewN 1)) hd a) : (Code.region id l.toArray true).wp P Q a w := by
  simp only [hold2B, Bool.and_eq_true, decide_eq_true_eq] at hB
  obtain ⟨⟨hsel, hn⟩, hlex⟩ := hB
  refine wp_region_last (S := S) (ds := ds) hm ?_
  have H := wpAnyLast_hd2 (P := P) (md := .any) (Q := Q) (S := S) (ds := ds) hsel hQ hS hd _ a hlex h
  rw [hn] at H
  exact H
/-- An operation among what follows that turns the world. -/
theorem mid_run {k : Nat} {r : List Nat} {a : Act} {w : World} (o : Oper) (v : Value) (w1 : World) (hi : ops[k]? = some o) (hg : o.guard = none) (hr : (execOp a.eval o).run P w = .ok (.value v) w1)
    (h1 : k ∉ ds → S w → S w1) (h : wpMid P ops Q S ds r (a.put o.dst v) w1) : wpMid P ops Q S ds (k :: r) a w := by
  unfold wpMid wpOp
  simp only [hi]
  rw [if_pos (by simp [Region.wanted, hg])]
  refine .inl ?_
  unfold Oper.wp
  rw [hr]
  exact ⟨h1, h⟩
end
end Go.Proofs.YtinomleiihbfiaaDoor.Last
namespace Go.Proofs.YtinomleiihbfiaaDoor
open Go.RowKit

def eraseS (s : Sen.Sto) (n : Int) : Sen.Sto × Int :=
  if (getS s n).2 = 0 then (Sen.wrote s (n.toNat % 2 * s.size) (Sen.zeros s.size), if Sen.fits s (Sen.zeros s.size) then 0 else 8) else (s, (getS s n).2)
theorem getS_zero (s : Sen.Sto) (n : Int) (h : (getS s n).2 = 0) : 0 ≤ n ∧ n ≤ 1048576 ∧ s.gone = false := by
  unfold getS at h
  split at h
  · cases h
  · split at h
    · cases h
    · rename_i h1 h2
      exact ⟨by omega, by omega, by simpa using h2⟩
set_option maxRecDepth 100000 in
set_option maxHeartbeats 2000000 in
theorem erase_c (p g : Nat) (s : Sen.Sto) (n : Int) (w : World) (h : StA w p g s) (hT : Tab w) (hwr : s.written ≤ 1000000) :
    Calls Tryd.prog 12 #[.pointer (some ⟨p, 0, none⟩), .int .i64 n] w (PutPost w p g (eraseS s n)) := by
  have hlo := h.ok.lo
  have hhi := h.ok.hi
  have hgc := get_c p g s n w h hT
  have H := Lib.hid h; have HT := Lib.hid hT
  have hg0 := getS_zero s n
  have hes : eraseS s n = if (getS s n).2 = 0 then (Sen.wrote s (n.toNat % 2 * s.size) (Sen.zeros s.size), if Sen.fits s (Sen.zeros s.size) then 0 else 8) else (s, (getS s n).2) := rfl
  obtain ⟨o, ho⟩ : ∃ o, o = getS s n := ⟨_, rfl⟩
  rw [← ho] at hgc hg0 hes
  obtain ⟨gb, ge⟩ := o
  simp only at hes hg0
  rw [hes]
  have HGC := Lib.hid hgc
  by_cases he : ge = 0
  · subst he
    rw [if_pos rfl]
    obtain ⟨g1, g2, hgone⟩ := hg0 rfl
    obtain ⟨k, rfl⟩ : ∃ k : Nat, n = k := ⟨n.toNat, by omega⟩
    rw [Int.toNat_natCast]
    have hk : k ≤ 1048576 := by omega
    have hpc := fun w' (hw : Below w.heap.size w w') => place_c p g s k hk w' (h.below hw)
    obtain ⟨S, hS⟩ : ∃ S, S = s.size := ⟨_, rfl⟩
    rw [← hS] at hpc hlo hhi
    have HS := Lib.hid hS
    have HG := Lib.hid hgone
    have HPC := Lib.hid hpc
    obtain ⟨O, hO⟩ : ∃ O, O = k % 2 * S := ⟨_, rfl⟩
    obtain ⟨CD, hCD⟩ : ∃ CD : Int, CD = (if Sen.fits s (Sen.zeros s.size) then 0 else 8) := ⟨_, rfl⟩
    rw [← hCD]
    have HCD := Lib.hid hCD
    have hmk := fun W => run_make_bytes S (by omega) (S : Int) rfl W
    obtain ⟨Z, hZ⟩ : ∃ Z, Z = Sen.zeros S := ⟨_, rfl⟩
    rw [show List.replicate S (0 : UInt8) = Z from hZ.symm] at hmk
    have HZL := Lib.hid (show Z.length = S by rw [hZ]; simp [Sen.zeros])
    rw [← hS, ← hZ] at hCD ⊢
    have HZ := Lib.hid hZ
    clear hgc h hT hg0 hes ho g1 g2 hgone hpc hS hO hCD hZ
    go_enter Tryd.func12, Tryd.ntmps12
    go_wp2_with fail
    refine HGC.out.mono ?_
    rintro e w1 ⟨hb1, A1, c1, rfl, _, _⟩
    have HB1 := Lib.hid hb1
    clear hb1
    go_wp2_with fail
    refine Last.region_hold2 (fun w' => Below w.heap.size w w') [0, 1, 2, 4, 5, 6, 7] 3 8 [9, 10, 11] [9, 10, 11] (by kernel_rfl) (by kernel_rfl) (fun d _ _ _ _ h => by cases d <;> exact h) (below_drewN HB1.out 1) ?_
    refine Last.hold_move _ _ rfl rfl rfl ?_
    refine Last.hold_move _ _ rfl rfl rfl ?_
    refine Last.hold_move _ _ rfl rfl rfl ?_
    refine Last.hold_move _ _ rfl rfl rfl ?_
    refine Last.hold_read _ (.pointer (some ⟨p, 0, none⟩)) rfl rfl (fun W' _ => ?_) ?_
    · go_simp
    refine Last.hold_read _ (.pointer (some ⟨p, 3, none⟩)) rfl rfl (fun W' _ => ?_) ?_
    · go_simp
    refine Last.hold_read _ (.int .i64 (S : Int)) rfl rfl (fun W' hW => ?_) ?_
    · have hc := (H.out.below hW).cells.2.2.2.1
      rw [← HS.out] at hc
      go_simp
    refine ⟨?_, ?_⟩
    · show Last.wpMid _ _ _ _ _ _ _ _
      refine Last.mid_call _ 24 #[.pointer (some ⟨p, 0, none⟩), .int .i64 (k : Int)] rfl rfl (by kernel_rfl) ?_
      refine (HPC.out _ (below_drewN HB1.out 1)).mono ?_
      rintro e w2 ⟨rfl, q, rfl⟩
      refine ⟨_, rfl, fun _ hS => below_drewN hS q, ?_⟩
      refine Last.mid_run _ (.slice (some ⟨((w1.drewN 1).drewN q).heap.size, 0, none⟩) S S) (((w1.drewN 1).drewN q).alloc (.cells (bvs Z).toArray 5)) rfl rfl (by go_simp) (fun _ hS => below_alloc hS _) ?_
      refine Last.mid_tail 9 (by kernel_rfl) (by decide) ?_
      simp only [List.drop_succ_cons, List.drop_zero]
      obtain ⟨X, hX⟩ : ∃ X, X = ((w1.drewN 1).drewN q).alloc (.cells (bvs Z).toArray 5) := ⟨_, rfl⟩
      obtain ⟨g2, hg2⟩ : ∃ g2, g2 = ((w1.drewN 1).drewN q).heap.size := ⟨_, rfl⟩
      have hBX : Below w.heap.size w X := by rw [hX]; exact below_alloc (below_drewN (below_drewN HB1.out 1) q) _
      have hGX : X.heap[g2]? = some (.cells (bvs Z).toArray 5 (0, 0)) := by rw [hX, hg2]; exact blk_new _ rfl
      have hgl : w.heap.size ≤ g2 := by rw [hg2]; exact HB1.out.size
      rw [← hX, ← hg2]
      have hRX := rb_of_row hGX (by rw [HZL.out]; omega)
      have hlt := H.out.lt
      have HRX := Lib.hid hRX; have HBX := Lib.hid hBX
      clear hX hg2 hBX hGX hRX
      have hwc := write_c p g s (some ⟨g2, 0, none⟩) S Z (k % 2) S (2 * S - k % 2 * S) X (H.out.below HBX.out) HG.out (by omega) HS.out (by rw [HZL.out, ← HS.out]; omega) hwr HRX.out (fun ad had => by injection had with had; subst had; exact ⟨by show g2 ≠ p; omega, by show g2 ≠ g; omega⟩)
      rw [HZL.out, ← HS.out] at hwc
      have HWC := Lib.hid hwc
      clear hwc hlt
      go_wp2_with fail
      refine HWC.out.mono ?_
      rintro e w7 ⟨⟨v, rfl, hok, hbad⟩, hst, hon⟩
      have HST := Lib.hid hst; have HON := Lib.hid ((Only.of_below HBX.out).trans hon)
      clear hst hon
      cases hf : Sen.fits s Z with
      | true =>
        rw [hf] at hok
        obtain rfl := hok rfl
        have E1 := Lib.hid (show CD = 0 by rw [HCD.out, ← HS.out, ← HZ.out, hf]; rfl)
        clear hok hbad hf
        go_wp2_with fail
        refine (number_ok w7).mono ?_
        rintro e w8 ⟨rfl, rfl⟩
        go_wp2
        go_ret
        exact ⟨congrArg (fun z => Ending.returned (Value.int .i64 z)) E1.out.symm, HST.out, HON.out⟩
      | false =>
        rw [hf] at hbad
        obtain ⟨i, rfl⟩ := hbad rfl
        have E1 := Lib.hid (show CD = 8 by rw [HCD.out, ← HS.out, ← HZ.out, hf]; rfl)
        clear hok hbad hf
        go_wp2_with fail
        refine (number_busy i w7).mono ?_
        rintro e w8 ⟨rfl, hb8⟩
        go_wp2
        go_ret
        exact ⟨congrArg (fun z => Ending.returned (Value.int .i64 z)) E1.out.symm, HST.out.below hb8, HON.out.trans (Only.of_below hb8)⟩
    · show Last.wpMid _ _ _ _ _ _ _ _
      refine Last.mid_run _ (.slice (some ⟨(w1.drewN 1).heap.size, 0, none⟩) S S) ((w1.drewN 1).alloc (.cells (bvs Z).toArray 5)) rfl rfl (by go_simp) (fun _ hS => below_alloc hS _) ?_
      show Last.wpMid _ _ _ _ _ _ _ _
      refine Last.mid_call _ 24 #[.pointer (some ⟨p, 0, none⟩), .int .i64 (k : Int)] rfl rfl (by kernel_rfl) ?_
      refine (HPC.out _ (below_alloc (below_drewN HB1.out 1) _)).mono ?_
      rintro e w2 ⟨rfl, q, rfl⟩
      refine ⟨_, rfl, fun _ hS => below_drewN hS q, ?_⟩
      refine Last.mid_tail 9 (by kernel_rfl) (by decide) ?_
      simp only [List.drop_succ_cons, List.drop_zero]
      obtain ⟨X, hX⟩ : ∃ X, X = ((w1.drewN 1).alloc (.cells (bvs Z).toArray 5)).drewN q := ⟨_, rfl⟩
      obtain ⟨g2, hg2⟩ : ∃ g2, g2 = (w1.drewN 1).heap.size := ⟨_, rfl⟩
      have hBX : Below w.heap.size w X := by rw [hX]; exact below_drewN (below_alloc (below_drewN HB1.out 1) _) q
      have hGX : X.heap[g2]? = some (.cells (bvs Z).toArray 5 (0, 0)) := by rw [hX, hg2]; exact blk_new _ rfl
      have hgl : w.heap.size ≤ g2 := by rw [hg2]; exact HB1.out.size
      rw [← hX, ← hg2]
      have hRX := rb_of_row hGX (by rw [HZL.out]; omega)
      have hlt := H.out.lt
      have HRX := Lib.hid hRX; have HBX := Lib.hid hBX
      clear hX hg2 hBX hGX hRX
      have hwc := write_c p g s (some ⟨g2, 0, none⟩) S Z (k % 2) S (2 * S - k % 2 * S) X (H.out.below HBX.out) HG.out (by omega) HS.out (by rw [HZL.out, ← HS.out]; omega) hwr HRX.out (fun ad had => by injection had with had; subst had; exact ⟨by show g2 ≠ p; omega, by show g2 ≠ g; omega⟩)
      rw [HZL.out, ← HS.out] at hwc
      have HWC := Lib.hid hwc
      clear hwc hlt
      go_wp2_with fail
      refine HWC.out.mono ?_
      rintro e w7 ⟨⟨v, rfl, hok, hbad⟩, hst, hon⟩
      have HST := Lib.hid hst; have HON := Lib.hid ((Only.of_below HBX.out).trans hon)
      clear hst hon
      cases hf : Sen.fits s Z with
      | true =>
        rw [hf] at hok
        obtain rfl := hok rfl
        have E1 := Lib.hid (show CD = 0 by rw [HCD.out, ← HS.out, ← HZ.out, hf]; rfl)
        clear hok hbad hf
        go_wp2_with fail
        refine (number_ok w7).mono ?_
        rintro e w8 ⟨rfl, rfl⟩
        go_wp2
        go_ret
        exact ⟨congrArg (fun z => Ending.returned (Value.int .i64 z)) E1.out.symm, HST.out, HON.out⟩
      | false =>
        rw [hf] at hbad
        obtain ⟨i, rfl⟩ := hbad rfl
        have E1 := Lib.hid (show CD = 8 by rw [HCD.out, ← HS.out, ← HZ.out, hf]; rfl)
        clear hok hbad hf
        go_wp2_with fail
        refine (number_busy i w7).mono ?_
        rintro e w8 ⟨rfl, hb8⟩
        go_wp2
        go_ret
        exact ⟨congrArg (fun z => Ending.returned (Value.int .i64 z)) E1.out.symm, HST.out.below hb8, HON.out.trans (Only.of_below hb8)⟩
  · rw [if_neg he]
    clear hgc h hT hg0 hes ho
    go_enter Tryd.func12, Tryd.ntmps12
    go_wp2_with fail
    refine HGC.out.mono ?_
    rintro e w1 ⟨hb1, A1, c1, rfl, _, _⟩
    have HB1 := Lib.hid hb1
    clear hb1
    go_wp2
    go_ret
    exact ⟨rfl, H.out.below HB1.out, Only.of_below HB1.out⟩
end Go.Proofs.YtinomleiihbfiaaDoor
