/-
  store: the walks of spend and write.
-/
import Derived.Test.YtinomleiihbfiaaDoorSto1
set_option linter.unusedVariables false
set_option linter.unusedSimpArgs false
namespace Go.Proofs.YtinomleiihbfiaaDoor
open Go.RowKit

/-- What spend leaves in the struct. -/
def spent (s : Sen.Sto) : Sen.Sto := { s with left := max (s.left - 1) (-1), written := s.written + 1 }
theorem setRow_comm (w : World) (p g : Nat) (a b : Array Value) (h : p ≠ g) : (w.setRow p a).setRow g b = (w.setRow g b).setRow p a := by
  unfold World.setRow
  congr 1
  apply Array.ext_getElem?
  intro k
  simp only [Array.getElem?_modify]
  by_cases h1 : p = k <;> by_cases h2 : g = k <;> simp [h1, h2]
  omega
set_option maxRecDepth 100000 in
set_option maxHeartbeats 1000000 in
theorem spend_yes (p g : Nat) (s : Sen.Sto) (w : World) (h : w.heap[p]? = some (.cells (rowS s g).toArray 28 (0, 0))) (hg : s.gone = false) (h0 : s.left ≠ 0) (h1 : -1 ≤ s.left) (h2 : s.left ≤ 4611686018427387904) (h3 : s.written ≤ 1000000000) :
    Calls Tryd.prog 33 #[.pointer (some ⟨p, 0, none⟩)] w fun e w' => e = .returned (.bool true) ∧ w' = w.setRow p (rowS (spent s) g).toArray := by
  obtain ⟨l, wn, gn, sz, im⟩ := s
  simp only at hg h0 h1 h2 h3
  subst hg
  have H := Lib.hid h
  rw [← row_same h]
  have hset := fun cs i v => row_set H.out cs i v
  have hcell := fun cs j => row_cell H.out cs j
  have hfro := fun cs j => row_frozen H.out cs j
  clear h
  unfold rowS spent
  by_cases hl : l < 0
  · obtain rfl : l = -1 := by omega
    go_enter Tryd.func33, Tryd.ntmps33
    go_wp2
    go_ret
    exact ⟨rfl, by rw [setRow_setRow]; rfl⟩
  · have hm : max (l - 1) (-1) = l - 1 := by omega
    have t1 : (l == 0) = false := by simpa using h0
    have t2 : ¬ l = 0 := h0
    have t3 : 1 ≤ l := by omega
    rw [hm]
    clear hm
    go_enter Tryd.func33, Tryd.ntmps33
    go_wp2
    go_ret
    exact ⟨rfl, by rw [setRow_setRow]⟩
theorem spend_no (p g : Nat) (s : Sen.Sto) (w : World) (h : w.heap[p]? = some (.cells (rowS s g).toArray 28 (0, 0))) (hg : s.gone = false) (h0 : s.left = 0) :
    Calls Tryd.prog 33 #[.pointer (some ⟨p, 0, none⟩)] w fun e w' => e = .returned (.bool false) ∧ w' = w.setRow p (rowS { s with gone := true } g).toArray := by
  obtain ⟨l, wn, gn, sz, im⟩ := s
  simp only at hg h0
  subst hg h0
  have H := Lib.hid h
  rw [← row_same h]
  have hset := fun cs i v => row_set H.out cs i v
  have hcell := fun cs j => row_cell H.out cs j
  have hfro := fun cs j => row_frozen H.out cs j
  clear h
  unfold rowS
  go_enter Tryd.func33, Tryd.ntmps33
  go_wp2
  go_ret
  exact ⟨rfl, by rw [setRow_setRow]⟩
/-! ### write -/
def WS (w : World) (p g : Nat) (s : Sen.Sto) : World := (w.setRow p (rowS s g).toArray).setRow g (bvs s.img).toArray
theorem WS_start {w : World} {p g : Nat} {s : Sen.Sto} (h : StA w p g s) : WS w p g s = w := by
  unfold WS
  rw [row_same h.row, row_same h.img]
theorem WS_spend (w : World) (p g : Nat) (s s' : Sen.Sto) (hne : p ≠ g) (hi : s'.img = s.img) : (WS w p g s).setRow p (rowS s' g).toArray = WS w p g s' := by
  unfold WS
  rw [← setRow_comm _ p g _ _ hne, setRow_setRow, hi]
theorem WS_rows {w : World} {p g : Nat} {s : Sen.Sto} (h : StA w p g s) (s' : Sen.Sto) : (WS w p g s').heap[p]? = some (.cells (rowS s' g).toArray 28 (0, 0)) ∧ (WS w p g s').heap[g]? = some (.cells (bvs s'.img).toArray 5 (0, 0)) := by
  unfold WS
  refine ⟨?_, ?_⟩
  · rw [setRow_other _ _ _ _ h.ne]; exact setRow_heap _ _ _ _ _ _ h.row
  · exact setRow_heap _ _ _ _ _ _ ((setRow_other _ _ _ _ (Ne.symm h.ne)).trans h.img)
theorem WS_sta {w : World} {p g : Nat} {s : Sen.Sto} (h : StA w p g s) (s' : Sen.Sto) (hok : s'.Ok) : StA (WS w p g s') p g s' := ⟨(WS_rows h s').1, (WS_rows h s').2, h.ne, hok⟩
theorem WS_only {w : World} {p g : Nat} (s' : Sen.Sto) : Only p g w (WS w p g s') := (Only.setRow1 p g w _).trans (Only.setRow2 p g _ _)
/-- Behind k bytes. -/
def sk (s : Sen.Sto) (off : Nat) (bs : List UInt8) (k : Nat) : Sen.Sto := { s with left := if s.left < 0 then -1 else s.left - k, written := s.written + k, img := Sen.putAt s.img off (bs.take k) }
theorem sk_zero (s : Sen.Sto) (h : s.Ok) (off : Nat) (bs : List UInt8) : sk s off bs 0 = s := by
  have h1 := h.left1
  obtain ⟨l, wn, gn, sz, im⟩ := s
  simp only at h1
  unfold sk
  simp only [List.take_zero, Sen.putAt_nil, Nat.add_zero]
  congr 1
  split <;> omega
theorem sk_spent (s : Sen.Sto) (h : s.Ok) (off : Nat) (bs : List UInt8) (k : Nat) (hk : s.left < 0 ∨ (k : Int) < s.left) : { spent (sk s off bs k) with img := Sen.putAt s.img off (bs.take (k + 1)) } = sk s off bs (k + 1) := by
  obtain ⟨l, wn, gn, sz, im⟩ := s
  simp only at hk
  unfold spent sk
  simp only [Sen.Sto.mk.injEq, and_true, true_and]
  refine ⟨?_, by omega⟩
  split <;> omega
theorem sk_all (s : Sen.Sto) (off : Nat) (bs : List UInt8) (h : s.left < 0 ∨ (bs.length : Int) ≤ s.left) : sk s off bs bs.length = Sen.wrote s off bs := by
  unfold sk Sen.wrote
  rw [if_pos h, List.take_length]
theorem sk_torn (s : Sen.Sto) (off : Nat) (bs : List UInt8) (k : Nat) (h : ¬ (s.left < 0 ∨ (bs.length : Int) ≤ s.left)) (hk : s.left = k) : { sk s off bs k with gone := true } = Sen.wrote s off bs := by
  unfold sk Sen.wrote
  rw [if_neg h]
  obtain ⟨l, wn, gn, sz, im⟩ := s
  simp only at h hk
  subst hk
  simp
def WritePost (w : World) (p g : Nat) (s : Sen.Sto) (off : Nat) (bs : List UInt8) (e : Ending) (w' : World) : Prop :=
  (∃ v, e = .returned v ∧ (Sen.fits s bs = true → v = .nilIface) ∧ (Sen.fits s bs = false → ∃ i, v = .iface 63 (.agg #[.int .i64 i]))) ∧ StA w' p g (Sen.wrote s off bs) ∧ Only p g w w'
set_option maxRecDepth 100000 in
set_option maxHeartbeats 2000000 in
theorem write_c (p g : Nat) (s : Sen.Sto) (A : Option Addr) (c : Nat) (bs : List UInt8) (q L C : Nat) (w : World) (h : StA w p g s) (hg : s.gone = false) (hq : q < 2) (hL : L = s.size) (hb : bs.length ≤ s.size) (hw : s.written ≤ 1000000) (hR : RB w A bs)
    (hA : ∀ ad, A = some ad → ad.block ≠ p ∧ ad.block ≠ g) :
    Calls Tryd.prog 28 #[.pointer (some ⟨p, 0, none⟩), .slice (some ⟨g, q * s.size, none⟩) L C, .slice A bs.length c] w (WritePost w p g s (q * s.size) bs) := by
  obtain ⟨n, hn⟩ : ∃ n, n = bs.length := ⟨_, rfl⟩
  obtain ⟨off, ho⟩ : ∃ off, off = q * s.size := ⟨_, rfl⟩
  have hoL : off + s.size ≤ 2 * s.size := by
    rw [ho]
    obtain rfl | rfl : q = 0 ∨ q = 1 := by omega
    all_goals omega
  have hok := h.ok
  obtain ⟨S, hS⟩ : ∃ S, S = s.size := ⟨_, rfl⟩
  rw [← hS] at hoL hb hL
  rw [← hn] at hb ⊢
  rw [← ho]
  have hlo := hok.lo; have hhi := hok.hi; have hil := hok.len; have hl1 := hok.left1; have hl2 := hok.left2
  rw [← hS] at hlo hhi hil
  subst hL
  have H := Lib.hid h; have HG := Lib.hid hg; have HR := Lib.hid hR; have HA := Lib.hid hA; have HN := Lib.hid hn; have HOK := Lib.hid hok; have HIL := Lib.hid hil
  have hWOK := Lib.hid (show (Sen.wrote s off bs).Ok by rw [ho]; exact Sen.wrote_ok s hok q hq bs (by rw [← hn, ← hS]; exact hb))
  clear h hg hR hA hn hok hil hS ho
  go_enter Tryd.func28, Tryd.ntmps28
  go_wp2
  go_loopw [11] (fun vi wr => ∃ k : Nat, k ≤ n ∧ vi = .int .i64 k ∧ (s.left < 0 ∨ (k : Int) ≤ s.left) ∧ wr = WS w p g (sk s off bs k)) (fun i _ => n - (intOf i).toNat)
  case atStart => exact ⟨0, by omega, rfl, by omega, by rw [sk_zero s HOK.out, WS_start H.out]⟩
  case round =>
    obtain ⟨k, hk, rfl, hkl, rfl⟩ := hrel
    by_cases hlt : k < n
    · have t0 : decide ((k : Int) < (n : Int)) = true := by simp; omega
      have k0 : (k : Int) < (n : Int) := by omega
      obtain ⟨b, o1, rfl, hblt, hcl⟩ := HR.out.addr (by rw [← HN.out]; omega)
      obtain ⟨hap, hag⟩ := HA.out _ rfl
      obtain ⟨y, hy, ey⟩ : ∃ y : Nat, y < 256 ∧ y = (bs.getD k 0).toNat := ⟨_, UInt8.toNat_lt _, rfl⟩
      have hcell0 : w.cell? ⟨b, o1 + k, none⟩ = some (.int .u8 (y : Int)) := by rw [hcl k (by rw [← HN.out]; exact hlt), ey]
      have hcell1 : ∀ s', (WS w p g s').cell? ⟨b, o1 + k, none⟩ = some (.int .u8 (y : Int)) := fun s' => (World.cell?_of_block (a := ⟨b, o1 + k, none⟩) ((WS_only s').block b hblt hap hag)).trans hcell0
      have EY := Lib.hid ey
      clear hcl hcell0 ey
      by_cases hpow : s.left < 0 ∨ (k : Int) < s.left
      · have hc1 := hcell1 (sk s off bs k)
        have hsp := spend_yes p g (sk s off bs k) (WS w p g (sk s off bs k)) (WS_rows H.out _).1 HG.out (by show (if s.left < 0 then (-1 : Int) else s.left - k) ≠ 0; split <;> omega) (by show (-1 : Int) ≤ (if s.left < 0 then (-1 : Int) else s.left - k); split <;> omega) (by show (if s.left < 0 then (-1 : Int) else s.left - k) ≤ _; split <;> omega) (by show s.written + k ≤ _; omega)
        rw [WS_spend w p g (sk s off bs k) (spent (sk s off bs k)) H.out.ne rfl] at hsp
        have HSP := Lib.hid hsp
        have hrows := WS_rows H.out (spent (sk s off bs k))
        have HROW := Lib.hid hrows.2
        have him : (spent (sk s off bs k)).img = Sen.putAt s.img off (bs.take k) := rfl
        have hpl : (Sen.putAt s.img off (bs.take k)).length = 2 * L := by rw [Sen.putAt_length _ _ _ (by rw [List.length_take, HIL.out]; omega), HIL.out]
        obtain ⟨z, ez⟩ := bvs_some (Sen.putAt s.img off (bs.take k)) (off + k) (by rw [hpl]; omega)
        have hnext := sk_spent s HOK.out off bs k hpow
        have SET := Lib.hid (show (bvs (Sen.putAt s.img off (bs.take k))).set (off + k) (.int .u8 (y : Int)) = bvs (Sen.putAt s.img off (bs.take (k + 1))) by
          have hkb : k < bs.length := by rw [← HN.out]; exact hlt
          have htl : (bs.take k).length = k := by rw [List.length_take]; omega
          have e := Sen.putAt_snoc s.img off (bs.take k) (bs.getD k 0) (by rw [htl, HIL.out]; omega)
          rw [htl] at e
          rw [bvs_set _ _ (bs.getD k 0) _ (by rw [EY.out]), e]
          congr 2
          rw [List.take_succ_eq_append_getElem hkb, List.getD_eq_getElem?_getD, List.getElem?_eq_getElem hkb]
          rfl)
        have NX := Lib.hid hnext
        obtain ⟨W1, hW1⟩ : ∃ W1, W1 = w.setRow p (rowS (spent (sk s off bs k)) g).toArray := ⟨_, rfl⟩
        have hWS : WS w p g (spent (sk s off bs k)) = W1.setRow g (bvs (Sen.putAt s.img off (bs.take k))).toArray := by rw [hW1]; rfl
        have hg1 : W1.heap[g]? = some (.cells (bvs s.img).toArray 5 (0, 0)) := by rw [hW1]; exact (setRow_other _ _ _ _ (Ne.symm H.out.ne)).trans H.out.img
        have HG1 := Lib.hid hg1; have HWS := Lib.hid hWS; have HW1 := Lib.hid hW1
        clear hsp hrows him hpl hnext hcell1 hW1 hWS hg1
        go_wp2_with fail
        refine HSP.out.mono ?_
        rintro e w' ⟨rfl, rfl⟩
        rw [HWS.out]
        have hset := fun cs i v => row_set HG1.out cs i v
        have hcell := fun cs j => row_cell HG1.out cs j
        have hfro := fun cs j => row_frozen HG1.out cs j
        go_wp2
        refine ⟨⟨k + 1, by omega, by go_num, by omega, ?_⟩, by simp [intOf]; omega⟩
        rw [SET.out, HW1.out, ← NX.out]
        rfl
      · have hk0 : s.left = (k : Int) := by omega
        have hc1 := hcell1 (sk s off bs k)
        have hsp := spend_no p g (sk s off bs k) (WS w p g (sk s off bs k)) (WS_rows H.out _).1 HG.out (by show (if s.left < 0 then (-1 : Int) else s.left - k) = 0; rw [if_neg (by omega)]; omega)
        rw [WS_spend w p g (sk s off bs k) { sk s off bs k with gone := true } H.out.ne rfl, sk_torn s off bs k (by rw [← HN.out]; omega) hk0] at hsp
        have HSP := Lib.hid hsp
        have hfit := Lib.hid (show Sen.fits s bs = false by unfold Sen.fits; rw [← HN.out, decide_eq_false_iff_not]; omega)
        clear hsp hcell1 hk0 hkl hpow
        go_wp2_with fail
        refine HSP.out.mono ?_
        rintro e w' ⟨rfl, rfl⟩
        go_wp2
        go_ret
        exact ⟨⟨_, rfl, fun h => (by rw [hfit.out] at h; cases h), fun _ => ⟨_, rfl⟩⟩, WS_sta H.out _ hWOK.out, WS_only _⟩
    · obtain rfl : k = n := by omega
      have t0 : decide ((k : Int) < (k : Int)) = false := by simp
      have hfit := Lib.hid (show Sen.fits s bs = true by unfold Sen.fits; rw [← HN.out, decide_eq_true_eq]; omega)
      have hall := sk_all s off bs (by rw [← HN.out]; omega)
      rw [← HN.out] at hall
      rw [hall]
      clear hall hkl
      go_wp2
      go_ret
      exact ⟨⟨_, rfl, fun _ => rfl, fun h => by rw [hfit.out] at h; cases h⟩, WS_sta H.out _ hWOK.out, WS_only _⟩
end Go.Proofs.YtinomleiihbfiaaDoor
