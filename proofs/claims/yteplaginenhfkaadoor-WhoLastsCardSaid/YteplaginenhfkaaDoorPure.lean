/-
  Plain mathematics of SHA-256, HMAC and what is built on them, over numbers and lists: no program in sight.
-/
namespace Go.Proofs.YteplaginenhfkaaDoor.Sen

/-! ### 1. Words of 32 bits -/
def rot (x n : Nat) : Nat := x / 2 ^ n + x * 2 ^ (32 - n) % 4294967296
def s0 (x : Nat) : Nat := Nat.xor (Nat.xor (rot x 7) (rot x 18)) (x / 8)
def s1 (x : Nat) : Nat := Nat.xor (Nat.xor (rot x 17) (rot x 19)) (x / 1024)
def S0 (x : Nat) : Nat := Nat.xor (Nat.xor (rot x 2) (rot x 13)) (rot x 22)
def S1 (x : Nat) : Nat := Nat.xor (Nat.xor (rot x 6) (rot x 11)) (rot x 25)
def ch (e f g : Nat) : Nat := Nat.xor (Nat.land e f) (Nat.land (4294967295 - e) g)
def maj (a b c : Nat) : Nat := Nat.xor (Nat.xor (Nat.land a b) (Nat.land a c)) (Nat.land b c)

def K : List Nat := [
  0x428a2f98, 0x71374491, 0xb5c0fbcf, 0xe9b5dba5, 0x3956c25b, 0x59f111f1, 0x923f82a4, 0xab1c5ed5,
  0xd807aa98, 0x12835b01, 0x243185be, 0x550c7dc3, 0x72be5d74, 0x80deb1fe, 0x9bdc06a7, 0xc19bf174,
  0xe49b69c1, 0xefbe4786, 0x0fc19dc6, 0x240ca1cc, 0x2de92c6f, 0x4a7484aa, 0x5cb0a9dc, 0x76f988da,
  0x983e5152, 0xa831c66d, 0xb00327c8, 0xbf597fc7, 0xc6e00bf3, 0xd5a79147, 0x06ca6351, 0x14292967,
  0x27b70a85, 0x2e1b2138, 0x4d2c6dfc, 0x53380d13, 0x650a7354, 0x766a0abb, 0x81c2c92e, 0x92722c85,
  0xa2bfe8a1, 0xa81a664b, 0xc24b8b70, 0xc76c51a3, 0xd192e819, 0xd6990624, 0xf40e3585, 0x106aa070,
  0x19a4c116, 0x1e376c08, 0x2748774c, 0x34b0bcb5, 0x391c0cb3, 0x4ed8aa4a, 0x5b9cca4f, 0x682e6ff3,
  0x748f82ee, 0x78a5636f, 0x84c87814, 0x8cc70208, 0x90befffa, 0xa4506ceb, 0xbef9a3f7, 0xc67178f2]

def H0 : List Nat := [0x6a09e667, 0xbb67ae85, 0x3c6ef372, 0xa54ff53a, 0x510e527f, 0x9b05688c, 0x1f83d9ab, 0x5be0cd19]

/-! ### 2. A block's words, its rounds, its step -/
def wd (b : List UInt8) (i : Nat) : Nat :=
  (b.getD (4 * i) 0).toNat * 16777216 + (b.getD (4 * i + 1) 0).toNat * 65536 + (b.getD (4 * i + 2) 0).toNat * 256 + (b.getD (4 * i + 3) 0).toNat
def nextW (w : List Nat) (t : Nat) : Nat :=
  (w.getD (t - 16) 0 + s0 (w.getD (t - 15) 0) + w.getD (t - 7) 0 + s1 (w.getD (t - 2) 0)) % 4294967296
/-- The first n words. -/
def wds (b : List UInt8) : Nat → List Nat
  | 0 => []
  | n + 1 => wds b n ++ [if n < 16 then wd b n else nextW (wds b n) n]

def rnd (s : List Nat) (k w : Nat) : List Nat :=
  match s with
  | [a, b, c, d, e, f, g, h] =>
    [((h + S1 e + ch e f g + k + w) % 4294967296 + (S0 a + maj a b c) % 4294967296) % 4294967296, a, b, c, (d + (h + S1 e + ch e f g + k + w) % 4294967296) % 4294967296, e, f, g]
  | _ => s
/-- The state behind t rounds. -/
def rnds (w : List Nat) (s : List Nat) : Nat → List Nat
  | 0 => s
  | t + 1 => rnd (rnds w s t) (K.getD t 0) (w.getD t 0)
def add8 (r s : List Nat) : List Nat := List.zipWith (fun x y => (x + y) % 4294967296) r s
def block (s : List Nat) (b : List UInt8) : List Nat := add8 s (rnds (wds b 64) s 64)

/-! ### 3. Bytes behind a message; the digest -/
def be64 (n : Nat) : List UInt8 := [UInt8.ofNat (n / 72057594037927936), UInt8.ofNat (n / 281474976710656), UInt8.ofNat (n / 1099511627776), UInt8.ofNat (n / 4294967296),
  UInt8.ofNat (n / 16777216), UInt8.ofNat (n / 65536), UInt8.ofNat (n / 256), UInt8.ofNat n]
def zerosFor (n : Nat) : Nat := (119 - n % 64) % 64
def pad (b : List UInt8) : List UInt8 := b ++ 128 :: (List.replicate (zerosFor b.length) 0 ++ be64 (b.length * 8))
def blocks : Nat → List Nat → List UInt8 → List Nat
  | 0, s, _ => s
  | n + 1, s, b => blocks n (block s (b.take 64)) (b.drop 64)
def bytes4 (x : Nat) : List UInt8 := [UInt8.ofNat (x / 16777216), UInt8.ofNat (x / 65536), UInt8.ofNat (x / 256), UInt8.ofNat x]
def sumOf (s : List Nat) : List UInt8 := s.flatMap bytes4
def sum (b : List UInt8) : List UInt8 := sumOf (blocks ((pad b).length / 64) H0 (pad b))

/-! ### 4. The same, cut for the kernel's evaluation -/
theorem sum_abc : sum [97, 98, 99] = [186, 120, 22, 191, 143, 1, 207, 234, 65, 65, 64, 222, 93, 174, 34, 35, 176, 3, 97, 163, 150, 23, 122, 156, 180, 16, 255, 97, 242, 0, 21, 173] := by decide +kernel

/-! ### 5. HMAC -/
def keyOf (key : List UInt8) : List UInt8 := if key.length > 64 then sum key else key
def full (key : List UInt8) (x : UInt8) : List UInt8 := ((keyOf key) ++ List.replicate (64 - (keyOf key).length) 0).map (· ^^^ x)
def hmac (key b : List UInt8) : List UInt8 := sum (full key 92 ++ sum (full key 54 ++ b))
theorem hmac_fox : (hmac [107, 101, 121] [84, 104, 101, 32, 113, 117, 105, 99, 107, 32, 98, 114, 111, 119, 110, 32, 102, 111, 120, 32, 106, 117, 109, 112, 115, 32, 111, 118, 101, 114, 32, 116, 104, 101, 32, 108, 97, 122, 121, 32, 100, 111, 103]).take 4 = [0xf7, 0xbc, 0x83, 0xf4] := by decide +kernel

/-! ### 6. Laws -/
theorem rot_or (x n : Nat) (hx : x < 4294967296) (h1 : 1 ≤ n) (h2 : n ≤ 31) : (x * 2 ^ (32 - n) % 4294967296) ||| (x / 2 ^ n) = rot x n := by
  have hp : (4294967296 : Nat) = 2 ^ (32 - n) * 2 ^ n := by rw [← Nat.pow_add, show 32 - n + n = 32 by omega]
  have hm : x * 2 ^ (32 - n) % 4294967296 = 2 ^ (32 - n) * (x % 2 ^ n) := by rw [hp, Nat.mul_comm x, Nat.mul_mod_mul_left]
  have hl : x / 2 ^ n < 2 ^ (32 - n) := by
    apply Nat.div_lt_of_lt_mul
    rw [Nat.mul_comm, ← hp]; exact hx
  unfold rot
  rw [hm, ← Nat.two_pow_add_eq_or_of_lt hl, Nat.add_comm]

theorem rot_lt (x n : Nat) (hx : x < 4294967296) (h1 : 1 ≤ n) (h2 : n ≤ 31) : rot x n < 4294967296 := by
  rw [← rot_or x n hx h1 h2]
  have a : x * 2 ^ (32 - n) % 4294967296 < 2 ^ 32 := Nat.mod_lt _ (by decide)
  have b : x / 2 ^ n < 2 ^ 32 := Nat.lt_of_le_of_lt (Nat.div_le_self _ _) hx
  exact Nat.or_lt_two_pow a b

theorem xor_lt {a b : Nat} (ha : a < 4294967296) (hb : b < 4294967296) : Nat.xor a b < 4294967296 := Nat.xor_lt_two_pow (n := 32) ha hb
theorem and_lt {a b : Nat} (hb : b < 4294967296) : Nat.land a b < 4294967296 := Nat.and_lt_two_pow (n := 32) a hb
theorem s0_lt (x : Nat) (hx : x < 4294967296) : s0 x < 4294967296 := xor_lt (xor_lt (rot_lt x 7 hx (by decide) (by decide)) (rot_lt x 18 hx (by decide) (by decide))) (by omega)
theorem s1_lt (x : Nat) (hx : x < 4294967296) : s1 x < 4294967296 := xor_lt (xor_lt (rot_lt x 17 hx (by decide) (by decide)) (rot_lt x 19 hx (by decide) (by decide))) (by omega)
theorem S0_lt (x : Nat) (hx : x < 4294967296) : S0 x < 4294967296 := xor_lt (xor_lt (rot_lt x 2 hx (by decide) (by decide)) (rot_lt x 13 hx (by decide) (by decide))) (rot_lt x 22 hx (by decide) (by decide))
theorem S1_lt (x : Nat) (hx : x < 4294967296) : S1 x < 4294967296 := xor_lt (xor_lt (rot_lt x 6 hx (by decide) (by decide)) (rot_lt x 11 hx (by decide) (by decide))) (rot_lt x 25 hx (by decide) (by decide))
theorem ch_lt (e f g : Nat) (hf : f < 4294967296) (hg : g < 4294967296) : ch e f g < 4294967296 := xor_lt (and_lt hf) (and_lt hg)
theorem maj_lt (a b c : Nat) (hb : b < 4294967296) (hc : c < 4294967296) : maj a b c < 4294967296 := xor_lt (xor_lt (and_lt hb) (and_lt hc)) (and_lt hc)

theorem wd_lt (b : List UInt8) (i : Nat) : wd b i < 4294967296 := by
  unfold wd
  have h0 := (b.getD (4 * i) 0).toNat_lt
  have h1 := (b.getD (4 * i + 1) 0).toNat_lt
  have h2 := (b.getD (4 * i + 2) 0).toNat_lt
  have h3 := (b.getD (4 * i + 3) 0).toNat_lt
  omega
theorem nextW_lt (w : List Nat) (t : Nat) : nextW w t < 4294967296 := Nat.mod_lt _ (by decide)

theorem wds_length (b : List UInt8) (n : Nat) : (wds b n).length = n := by
  induction n with
  | zero => rfl
  | succ n ih => simp [wds, ih]
theorem wds_lt (b : List UInt8) (n : Nat) : ∀ x ∈ wds b n, x < 4294967296 := by
  induction n with
  | zero => intro x hx; cases hx
  | succ n ih =>
    intro x hx
    simp only [wds, List.mem_append, List.mem_singleton] at hx
    rcases hx with hx | rfl
    · exact ih x hx
    · split
      · exact wd_lt b n
      · exact nextW_lt _ _
theorem getD_lt {l : List Nat} {m : Nat} (h : ∀ x ∈ l, x < m) (hm : 0 < m) (i : Nat) : l.getD i 0 < m := by
  rw [List.getD_eq_getElem?_getD]
  cases hi : l[i]? with
  | none => exact hm
  | some x => exact h x (List.mem_of_getElem? hi)
theorem wds_getD_lt (b : List UInt8) (n i : Nat) : (wds b n).getD i 0 < 4294967296 := getD_lt (wds_lt b n) (by decide) i
/-- Earlier words stay. -/
theorem wds_getD_le (b : List UInt8) (n m i : Nat) (h : i < n) (hm : n ≤ m) : (wds b m).getD i 0 = (wds b n).getD i 0 := by
  induction m with
  | zero => omega
  | succ m ih =>
    by_cases e : n = m + 1
    · rw [e]
    · rw [← ih (by omega)]
      simp only [wds, List.getD_eq_getElem?_getD]
      rw [List.getElem?_append_left (by rw [wds_length]; omega)]
theorem wds_last (b : List UInt8) (n : Nat) : (wds b (n + 1)).getD n 0 = if n < 16 then wd b n else nextW (wds b n) n := by
  simp only [wds, List.getD_eq_getElem?_getD]
  rw [List.getElem?_append_right (by rw [wds_length]; omega), wds_length]
  simp

theorem K_length : K.length = 64 := by decide
theorem K_lt : ∀ x ∈ K, x < 4294967296 := by decide
theorem K_getD_lt (i : Nat) : K.getD i 0 < 4294967296 := getD_lt K_lt (by decide) i
theorem H0_lt : ∀ x ∈ H0, x < 4294967296 := by decide

theorem eq8 (s : List Nat) (h : s.length = 8) : ∃ a b c d e f g i, s = [a, b, c, d, e, f, g, i] := by
  match s, h with
  | [a, b, c, d, e, f, g, i], _ => exact ⟨a, b, c, d, e, f, g, i, rfl⟩
theorem rnd_length (s : List Nat) (k w : Nat) (h : s.length = 8) : (rnd s k w).length = 8 := by
  obtain ⟨a, b, c, d, e, f, g, i, rfl⟩ := eq8 s h
  rfl
theorem rnd_lt (s : List Nat) (k w : Nat) (hs : ∀ x ∈ s, x < 4294967296) : ∀ x ∈ rnd s k w, x < 4294967296 := by
  unfold rnd
  split
  · intro x hx
    simp only [List.mem_cons, List.not_mem_nil, or_false] at hx hs
    rcases hx with rfl | rfl | rfl | rfl | rfl | rfl | rfl | rfl <;> first | exact Nat.mod_lt _ (by decide) | (apply hs; simp)
  · exact hs
theorem rnds_length (w s : List Nat) (t : Nat) (h : s.length = 8) : (rnds w s t).length = 8 := by
  induction t with
  | zero => exact h
  | succ t ih => exact rnd_length _ _ _ ih
theorem rnds_lt (w s : List Nat) (t : Nat) (hs : ∀ x ∈ s, x < 4294967296) : ∀ x ∈ rnds w s t, x < 4294967296 := by
  induction t with
  | zero => exact hs
  | succ t ih => exact rnd_lt _ _ _ ih
theorem add8_length (r s : List Nat) (hr : r.length = 8) (hs : s.length = 8) : (add8 r s).length = 8 := by simp [add8, hr, hs]
theorem add8_lt (r s : List Nat) : ∀ x ∈ add8 r s, x < 4294967296 := by
  intro x hx
  unfold add8 at hx
  rw [List.mem_iff_getElem?] at hx
  obtain ⟨i, hi⟩ := hx
  rw [List.getElem?_zipWith] at hi
  split at hi <;> simp at hi
  rw [← hi]; exact Nat.mod_lt _ (by decide)
theorem block_length (s : List Nat) (b : List UInt8) (h : s.length = 8) : (block s b).length = 8 := add8_length _ _ h (rnds_length _ _ _ h)
theorem block_lt (s : List Nat) (b : List UInt8) : ∀ x ∈ block s b, x < 4294967296 := add8_lt _ _
theorem blocks_length (n : Nat) : ∀ (s : List Nat) (b : List UInt8), s.length = 8 → (blocks n s b).length = 8 := by
  induction n with
  | zero => intro s b h; exact h
  | succ n ih => intro s b h; exact ih _ _ (block_length s _ h)
theorem blocks_lt (n : Nat) : ∀ (s : List Nat) (b : List UInt8), (∀ x ∈ s, x < 4294967296) → ∀ x ∈ blocks n s b, x < 4294967296 := by
  induction n with
  | zero => intro s b h; exact h
  | succ n ih => intro s b h; exact ih _ _ (block_lt s _)

/-- One block more, at the end. -/
theorem blocks_snoc (n : Nat) : ∀ (s : List Nat) (b : List UInt8), blocks (n + 1) s b = block (blocks n s b) ((b.drop (64 * n)).take 64) := by
  induction n with
  | zero => intro s b; simp [blocks]
  | succ n ih =>
    intro s b
    rw [blocks, ih, blocks]
    rw [List.drop_drop, show 64 + 64 * n = 64 * (n + 1) by omega]

theorem be64_length (n : Nat) : (be64 n).length = 8 := rfl
theorem pad_length (b : List UInt8) : (pad b).length = b.length + 9 + zerosFor b.length := by
  simp [pad, be64_length]; omega
theorem pad_mod (b : List UInt8) : (pad b).length % 64 = 0 := by
  rw [pad_length]; unfold zerosFor; omega
theorem pad_blocks (b : List UInt8) : 64 * ((pad b).length / 64) = (pad b).length := by
  have := pad_mod b; omega
theorem pad_le (b : List UInt8) : (pad b).length ≤ b.length + 72 := by
  rw [pad_length]; unfold zerosFor; omega
theorem pad_length_go (b : List UInt8) : (pad b).length = (b.length + 8 + 64) / 64 * 64 := by
  rw [pad_length]; unfold zerosFor; omega

theorem sumOf_length (s : List Nat) : (sumOf s).length = 4 * s.length := by
  induction s with
  | nil => rfl
  | cons x s ih => simp only [sumOf, List.flatMap_cons, List.length_append, List.length_cons] at *; simp [bytes4, ih]; omega
theorem sum_length (b : List UInt8) : (sum b).length = 32 := by
  unfold sum
  rw [sumOf_length, blocks_length _ _ _ (by decide)]

/-! ### 7. The bytes behind a message, one by one from the end -/
def tail8 (m j : Nat) : List UInt8 := (List.range 8).map fun t => if 7 - t < j then UInt8.ofNat (m / 256 ^ (7 - t)) else 0
def padc (l : List UInt8) (j : Nat) : List UInt8 := l ++ 128 :: (List.replicate (zerosFor l.length) 0 ++ tail8 (l.length * 8) j)
theorem tail8_length (m j : Nat) : (tail8 m j).length = 8 := by simp [tail8]
theorem padc_length (l : List UInt8) (j : Nat) : (padc l j).length = (pad l).length := by simp [padc, pad, tail8_length, be64_length]
theorem tail8_set (m j : Nat) (h : j < 8) : (tail8 m j).set (7 - j) (UInt8.ofNat (m / 256 ^ j)) = tail8 m (j + 1) := by
  obtain rfl | rfl | rfl | rfl | rfl | rfl | rfl | rfl : j = 0 ∨ j = 1 ∨ j = 2 ∨ j = 3 ∨ j = 4 ∨ j = 5 ∨ j = 6 ∨ j = 7 := by omega
  all_goals rfl
theorem padc_set (l : List UInt8) (j : Nat) (h : j < 8) : (padc l j).set ((pad l).length - 1 - j) (UInt8.ofNat (l.length * 8 / 256 ^ j)) = padc l (j + 1) := by
  have e : (pad l).length - 1 - j = l.length + ((zerosFor l.length + (7 - j)) + 1) := by rw [pad_length]; omega
  rw [e, padc, List.set_append_right _ _ (by omega), Nat.add_sub_cancel_left, List.set_cons_succ, List.set_append_right _ _ (by simp), List.length_replicate, Nat.add_sub_cancel_left, tail8_set _ _ h]
  rfl
theorem be64_tail (m : Nat) : be64 m = tail8 m 8 := by
  simp [be64, tail8, List.range, List.range.loop]
theorem tail8_all (m j : Nat) (h : j ≤ 8) (hz : m / 256 ^ j = 0) : tail8 m j = tail8 m 8 := by
  unfold tail8
  apply List.map_congr_left
  intro t ht
  have ht' : t < 8 := List.mem_range.1 ht
  by_cases hj : 7 - t < j
  · rw [if_pos hj, if_pos (by omega)]
  · rw [if_neg hj, if_pos (by omega)]
    have h1 : 256 ^ j ≤ 256 ^ (7 - t) := Nat.pow_le_pow_right (by decide) (by omega)
    have h2 : m < 256 ^ j := (Nat.div_eq_zero_iff_lt (Nat.pow_pos (by decide))).1 hz
    rw [(Nat.div_eq_zero_iff_lt (Nat.pow_pos (by decide))).2 (by omega)]
    rfl
theorem padc_all (l : List UInt8) (j : Nat) (h : j ≤ 8) (hz : l.length * 8 / 256 ^ j = 0) : padc l j = pad l := by
  unfold padc pad
  rw [tail8_all _ _ h hz, be64_tail]
theorem tail8_zero (m : Nat) : tail8 m 0 = List.replicate 8 0 := by simp [tail8, List.range, List.range.loop, List.replicate]
theorem padc_zero (l : List UInt8) : (l ++ List.replicate ((pad l).length - l.length) 0).set l.length 128 = padc l 0 := by
  have e : (pad l).length - l.length = (zerosFor l.length + 8) + 1 := by rw [pad_length]; omega
  rw [e, List.replicate_succ, List.set_append_right _ _ (Nat.le_refl _), Nat.sub_self, List.set_cons_zero, padc, tail8_zero, List.replicate_append_replicate]
end Go.Proofs.YteplaginenhfkaaDoor.Sen
