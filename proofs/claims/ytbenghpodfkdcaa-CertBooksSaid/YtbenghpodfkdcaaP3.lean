/- The plain law of the burst, its end: bits turned within sixteen in a row are always found. -/
import Derived.Test.YtbenghpodfkdcaaP2
namespace Go.Proofs.Ytbenghpodfkdcaa

def resN (xs : List Int) : Nat := (xs.map Int.toNat).foldl crcByteN 65535
theorem bytesN_of {xs : List Int} (h : Bytes xs) : BytesN (xs.map Int.toNat) := by
  intro x hx
  obtain ⟨y, hy, rfl⟩ := List.mem_map.1 hx
  have := h y hy
  omega
theorem res_lt (xs : List Int) (h : Bytes xs) : resN xs < 65536 := fold_lt _ (bytesN_of h) _ (by decide)
theorem xor_high (c : Nat) : c ^^^ (256 * (c / 256)) = c % 256 := by
  rw [show (256 : Nat) = 2 ^ 8 from rfl]
  apply Nat.eq_of_testBit_eq
  intro i
  rw [Nat.testBit_xor, Nat.testBit_two_pow_mul, Nat.testBit_div_two_pow, Nat.testBit_mod_two_pow]
  by_cases h : 8 ≤ i
  · rw [show i - 8 + 8 = i from by omega]
    simp [h, Nat.not_lt.2 h]
  · simp [h, Nat.not_le.1 h]
theorem res_end (c : Nat) (h : c < 65536) : crcByteN (crcByteN c (c / 256)) (c % 256) = 0 := by
  have h1 : crcByteN c (c / 256) = 256 * (c % 256) := by
    rw [crcByteN, xor_high, iter_shift 8 (c % 256) (by omega), Nat.mul_comm]
  rw [h1, crcByteN, Nat.xor_self]
  exact iter_zero 8
theorem res_good (xs : List Int) (hb : Bytes xs) (hg : goodB xs = true) : resN xs = 0 := by
  have hg2 := (of_decide_eq_true hg).2
  have hbl : Bytes (xs.take (xs.length - 2)) := hb.take _
  generalize xs.take (xs.length - 2) = l at hg2 hbl
  subst hg2
  have hc := crc_eq l hbl
  unfold resN sealB
  rw [List.map_append, List.foldl_append, hc.1, wrap_u8, wrap_u8]
  have h2 := hc.2
  rw [show (l.map Int.toNat).foldl crcByteN 65535 = crcN (l.map Int.toNat) from rfl]
  generalize crcN (l.map Int.toNat) = c at h2
  rw [List.map_cons, List.map_cons, List.map_nil, List.foldl_cons, List.foldl_cons, List.foldl_nil]
  rw [show ((c : Int) / 256 % 256).toNat = c / 256 from by omega, show ((c : Int) % 256).toNat = c % 256 from by omega]
  exact res_end c h2

def bitV (k : Nat) : Int := ((2 ^ (7 - k % 8) : Nat) : Int)
def flipV (x m : Int) : Int := if x / m % 2 = 1 then x - m else x + m
def flipB (l : List Int) (k : Nat) : List Int := l.set (k / 8) (flipV (l[k / 8]?.getD 0) (bitV k))
def burstB (l : List Int) (p bu : Nat) : Nat → List Int
  | 0 => l
  | i + 1 => if bu / 2 ^ i % 2 = 1 then flipB (burstB l p bu i) (p + i) else burstB l p bu i

theorem flip_all : ∀ a : Fin 256, ∀ j : Fin 8, flipV ((a.val : Nat) : Int) ((2 ^ j.val : Nat) : Int) = ((a.val ^^^ 2 ^ j.val : Nat) : Int) := by decide +kernel
theorem flip_eq (x : Int) (k : Nat) (h0 : 0 ≤ x) (h1 : x < 256) : flipV x (bitV k) = ((x.toNat ^^^ 2 ^ (7 - k % 8) : Nat) : Int) := by
  have := flip_all ⟨x.toNat, by omega⟩ ⟨7 - k % 8, by omega⟩
  unfold bitV
  simp only [Int.toNat_of_nonneg h0] at this
  exact this
theorem pow7_lt (k : Nat) : 2 ^ (7 - k % 8) < 256 := Nat.lt_of_le_of_lt (Nat.pow_le_pow_right (by decide) (show 7 - k % 8 ≤ 7 by omega)) (by decide)
theorem flip_range (x : Int) (k : Nat) (h0 : 0 ≤ x) (h1 : x < 256) : 0 ≤ flipV x (bitV k) ∧ flipV x (bitV k) < 256 := by
  rw [flip_eq x k h0 h1]
  have : x.toNat ^^^ 2 ^ (7 - k % 8) < 2 ^ 8 := Nat.xor_lt_two_pow (by omega) (pow7_lt k)
  omega
theorem flipB_bytes (l : List Int) (k : Nat) (h : Bytes l) : Bytes (flipB l k) := by
  intro x hx
  rcases List.mem_or_eq_of_mem_set hx with h1 | h1
  · exact h x h1
  · subst h1
    exact flip_range _ _ (h.get _).1 (h.get _).2
theorem flipB_length (l : List Int) (k : Nat) : (flipB l k).length = l.length := List.length_set ..
theorem burstB_length (l : List Int) (p bu i : Nat) : (burstB l p bu i).length = l.length := by
  induction i with
  | zero => rfl
  | succ i ih =>
    rw [burstB]
    split
    · rw [flipB_length, ih]
    · exact ih
theorem burstB_bytes (l : List Int) (p bu i : Nat) (h : Bytes l) : Bytes (burstB l p bu i) := by
  induction i with
  | zero => exact h
  | succ i ih =>
    rw [burstB]
    split
    · exact flipB_bytes _ _ ih
    · exact ih
theorem flip_res (l : List Int) (k : Nat) (h : Bytes l) (hl : l.length = 66) (hk : k < 528) : resN (flipB l k) = resN l ^^^ iter crcBitN (543 - k) 1 := by
  have hj : k / 8 < l.length := by omega
  have hj2 : k / 8 < (l.map Int.toNat).length := by rw [List.length_map]; exact hj
  have hx := h.get (k / 8)
  have hm : (flipB l k).map Int.toNat = (l.map Int.toNat).set (k / 8) ((l.map Int.toNat)[k / 8] ^^^ 2 ^ (7 - k % 8)) := by
    unfold flipB
    rw [List.map_set, flip_eq _ _ hx.1 hx.2]
    congr 1
    simp [hj]
  unfold resN
  rw [hm, fold_set _ (bytesN_of h) (k / 8) 65535 _ hj2 (by decide) (pow7_lt k), List.length_map, hl]
  congr 1
  have h1 : 256 * 2 ^ (7 - k % 8) = iter crcBitN (15 - k % 8) 1 := by
    have h2 : 256 * 2 ^ (7 - k % 8) = 2 ^ (15 - k % 8) := by
      rw [show (256 : Nat) = 2 ^ 8 from rfl, ← Nat.pow_add]
      congr 1
      omega
    rw [h2, iter_shift, Nat.one_mul]
    rw [Nat.one_mul, ← h2]
    have := pow7_lt k
    omega
  rw [h1, ← iter_add]
  congr 1
  omega
/-- The turned bits as one number, the first bit highest. -/
def turned (bu : Nat) : Nat → Nat
  | 0 => 0
  | i + 1 => turned bu i ^^^ (if bu / 2 ^ i % 2 = 1 then 2 ^ (15 - i) else 0)
theorem turned_lt (bu i : Nat) : turned bu i < 65536 := by
  induction i with
  | zero => exact Nat.zero_lt_succ _
  | succ i ih =>
    rw [turned]
    refine xor_lt16 ih ?_
    split
    · exact Nat.lt_of_le_of_lt (Nat.pow_le_pow_right (by decide) (show 15 - i ≤ 15 by omega)) (by decide)
    · decide
theorem turned_bit (bu i j : Nat) (hi : i ≤ 16) (hj : j < 16) : (turned bu i).testBit (15 - j) = (decide (j < i) && bu.testBit j) := by
  induction i with
  | zero => simp [turned]
  | succ i ih =>
    rw [turned, Nat.testBit_xor, ih (by omega)]
    by_cases hij : j = i
    · subst hij
      rw [Nat.testBit_eq_decide_div_mod_eq (x := bu)]
      by_cases h : bu / 2 ^ j % 2 = 1
      · simp [h, Nat.testBit_two_pow_self]
      · simp [h]
    · have h3 : (if bu / 2 ^ i % 2 = 1 then 2 ^ (15 - i) else 0 : Nat).testBit (15 - j) = false := by
        split
        · rw [Nat.testBit_two_pow]
          exact decide_eq_false (by omega)
        · exact Nat.zero_testBit _
      rw [h3, Bool.xor_false]
      by_cases h : j < i
      · simp [h, show j < i + 1 from by omega]
      · simp [h, show ¬ j < i + 1 from by omega]
theorem turned_ne (bu : Nat) (h0 : bu ≠ 0) (h1 : bu < 65536) : turned bu 16 ≠ 0 := by
  intro h
  apply h0
  apply Nat.eq_of_testBit_eq
  intro j
  rw [Nat.zero_testBit]
  by_cases hj : j < 16
  · have := turned_bit bu 16 j (Nat.le_refl _) hj
    rw [h, Nat.zero_testBit] at this
    simpa [hj] using this.symm
  · exact Nat.testBit_lt_two_pow (Nat.lt_of_lt_of_le h1 (show 2 ^ 16 ≤ 2 ^ j from Nat.pow_le_pow_right (by decide) (by omega)))
theorem burst_res (l : List Int) (p bu i : Nat) (h : Bytes l) (hl : l.length = 66) (hp : p + 15 < 528) (hi : i ≤ 16) :
    resN (burstB l p bu i) = resN l ^^^ iter crcBitN (528 - p) (turned bu i) := by
  induction i with
  | zero =>
    rw [burstB, turned, iter_zero, Nat.xor_zero]
  | succ i ih =>
    rw [burstB, turned]
    split
    · rw [flip_res _ _ (burstB_bytes l p bu i h) (by rw [burstB_length]; exact hl) (by omega), ih (by omega), iter_lin _ _ _ (turned_lt bu i) (Nat.lt_of_le_of_lt (Nat.pow_le_pow_right (by decide) (show 15 - i ≤ 15 by omega)) (by decide)), Nat.xor_assoc]
      congr 2
      have hs : (2 : Nat) ^ (15 - i) = iter crcBitN (15 - i) 1 := by
        rw [iter_shift, Nat.one_mul]
        rw [Nat.one_mul]
        exact Nat.lt_of_le_of_lt (Nat.pow_le_pow_right (by decide) (show 15 - i ≤ 15 by omega)) (by decide)
      rw [hs, ← iter_add]
      congr 1
      omega
    · rw [Nat.xor_zero]
      exact ih (by omega)
theorem burst_bad (l : List Int) (p bu : Nat) (h : Bytes l) (hl : l.length = 66) (hg : goodB l = true) (hp : p + 15 < 528) (h0 : bu ≠ 0) (h1 : bu < 65536) :
    goodB (burstB l p bu 16) = false := by
  cases hb : goodB (burstB l p bu 16) with
  | false => rfl
  | true =>
    exfalso
    have hz := res_good _ (burstB_bytes l p bu 16 h) hb
    rw [burst_res l p bu 16 h hl hp (Nat.le_refl _), res_good l h hg, Nat.zero_xor] at hz
    exact turned_ne bu h0 h1 (iter_inj _ _ (turned_lt bu 16) hz)

end Go.Proofs.Ytbenghpodfkdcaa
