/- The plain law of the burst: bits turned within 16 in a row turn the checksum. -/
import Derived.Test.YtbenghpodfkdcaaP1
import Derived.Test.YtbenghpodfkdcaaA5
namespace Go.Proofs.Ytbenghpodfkdcaa

theorem bit_key (s : Nat) (hs : s < 65536) : crcBitN s = (2 ^ 1 * s % 2 ^ 16) ^^^ (if s.testBit 15 then 4129 else 0) := by
  have h15 : s.testBit 15 = decide (s / 2 ^ 15 % 2 = 1) := Nat.testBit_eq_decide_div_mod_eq ..
  unfold crcBitN
  by_cases h : s < 32768
  · have hf : s.testBit 15 = false := by rw [h15]; apply decide_eq_false; omega
    rw [if_pos h, hf, if_neg (by simp), Nat.xor_zero]
    omega
  · have ht : s.testBit 15 = true := by rw [h15]; apply decide_eq_true; omega
    rw [if_neg h, ht, if_pos rfl, show 2 * s - 65536 = 2 ^ 1 * s % 2 ^ 16 from by omega]
theorem xor_lt16 {a b : Nat} (ha : a < 65536) (hb : b < 65536) : a ^^^ b < 65536 := Nat.xor_lt_two_pow (n := 16) ha hb
theorem bit_lin (a b : Nat) (ha : a < 65536) (hb : b < 65536) : crcBitN (a ^^^ b) = crcBitN a ^^^ crcBitN b := by
  rw [bit_key _ (xor_lt16 ha hb), bit_key _ ha, bit_key _ hb]
  have h2 : 2 ^ 1 * (a ^^^ b) % 2 ^ 16 = (2 ^ 1 * a % 2 ^ 16) ^^^ (2 ^ 1 * b % 2 ^ 16) := by
    apply Nat.eq_of_testBit_eq
    intro i
    rw [Nat.testBit_xor, Nat.testBit_mod_two_pow, Nat.testBit_mod_two_pow, Nat.testBit_mod_two_pow, Nat.testBit_two_pow_mul, Nat.testBit_two_pow_mul, Nat.testBit_two_pow_mul, Nat.testBit_xor]
    cases decide (i < 16) <;> cases decide (i ≥ 1) <;> simp
  rw [h2, Nat.testBit_xor]
  cases a.testBit 15 <;> cases b.testBit 15
  · simp
  · simp [Nat.xor_assoc]
  · simp only [Bool.true_xor, Bool.not_false, if_true, Bool.false_eq_true, if_false, Nat.xor_zero]
    rw [Nat.xor_assoc, Nat.xor_comm (2 ^ 1 * b % 2 ^ 16), ← Nat.xor_assoc]
  · simp only [Bool.true_xor, Bool.not_true, Bool.false_eq_true, if_false, if_true, Nat.xor_zero]
    rw [Nat.xor_assoc, Nat.xor_comm 4129, Nat.xor_assoc, Nat.xor_self, Nat.xor_zero]
theorem bit_inj (a : Nat) (ha : a < 65536) (h : crcBitN a = 0) : a = 0 := by
  unfold crcBitN at h
  split at h
  · omega
  · have h1 : 2 * a - 65536 = 4129 := by
      have h2 : (2 * a - 65536) ^^^ 4129 ^^^ 4129 = 0 ^^^ 4129 := by rw [h]
      rwa [Nat.xor_assoc, Nat.xor_self, Nat.xor_zero, Nat.zero_xor] at h2
    omega
theorem iter_lin (n a b : Nat) (ha : a < 65536) (hb : b < 65536) : iter crcBitN n (a ^^^ b) = iter crcBitN n a ^^^ iter crcBitN n b := by
  induction n with
  | zero => rfl
  | succ n ih =>
    show crcBitN (iter crcBitN n (a ^^^ b)) = _
    rw [ih, bit_lin _ _ (iter_lt n a ha) (iter_lt n b hb)]
    rfl
theorem iter_inj (n a : Nat) (ha : a < 65536) (h : iter crcBitN n a = 0) : a = 0 := by
  induction n with
  | zero => exact h
  | succ n ih => exact ih (bit_inj _ (iter_lt n a ha) h)
theorem iter_add (m n a : Nat) : iter crcBitN (m + n) a = iter crcBitN m (iter crcBitN n a) := by
  induction m with
  | zero => rw [Nat.zero_add]; rfl
  | succ m ih =>
    rw [show m + 1 + n = m + n + 1 from by omega]
    show crcBitN (iter crcBitN (m + n) a) = _
    rw [ih]
    rfl
theorem iter_zero (n : Nat) : iter crcBitN n 0 = 0 := by
  induction n with
  | zero => rfl
  | succ n ih =>
    show crcBitN (iter crcBitN n 0) = 0
    rw [ih]
    rfl
/-- Without an overflow it is but a shift. -/
theorem iter_shift (n a : Nat) (h : a * 2 ^ n < 65536) : iter crcBitN n a = a * 2 ^ n := by
  induction n with
  | zero => simp [iter]
  | succ n ih =>
    have h2 : a * 2 ^ n * 2 < 65536 := by rw [Nat.mul_assoc, ← Nat.pow_succ]; exact h
    show crcBitN (iter crcBitN n a) = _
    rw [ih (by omega), crcBitN, if_pos (by omega), Nat.mul_comm 2 (a * 2 ^ n), Nat.pow_succ, Nat.mul_assoc]

/-- What is left of bytes and their sum. -/
theorem byte_lin (s d c : Nat) (hs : s < 65536) (hd : d < 65536) (hc : c < 256) : crcByteN (s ^^^ d) c = crcByteN s c ^^^ iter crcBitN 8 d := by
  unfold crcByteN
  rw [Nat.xor_assoc, Nat.xor_comm d, ← Nat.xor_assoc, iter_lin _ _ _ (xor_lt16 hs (by omega)) hd]
def BytesN (l : List Nat) : Prop := ∀ x ∈ l, x < 256
theorem fold_lt (l : List Nat) : BytesN l → ∀ s, s < 65536 → l.foldl crcByteN s < 65536 := by
  induction l with
  | nil =>
    intro _ s h
    rw [List.foldl_nil]
    exact h
  | cons x l ih =>
    intro hl s h
    rw [List.foldl_cons]
    exact ih (fun y hy => hl y (List.mem_cons_of_mem _ hy)) _ (crcByteN_lt _ _ h (hl x (List.mem_cons_self ..)))
theorem fold_lin (l : List Nat) : BytesN l → ∀ s d, s < 65536 → d < 65536 → l.foldl crcByteN (s ^^^ d) = l.foldl crcByteN s ^^^ iter crcBitN (8 * l.length) d := by
  induction l with
  | nil =>
    intro _ s d _ _
    rw [List.foldl_nil, List.foldl_nil, List.length_nil, Nat.mul_zero]
    rfl
  | cons x l ih =>
    intro hl s d hs hd
    have hx := hl x (List.mem_cons_self ..)
    rw [List.foldl_cons, List.foldl_cons, byte_lin s d x hs hd hx, ih (fun y hy => hl y (List.mem_cons_of_mem _ hy)) _ _ (crcByteN_lt _ _ hs hx) (iter_lt _ _ hd), ← iter_add, List.length_cons]
    congr 2
theorem fold_set (l : List Nat) : BytesN l → ∀ (j s m : Nat) (hj : j < l.length), s < 65536 → m < 256 → (l.set j (l[j] ^^^ m)).foldl crcByteN s = l.foldl crcByteN s ^^^ iter crcBitN (8 * (l.length - j)) (256 * m) := by
  induction l with
  | nil => intro _ j s m hj; simp at hj
  | cons x l ih =>
    intro hl j s m hj hs hm
    have hx := hl x (List.mem_cons_self ..)
    have hl' : BytesN l := fun y hy => hl y (List.mem_cons_of_mem _ hy)
    cases j with
    | zero =>
      simp only [List.set_cons_zero, List.getElem_cons_zero, List.foldl_cons, List.length_cons, Nat.sub_zero]
      have h1 : crcByteN s (x ^^^ m) = crcByteN s x ^^^ iter crcBitN 8 (256 * m) := by
        unfold crcByteN
        have h2 : 256 * (x ^^^ m) = (256 * x) ^^^ (256 * m) := by
          rw [show (256 : Nat) = 2 ^ 8 from rfl]
          apply Nat.eq_of_testBit_eq
          intro i
          rw [Nat.testBit_xor, Nat.testBit_two_pow_mul, Nat.testBit_two_pow_mul, Nat.testBit_two_pow_mul, Nat.testBit_xor]
          cases decide (i ≥ 8) <;> simp
        rw [h2, ← Nat.xor_assoc, iter_lin _ _ _ (xor_lt16 hs (by omega)) (by omega)]
      rw [h1, fold_lin l hl' _ _ (crcByteN_lt _ _ hs hx) (iter_lt _ _ (by omega)), ← iter_add]
      congr 2
    | succ j =>
      simp only [List.set_cons_succ, List.getElem_cons_succ, List.foldl_cons, List.length_cons]
      rw [ih hl' j _ m (by simpa using hj) (crcByteN_lt _ _ hs hx) hm, show l.length + 1 - (j + 1) = l.length - j from by omega]

end Go.Proofs.Ytbenghpodfkdcaa
