/- Plain laws of the checksum and of numbers as bytes. -/
import Derived.Test.YtbenghpodfkdcaaB2
import Derived.Laws.BitsLemmas
namespace Go.Proofs.Ytbenghpodfkdcaa

def Bytes (l : List Int) : Prop := ∀ x ∈ l, 0 ≤ x ∧ x < 256
theorem Bytes.take {l : List Int} (h : Bytes l) (n : Nat) : Bytes (l.take n) := fun x hx => h x (List.mem_of_mem_take hx)
theorem Bytes.drop {l : List Int} (h : Bytes l) (n : Nat) : Bytes (l.drop n) := fun x hx => h x (List.mem_of_mem_drop hx)
theorem Bytes.append {a b : List Int} (h : Bytes a) (k : Bytes b) : Bytes (a ++ b) := fun x hx => (List.mem_append.1 hx).elim (h x) (k x)
theorem Bytes.get {l : List Int} (h : Bytes l) (k : Nat) : 0 ≤ l[k]?.getD 0 ∧ l[k]?.getD 0 < 256 := by
  cases he : l[k]? with
  | none => simp
  | some x => exact h x (List.mem_of_getElem? he)

theorem wrap_u16 (n : Int) : IntKind.u16.wrap n = n % 65536 := by simp [IntKind.wrap, IntKind.bits, IntKind.signed]
theorem wrap_u8 (n : Int) : IntKind.u8.wrap n = n % 256 := by simp [IntKind.wrap, IntKind.bits, IntKind.signed]
theorem wrap_u64 (n : Int) : IntKind.u64.wrap n = n % 18446744073709551616 := by simp [IntKind.wrap, IntKind.bits, IntKind.signed]

theorem xor16 (a b : Nat) (ha : a < 65536) (hb : b < 65536) : Go.bits .xor .u16 (a : Int) (b : Int) = ((a ^^^ b : Nat) : Int) := by
  have h : a ^^^ b < 2 ^ 16 := Nat.xor_lt_two_pow (by simpa using ha) (by simpa using hb)
  have hb16 : IntKind.u16.bits = 16 := rfl
  simp only [Go.bits, BitVec.ofInt_natCast, BitVec.toNat_xor, BitVec.toNat_ofNat, hb16, Nat.mod_eq_of_lt (show a < 2 ^ 16 from by simpa using ha), Nat.mod_eq_of_lt (show b < 2 ^ 16 from by simpa using hb)]
  rw [wrap_u16]
  omega
theorem and16 (a b : Nat) (ha : a < 65536) (hb : b < 65536) : Go.bits .and .u16 (a : Int) (b : Int) = ((a &&& b : Nat) : Int) :=
  (bits_nat .u16 16 (by decide) (fun n h0 h1 => by rw [wrap_u16]; omega) a b ha hb).1

/-- Is the highest bit set? -/
theorem top16 (a : Nat) (ha : a < 65536) : Go.bits .and .u16 (a : Int) 32768 = 0 ↔ a < 32768 := by
  rw [show (32768 : Int) = ((32768 : Nat) : Int) from rfl, and16 a 32768 ha (by decide)]
  have h15 : (a &&& 32768).testBit 15 = decide (a / 2 ^ 15 % 2 = 1) := by
    rw [Nat.testBit_and, show (32768 : Nat) = 2 ^ 15 from rfl, Nat.testBit_two_pow_self, Bool.and_true, Nat.testBit_eq_decide_div_mod_eq]
  constructor
  · intro h
    have h0 : a &&& 32768 = 0 := by omega
    rw [h0] at h15
    have h1 : ¬ a / 2 ^ 15 % 2 = 1 := by simpa using h15
    omega
  · intro h
    have h0 : a &&& 32768 = 0 := by
      apply Nat.eq_of_testBit_eq
      intro i
      rw [Nat.testBit_and, show (32768 : Nat) = 2 ^ 15 from rfl, Nat.testBit_two_pow, Nat.zero_testBit]
      by_cases hi : 15 = i
      · subst hi
        rw [Nat.testBit_lt_two_pow h]
        rfl
      · simp [hi]
    omega

def crcBitN (s : Nat) : Nat := if s < 32768 then 2 * s else (2 * s - 65536) ^^^ 4129
def crcByteN (s c : Nat) : Nat := iter crcBitN 8 (s ^^^ (256 * c))
def crcN (l : List Nat) : Nat := l.foldl crcByteN 65535
theorem crcBitN_lt (s : Nat) (h : s < 65536) : crcBitN s < 65536 := by
  unfold crcBitN
  split
  · omega
  · exact Nat.xor_lt_two_pow (n := 16) (by omega) (by decide)
theorem crcBit_eq (s : Nat) (h : s < 65536) : crcBit (s : Int) = (crcBitN s : Int) := by
  unfold crcBit crcBitN
  by_cases hs : s < 32768
  · rw [if_pos ((top16 s h).2 hs), if_pos hs, wrap_u16]
    omega
  · rw [if_neg (fun h1 => hs ((top16 s h).1 h1)), if_neg hs, wrap_u16, show (s : Int) * 2 % 65536 = ((2 * s - 65536 : Nat) : Int) from by omega]
    exact xor16 _ 4129 (by omega) (by decide)
theorem iter_lt (n s : Nat) (h : s < 65536) : iter crcBitN n s < 65536 := by
  induction n with
  | zero => exact h
  | succ n ih => exact crcBitN_lt _ ih
theorem iter_eq (n s : Nat) (h : s < 65536) : iter crcBit n (s : Int) = ((iter crcBitN n s : Nat) : Int) := by
  induction n with
  | zero => rfl
  | succ n ih =>
    show crcBit (iter crcBit n s) = _
    rw [ih, crcBit_eq _ (iter_lt n s h)]
    rfl
theorem crcByteN_lt (s c : Nat) (h : s < 65536) (hc : c < 256) : crcByteN s c < 65536 := iter_lt _ _ (Nat.xor_lt_two_pow (n := 16) h (by omega))
theorem crcByte_eq (s c : Nat) (h : s < 65536) (hc : c < 256) : crcByte (s : Int) (c : Int) = (crcByteN s c : Int) := by
  unfold crcByte crcByteN
  rw [wrap_u16, wrap_u16, show (c : Int) % 65536 * 256 % 65536 = ((256 * c : Nat) : Int) from by omega, xor16 s _ h (by omega)]
  exact iter_eq 8 _ (Nat.xor_lt_two_pow (n := 16) h (by omega))
theorem crcByte_eq' (s : Nat) (x : Int) (h : s < 65536) (h0 : 0 ≤ x) (hx : x < 256) : crcByte (s : Int) x = ((crcByteN s x.toNat : Nat) : Int) := by
  have := crcByte_eq s x.toNat h (by omega)
  rwa [Int.toNat_of_nonneg h0] at this
theorem crc_eq_from (l : List Int) : Bytes l → ∀ s : Nat, s < 65536 → l.foldl crcByte (s : Int) = (((l.map Int.toNat).foldl crcByteN s : Nat) : Int) ∧ (l.map Int.toNat).foldl crcByteN s < 65536 := by
  induction l with
  | nil => exact fun _ s h => ⟨rfl, h⟩
  | cons x l ih =>
    intro hl s h
    have hx := hl x (List.mem_cons_self ..)
    have he := crcByte_eq' s x h hx.1 hx.2
    have hi := ih (fun y hy => hl y (List.mem_cons_of_mem _ hy)) (crcByteN s x.toNat) (crcByteN_lt _ _ h (by omega))
    rw [List.foldl_cons, List.map_cons, List.foldl_cons, he]
    exact hi
theorem crc_eq (l : List Int) (hl : Bytes l) : crc l = ((crcN (l.map Int.toNat) : Nat) : Int) ∧ crcN (l.map Int.toNat) < 65536 := crc_eq_from l hl 65535 (by decide)
theorem crc_range (l : List Int) (hl : Bytes l) : 0 ≤ crc l ∧ crc l < 65536 := by
  have := crc_eq l hl
  omega

/-- Two numbers' bits turned, as the reference does it: k of sixteen. -/
theorem xor_mod_succ (a b k : Nat) : (a ^^^ b) % 2 ^ (k + 1) = (a ^^^ b) % 2 ^ k + if a / 2 ^ k % 2 ≠ b / 2 ^ k % 2 then 2 ^ k else 0 := by
  rw [Nat.mod_pow_succ]
  congr 1
  have h : (a ^^^ b) / 2 ^ k % 2 = if a / 2 ^ k % 2 ≠ b / 2 ^ k % 2 then 1 else 0 := by
    have h1 : (a ^^^ b).testBit k = (a.testBit k ^^ b.testBit k) := Nat.testBit_xor ..
    rw [Nat.testBit_eq_decide_div_mod_eq, Nat.testBit_eq_decide_div_mod_eq, Nat.testBit_eq_decide_div_mod_eq] at h1
    rcases Nat.mod_two_eq_zero_or_one (a / 2 ^ k) with ha | ha <;> rcases Nat.mod_two_eq_zero_or_one (b / 2 ^ k) with hb | hb <;>
      rcases Nat.mod_two_eq_zero_or_one ((a ^^^ b) / 2 ^ k) with hc | hc <;> simp [ha, hb, hc] at h1 ⊢
  rw [h]
  split <;> simp

/-- The number of bytes, by its digits. -/
def valueV (l : List Int) : Int := l.foldl (fun o c => o * 256 + c) 0
theorem valueV_snoc (l : List Int) (c : Int) : valueV (l ++ [c]) = valueV l * 256 + c := by simp [valueV]
theorem valueV_from (l : List Int) : Bytes l → ∀ o : Int, 0 ≤ o → 0 ≤ l.foldl (fun o c => o * 256 + c) o ∧ l.foldl (fun o c => o * 256 + c) o < (o + 1) * 256 ^ l.length := by
  induction l with
  | nil => intro _ o h; simp; omega
  | cons c l ih =>
    intro hl o h
    have hx := hl c (List.mem_cons_self ..)
    have hi := ih (fun y hy => hl y (List.mem_cons_of_mem _ hy)) (o * 256 + c) (by omega)
    rw [List.foldl_cons, List.length_cons, Int.pow_succ]
    refine ⟨hi.1, Int.lt_of_lt_of_le hi.2 ?_⟩
    rw [← Int.mul_assoc, Int.mul_right_comm]
    exact Int.mul_le_mul_of_nonneg_right (by omega) (Int.le_of_lt (Int.pow_pos (by decide)))
theorem valueV_range (l : List Int) (h : Bytes l) : 0 ≤ valueV l ∧ valueV l < 256 ^ l.length := by
  have := valueV_from l h 0 (by decide)
  rw [Int.zero_add, Int.one_mul] at this
  exact this

theorem or64 (o c : Int) (h0 : 0 ≤ o) (h1 : o < 72057594037927936) (hc : 0 ≤ c) (hc1 : c < 256) : Go.bits .or .u64 (IntKind.u64.wrap (o * 256)) (IntKind.u64.wrap c) = o * 256 + c := by
  rw [wrap_u64, wrap_u64, Int.emod_eq_of_lt (by omega) (by omega), Int.emod_eq_of_lt (by omega) (by omega)]
  exact bits_join .u64 64 (by decide) (fun n h0 h1 => by rw [wrap_u64]; omega) 8 (o * 256) c (by omega) (by omega) (by omega) hc (by omega) (by omega)
theorem numV_from (l : List Int) : Bytes l → ∀ o : Int, 0 ≤ o → (o + 1) * 256 ^ l.length ≤ 18446744073709551616 →
    l.foldl (fun o c => Go.bits .or .u64 (IntKind.u64.wrap (o * 256)) (IntKind.u64.wrap c)) o = l.foldl (fun o c => o * 256 + c) o := by
  induction l with
  | nil => intro _ o _ _; rfl
  | cons c l ih =>
    intro hl o h hb
    have hx := hl c (List.mem_cons_self ..)
    rw [List.length_cons, Int.pow_succ] at hb
    have hp : 1 ≤ (256 : Int) ^ l.length := by
      have : 0 < (256 : Int) ^ l.length := Int.pow_pos (by decide)
      omega
    have ho : o < 72057594037927936 := by
      have h1 : (o + 1) * 256 ≤ (o + 1) * (256 ^ l.length * 256) := Int.mul_le_mul_of_nonneg_left (by omega) (by omega)
      omega
    rw [List.foldl_cons, List.foldl_cons, or64 o c h ho hx.1 hx.2]
    refine ih (fun y hy => hl y (List.mem_cons_of_mem _ hy)) _ (by omega) (Int.le_trans ?_ hb)
    rw [← Int.mul_assoc, Int.mul_right_comm]
    exact Int.mul_le_mul_of_nonneg_right (by omega) (by omega)
theorem numV_eq (l : List Int) (hl : Bytes l) (h8 : l.length ≤ 8) : numV l = valueV l := by
  refine numV_from l hl 0 (by decide) ?_
  rw [Int.zero_add, Int.one_mul]
  have h : (256 : Nat) ^ l.length ≤ 256 ^ 8 := Nat.pow_le_pow_right (by decide) h8
  have h2 : ((256 ^ l.length : Nat) : Int) ≤ ((256 ^ 8 : Nat) : Int) := by exact_mod_cast h
  simpa using h2

theorem be_succ (n : Int) (h : 0 ≤ n) (sz : Nat) : be n (sz + 1) = be (n / 256) sz ++ [n % 256] := by
  unfold be
  rw [List.range_succ, List.map_append]
  congr 1
  · apply List.map_congr_left
    intro j hj
    have hj := List.mem_range.1 hj
    have e : n / 256 / 256 ^ (sz - 1 - j) = n / (256 * 256 ^ (sz - 1 - j)) := by rw [Int.ediv_ediv]; simp
    rw [show sz + 1 - 1 - j = (sz - 1 - j) + 1 from by omega, Int.pow_succ, Int.mul_comm, e]
  · simp
theorem be_bytes (n : Int) (sz : Nat) : Bytes (be n sz) := by
  intro x hx
  simp only [be, List.mem_map] at hx
  obtain ⟨j, _, rfl⟩ := hx
  omega
theorem valueV_be (sz : Nat) : ∀ n : Int, 0 ≤ n → n < 256 ^ sz → valueV (be n sz) = n := by
  induction sz with
  | zero =>
    intro n h h1
    rw [Int.pow_zero] at h1
    have : n = 0 := by omega
    subst this
    rfl
  | succ sz ih =>
    intro n h h1
    rw [Int.pow_succ] at h1
    rw [be_succ n h, valueV_snoc, ih _ (Int.ediv_nonneg h (by decide)) (by omega)]
    omega
theorem be_valueV (k : Nat) : ∀ l : List Int, l.length = k → Bytes l → be (valueV l) k = l := by
  induction k with
  | zero => intro l h _; rw [List.eq_nil_of_length_eq_zero h]; rfl
  | succ k ih =>
    intro l h hb
    rcases List.eq_nil_or_concat l with rfl | ⟨l', c, rfl⟩
    · simp at h
    · rw [List.concat_eq_append] at hb h ⊢
      have h1 : l'.length = k := by simpa using h
      have hc := hb c (by simp)
      have hb' : Bytes l' := fun x hx => hb x (by simp [hx])
      have hv := valueV_range l' hb'
      rw [valueV_snoc, be_succ _ (by omega), show (valueV l' * 256 + c) / 256 = valueV l' from by omega, show (valueV l' * 256 + c) % 256 = c from by omega, ih l' h1 hb']

theorem valueV_small (l : List Int) (h : Bytes l) (h7 : l.length ≤ 7) : valueV l < 72057594037927936 := by
  have h1 := (valueV_range l h).2
  have h2 : (256 : Nat) ^ l.length ≤ 256 ^ 7 := Nat.pow_le_pow_right (by decide) h7
  have h3 : ((256 ^ l.length : Nat) : Int) ≤ ((256 ^ 7 : Nat) : Int) := by exact_mod_cast h2
  have h4 : ((256 ^ 7 : Nat) : Int) = 72057594037927936 := rfl
  rw [h4] at h3
  have h5 : ((256 ^ l.length : Nat) : Int) = 256 ^ l.length := by simp
  omega
theorem u64_step (s x : Int) (h0 : 0 ≤ s) (h1 : s < 72057594037927936) (hx : 0 ≤ x) (hx1 : x < 256) : IntKind.u64.wrap (IntKind.u64.wrap (256 * s) + x) = 256 * s + x := by
  rw [wrap_u64, wrap_u64, Int.emod_eq_of_lt (a := 256 * s) (by omega) (by omega), Int.emod_eq_of_lt (by omega) (by omega)]

end Go.Proofs.Ytbenghpodfkdcaa
