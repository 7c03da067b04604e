/- Contracts of the references: turn, Of, over this seat's translation. -/
import Derived.Test.YtbenghpodfkdcaaR1
namespace Go.Proofs.Ytbenghpodfkdcaa
open Go.RowKit

def xorI (x y : Int) : Int := ((x.toNat ^^^ y.toNat : Nat) : Int)
theorem xorI_step (x y : Int) (hx : 0 ≤ x) (hy : 0 ≤ y) (k : Nat) (p : Int) (hp : p = 2 ^ k) : xorI x y % 2 ^ (k + 1) = xorI x y % p + if x / p % 2 = y / p % 2 then 0 else p := by
  obtain ⟨a, rfl⟩ := Int.eq_ofNat_of_zero_le hx
  obtain ⟨b, rfl⟩ := Int.eq_ofNat_of_zero_le hy
  have h := xor_mod_succ a b k
  unfold xorI
  rw [Int.toNat_natCast, Int.toNat_natCast, hp]
  have e : ((a : Int) / 2 ^ k % 2 = (b : Int) / 2 ^ k % 2) ↔ (a / 2 ^ k % 2 = b / 2 ^ k % 2) := by
    constructor
    · intro h; exact_mod_cast h
    · intro h; exact_mod_cast h
  by_cases hc : a / 2 ^ k % 2 = b / 2 ^ k % 2
  · rw [if_pos (e.2 hc)]
    rw [if_neg (fun h => h hc)] at h
    exact_mod_cast h
  · rw [if_neg (fun h => hc (e.1 h))]
    rw [if_pos hc] at h
    exact_mod_cast h
theorem xorI_lt (x y : Int) (hx : 0 ≤ x) (hx1 : x < 65536) (hy : 0 ≤ y) (hy1 : y < 65536) : 0 ≤ xorI x y ∧ xorI x y < 65536 := by
  have h : x.toNat ^^^ y.toNat < 2 ^ 16 := Nat.xor_lt_two_pow (by omega) (by omega)
  unfold xorI
  omega

set_option maxHeartbeats 800000 in
theorem turn_ok (x y : Int) (hx : 0 ≤ x) (hx1 : x < 65536) (hy : 0 ≤ y) (hy1 : y < 65536) (w : World) :
    Calls Try.prog 48 #[.int .i64 x, .int .i64 y] w fun e w' => e = .returned (.int .i64 (xorI x y)) ∧ Dr w w' := by
  have HXB := Asd.mk (xorI_lt x y hx hx1 hy hy1)
  go_enter Try.func48, Try.ntmps48
  go_wp2_with fail
  go_loopw [5, 6, 7] (fun o b i wr => ∃ (k : Nat) (p : Int), k ≤ 16 ∧ i = .int .i64 k ∧ b = .int .i64 p ∧ Asd (p = 2 ^ k) ∧ o = .int .i64 (xorI x y % p) ∧ Asd (Dr w wr)) (fun _ _ i _ => 16 - (intOf i).toNat)
  case atStart => exact ⟨0, 1, by decide, rfl, rfl, ⟨rfl⟩, by rw [Int.emod_one], ⟨Dr.refl _⟩⟩
  case round =>
    obtain ⟨k, p, hk, rfl, rfl, HP, rfl, HK⟩ := hrel
    have hp1 : 1 ≤ p := by
      have := HP.out
      have h2 : 0 < (2 : Int) ^ k := Int.pow_pos (by decide)
      omega
    have hp2 : p ≤ 65536 := by
      have h : (2 : Nat) ^ k ≤ 2 ^ 16 := Nat.pow_le_pow_right (by decide) hk
      have h2 : ((2 ^ k : Nat) : Int) ≤ ((2 ^ 16 : Nat) : Int) := by exact_mod_cast h
      have h3 := HP.out
      simp at h2
      omega
    have HST := Asd.mk (xorI_step x y hx hy k p HP.out)
    by_cases hlt : k < 16
    · obtain ⟨o, ho⟩ : ∃ o, o = xorI x y % p := ⟨_, rfl⟩
      have ho0 : 0 ≤ o := by rw [ho]; exact Int.emod_nonneg _ (by omega)
      have ho1 : o < 65536 := by rw [ho]; have := Int.emod_lt_of_pos (xorI x y) (show 0 < p by omega); omega
      rw [← ho] at HST ⊢
      clear ho
      have hp0 : (p == 0) = false := by simp; omega
      have hxt : (x / p).tmod 2 = x / p % 2 := Int.tmod_eq_emod_of_nonneg (Int.ediv_nonneg hx (by omega))
      have hyt : (y / p).tmod 2 = y / p % 2 := Int.tmod_eq_emod_of_nonneg (Int.ediv_nonneg hy (by omega))
      have HPS : Asd (2 * p = 2 ^ (k + 1)) := ⟨by rw [Int.pow_succ, ← HP.out]; omega⟩
      by_cases hb : x / p % 2 = y / p % 2
      · have HS : Asd (o = xorI x y % (2 * p)) := ⟨by rw [HPS.out, HST.out, if_pos hb]; omega⟩
        have hb1 : ((x / p).tmod 2 != (y / p).tmod 2) = false := by rw [hxt, hyt]; simp [hb]
        clear hxt hyt
        have HB := Asd.mk hb
        clear hb
        go_wp2
        go_quiet (fail)
        go_wp2
        go_roundw
        case rel => exact ⟨k + 1, 2 * p, by omega, by go_num, rfl, HPS, by rw [← HS.out], ⟨HK.out.drewN _⟩⟩
        case measure => simp [intOf]; omega
      · have HS : Asd (o + p = xorI x y % (2 * p)) := ⟨by rw [HPS.out, HST.out, if_neg hb]⟩
        have hb1 : ((x / p).tmod 2 != (y / p).tmod 2) = true := by rw [hxt, hyt]; simpa using hb
        clear hxt hyt
        have HB := Asd.mk hb
        clear hb
        go_wp2
        go_quiet (fail)
        go_wp2
        go_roundw
        case rel => exact ⟨k + 1, 2 * p, by omega, by go_num, rfl, HPS, by rw [← HS.out], ⟨HK.out.drewN _⟩⟩
        case measure => simp [intOf]; omega
    · have hk16 : k = 16 := by omega
      have hd : decide (k < 16) = false := by simpa using hlt
      go_wp2
      go_ret
      refine ⟨?_, HK.out⟩
      show Ending.returned (Value.int .i64 (xorI x y % p)) = _
      rw [HP.out, hk16, Int.emod_eq_of_lt HXB.out.1 (by have := HXB.out.2; simpa using this)]

theorem crcBit_int (s : Int) (h0 : 0 ≤ s) (h1 : s < 65536) : crcBit s = if 32768 ≤ s then xorI (2 * s % 65536) 4129 else 2 * s % 65536 := by
  obtain ⟨n, rfl⟩ := Int.eq_ofNat_of_zero_le h0
  rw [crcBit_eq n (by omega)]
  unfold crcBitN
  by_cases hs : n < 32768
  · rw [if_pos hs, if_neg (by omega)]
    omega
  · rw [if_neg hs, if_pos (by omega)]
    unfold xorI
    rw [show (2 * (n : Int) % 65536).toNat = 2 * n - 65536 from by omega]
    rfl
theorem crcByte_int (s c : Int) (h0 : 0 ≤ s) (h1 : s < 65536) (hc : 0 ≤ c) (hc1 : c < 256) : crcByte s c = iter crcBit 8 (xorI s (256 * c)) := by
  obtain ⟨n, rfl⟩ := Int.eq_ofNat_of_zero_le h0
  obtain ⟨m, rfl⟩ := Int.eq_ofNat_of_zero_le hc
  unfold crcByte xorI
  rw [wrap_u16, wrap_u16, show (m : Int) % 65536 * 256 % 65536 = ((256 * m : Nat) : Int) from by omega, xor16 n _ (by omega) (by omega)]
  rw [show (256 * (m : Int)).toNat = 256 * m from by omega, Int.toNat_natCast]
theorem iter_range (m : Nat) (s : Int) (h0 : 0 ≤ s) (h1 : s < 65536) : 0 ≤ iter crcBit m s ∧ iter crcBit m s < 65536 := by
  obtain ⟨n, rfl⟩ := Int.eq_ofNat_of_zero_le h0
  rw [iter_eq m n (by omega)]
  have := iter_lt m n (by omega)
  omega

set_option maxHeartbeats 1600000 in
theorem refOf_ok (v : Value) (n : Nat) (xs : List Int) (w : World) (h : Rc w v n 1 (nums .u8 xs)) (hb : Bytes xs) (hn : n ≤ 1000000) :
    Calls Try.prog 41 #[v] w fun e w' => e = .returned (.int .i64 (crc xs)) ∧ Dr w w' := by
  have HR := Asd.mk h
  have HL := Asd.mk h.length
  have HB := Asd.mk hb
  obtain ⟨_, A, c, rfl, _⟩ := h
  clear hb
  go_enter Try.func41, Try.ntmps41
  go_wp2
  go_loopw [3, 4] (fun s i wr => ∃ k : Nat, k ≤ n ∧ i = .int .i64 k ∧ s = .int .i64 (crc (xs.take k)) ∧ Asd (Dr w wr)) (fun _ i _ => n - (intOf i).toNat)
  case atStart => exact ⟨0, Nat.zero_le _, rfl, rfl, ⟨Dr.refl _⟩⟩
  case round =>
    obtain ⟨k, hk, rfl, rfl, HK⟩ := hrel
    have hcr := crc_range (xs.take k) (HB.out.take k)
    by_cases hlt : k < n
    · cases A with
      | none => obtain ⟨_, _, _, h, _, h2, _⟩ := HR.out; cases h; have := h2 rfl; omega
      | some ad =>
        have hc := (HR.out.no HK.out.kp).num_at k hlt
        have HCS := Asd.mk (crc_take_succ xs k (by have := HL.out; omega))
        obtain ⟨s, hs⟩ : ∃ s, s = crc (xs.take k) := ⟨_, rfl⟩
        obtain ⟨x, hx⟩ : ∃ x, xs[k]?.getD 0 = x := ⟨_, rfl⟩
        have hxr := HB.out.get k
        rw [List.getD_eq_getElem?_getD, hx] at HCS hc
        rw [hx] at hxr
        rw [← hs] at HCS hcr ⊢
        clear hs hx
        obtain ⟨hs0, hs1⟩ := hcr
        obtain ⟨hx0, hx1⟩ := hxr
        have HXR := Asd.mk (xorI_lt s (256 * x) hs0 hs1 (by omega) (by omega))
        have HCB := Asd.mk (crcByte_int s x hs0 hs1 hx0 hx1)
        go_wp2_with fail
        refine (turn_ok s (256 * x) hs0 hs1 (by omega) (by omega) wr).mono ?_
        rintro e w1 ⟨rfl, hk1⟩
        have HK1 := Asd.mk (HK.out.then_ hk1)
        clear hk1
        obtain ⟨x0, hx0'⟩ : ∃ x0, x0 = xorI s (256 * x) := ⟨_, rfl⟩
        rw [← hx0'] at HXR HCB ⊢
        clear hx0'
        go_wp2_with fail
        go_loopw [3, 5] (fun s i wr => ∃ m : Nat, m ≤ 8 ∧ i = .int .i64 m ∧ s = .int .i64 (iter crcBit m x0) ∧ Asd (Dr w wr)) (fun _ i _ => 8 - (intOf i).toNat)
        case atStart => exact ⟨0, by decide, rfl, rfl, HK1⟩
        case round =>
          obtain ⟨m, hm, rfl, rfl, HK2⟩ := hrel
          by_cases hlm : m < 8
          · obtain ⟨hy0, hy1⟩ := iter_range m x0 HXR.out.1 HXR.out.2
            have HCI := Asd.mk (crcBit_int _ hy0 hy1)
            have HSU : Asd (iter crcBit (m + 1) x0 = crcBit (iter crcBit m x0)) := ⟨rfl⟩
            obtain ⟨y, hy⟩ : ∃ y, y = iter crcBit m x0 := ⟨_, rfl⟩
            rw [← hy] at HCI HSU hy0 hy1 ⊢
            clear hy
            by_cases hbt : 32768 ≤ y
            · have HC2 : Asd (crcBit y = xorI (2 * y % 65536) 4129) := ⟨by rw [HCI.out, if_pos hbt]⟩
              go_wp2_with fail
              refine (turn_ok (2 * y % 65536) 4129 (by omega) (by omega) (by omega) (by omega) _).mono ?_
              rintro e w2 ⟨rfl, hk2⟩
              have HK3 := Asd.mk (HK2.out.then_ hk2)
              clear hk2
              go_wp2_with fail
              go_roundw
              case rel => exact ⟨m + 1, by omega, by go_num, by rw [HSU.out, HC2.out], HK3⟩
              case measure => simp [intOf]; omega
            · have HC2 : Asd (crcBit y = 2 * y % 65536) := ⟨by rw [HCI.out, if_neg hbt]⟩
              go_wp2_with fail
              go_roundw
              case rel => exact ⟨m + 1, by omega, by go_num, by rw [HSU.out, HC2.out], HK2⟩
              case measure => simp [intOf]; omega
          · have hm8 : m = 8 := by omega
            subst hm8
            have hlm' : decide ((8 : Nat) < 8) = false := rfl
            go_wp2_with fail
            go_roundw
            case rel => exact ⟨k + 1, by omega, by go_num, by rw [HCS.out, HCB.out], HK2⟩
            case measure => simp [intOf]; omega
    · have hd : decide (k < n) = false := by simpa using hlt
      go_wp2
      go_ret
      exact ⟨by rw [List.take_of_length_le (by have := HL.out; omega)]; rfl, HK.out⟩

end Go.Proofs.Ytbenghpodfkdcaa
