/- Contracts of package check over this seat's translation. -/
import Derived.Test.YtbenghpodfkdcaaA2
namespace Go.Proofs.Ytbenghpodfkdcaa
open Go.RowKit

theorem Rc.num_at {w : World} {ad : Addr} {n c : Nat} {k : IntKind} {xs : List Int} (h : Rc w (.slice (some ad) n c) n 1 (nums k xs)) (j : Nat) (hj : j < n) :
    w.cell? (ad.add j) = some (.int k (xs.getD j 0)) := by
  obtain ⟨h1, A, c', hv, _, _, h4⟩ := h
  cases hv
  refine h4 ad rfl j _ ?_
  rw [nums_length] at h1
  have : j < xs.length := by omega
  simp [nums, this]
theorem Rc.length {w : World} {v : Value} {n : Nat} {k : IntKind} {xs : List Int} (h : Rc w v n 1 (nums k xs)) : xs.length = n := by
  have := h.1
  rw [nums_length] at this
  omega

def crcBit (x : Int) : Int := if Go.bits .and .u16 x 32768 = 0 then IntKind.u16.wrap (x * 2) else Go.bits .xor .u16 (IntKind.u16.wrap (x * 2)) 4129
def iter {α : Type} (f : α → α) : Nat → α → α
  | 0, x => x
  | n + 1, x => f (iter f n x)
def crcByte (x c : Int) : Int := iter crcBit 8 (Go.bits .xor .u16 x (IntKind.u16.wrap (IntKind.u16.wrap c * 256)))
def crc (l : List Int) : Int := l.foldl crcByte 65535
theorem crc_take_succ (l : List Int) (k : Nat) (h : k < l.length) : crc (l.take (k + 1)) = crcByte (crc (l.take k)) (l.getD k 0) := by
  unfold crc
  rw [List.take_succ_eq_append_getElem h, List.foldl_append]
  simp [h]

set_option maxHeartbeats 800000 in
theorem of_ok (v : Value) (n : Nat) (xs : List Int) (w : World) (h : Rc w v n 1 (nums .u8 xs)) (hn : n ≤ 1000000) :
    Calls Try.prog 39 #[v] w fun e w' => e = .returned (.int .u16 (crc xs)) ∧ w = w' := by
  have hl := h.length
  have h0 := h
  obtain ⟨h1, A, c, rfl, h2, h3, h4⟩ := h
  have HR := Asd.mk h0
  have HL := Asd.mk hl
  have H3 := Asd.mk h3
  clear h1 h3 h4 h0 hl
  go_enter Try.func39, Try.ntmps39
  go_wp2
  go_loop [3, 9] (fun s i => ∃ k : Nat, k ≤ n ∧ i = .int .i64 k ∧ s = .int .u16 (crc (xs.take k))) (fun _ i => n - (intOf i).toNat)
  case atStart => exact ⟨0, Nat.zero_le _, rfl, rfl⟩
  case round =>
    obtain ⟨k, hk, rfl, rfl⟩ := hrel
    by_cases hlt : k < n
    · cases A with
      | none => have := H3.out rfl; omega
      | some ad =>
        have hc := HR.out.num_at k hlt
        go_wp2
        obtain ⟨x0, hx0⟩ : ∃ x0, x0 = bits BinOp.xor IntKind.u16 (crc (List.take k xs)) (IntKind.u16.wrap (IntKind.u16.wrap (xs[k]?.getD 0) * 256)) := ⟨_, rfl⟩
        rw [← hx0]
        have HX := Asd.mk hx0
        clear hx0
        go_loop [3, 18] (fun s i => ∃ m : Nat, m ≤ 8 ∧ i = .int .i64 m ∧ s = .int .u16 (iter crcBit m x0)) (fun _ i => 8 - (intOf i).toNat)
        case atStart => exact ⟨0, by decide, rfl, rfl⟩
        case round =>
          obtain ⟨m, hm, rfl, rfl⟩ := hrel
          by_cases hlm : m < 8
          · obtain ⟨y, hy⟩ : ∃ y, y = iter crcBit m x0 := ⟨_, rfl⟩
            rw [← hy]
            have HY := Asd.mk hy
            clear hy
            by_cases hb : Go.bits .and .u16 y 32768 = 0
            · have hb1 : (Go.bits .and .u16 y 32768 != 0) = false := by simpa using hb
              have HB := Asd.mk hb
              clear hb
              go_wp2
              go_round
              case rel => exact ⟨m + 1, by omega, by go_num, by rw [iter, ← HY.out, crcBit, if_pos HB.out]⟩
              case measure => simp [intOf]; omega
            · have hb1 : (Go.bits .and .u16 y 32768 != 0) = true := by simpa using hb
              have HB := Asd.mk hb
              clear hb
              go_wp2
              go_round
              case rel => exact ⟨m + 1, by omega, by go_num, by rw [iter, ← HY.out, crcBit, if_neg HB.out]⟩
              case measure => simp [intOf]; omega
          · have hm8 : m = 8 := by omega
            subst hm8
            have hlm' : decide ((8 : Nat) < 8) = false := rfl
            go_wp2
            go_round
            case rel => exact ⟨k + 1, by omega, by go_num, by rw [crc_take_succ _ _ (by have := HL.out; omega), crcByte, HX.out]; simp⟩
            case measure => simp [intOf]; omega
    · have hd : decide (k < n) = false := by simpa using hlt
      go_wp2
      go_ret
      exact ⟨by rw [List.take_of_length_le (by have := HL.out; omega)]; rfl, rfl⟩
end Go.Proofs.Ytbenghpodfkdcaa
