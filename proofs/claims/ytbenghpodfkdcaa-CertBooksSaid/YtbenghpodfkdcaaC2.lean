/- The contracts of Encode and Decode, of the law's side and of the reference, in one form each. -/
import Derived.Test.YtbenghpodfkdcaaP4
import Derived.Test.YtbenghpodfkdcaaL1
namespace Go.Proofs.Ytbenghpodfkdcaa
open Go.RowKit

theorem rc_nil (w : World) (k : IntKind) : Rc w (.slice none 0 0) 0 1 (nums k []) := own_rc (World.ownsRow_nil w w.heap.size 5 1)
theorem enc_any (l : List Int) (hl : l.length = 8) (w : World) :
    Calls Try.prog 8 #[.agg (nums .i64 l).toArray] w fun e w' => ∃ A c, e = .returned (.tuple #[.slice A (encB l).length c, .int .i64 (encE l)]) ∧ Kp No w w' ∧ Rc w' (.slice A (encB l).length c) (encB l).length 1 (nums .u8 (encB l)) := by
  cases ho : okL l with
  | true =>
    refine (encodeL_good l hl w ho).mono ?_
    rintro e w1 ⟨v1, rfl, hk1, ho1⟩
    have h1 : encB l = sealB (body l) := if_pos ho
    have h2 : encE l = 0 := if_pos ho
    have h3 : (encB l).length = 66 := by rw [h1, seal_length, body_length, hl]
    obtain ⟨A, c, rfl⟩ := own_slice ho1
    rw [h3, h2, h1]
    exact ⟨A, c, rfl, hk1, own_rc ho1⟩
  | false =>
    refine (encodeL_bad l hl w ho).mono ?_
    rintro e w1 ⟨rfl, hk1⟩
    have h1 : encB l = [] := if_neg (by rw [ho]; decide)
    have h2 : encE l = 1 := if_neg (by rw [ho]; decide)
    rw [h2, h1]
    exact ⟨none, 0, rfl, hk1, rc_nil _ _⟩
theorem refEnc_any (l : List Int) (hl : l.length = 8) (w : World) :
    Calls Try.prog 9 #[.agg (nums .i64 l).toArray] w fun e w' => ∃ A c, e = .returned (.tuple #[.slice A (encB l).length c, .int .i64 (encE l)]) ∧ Kp No w w' ∧ Rc w' (.slice A (encB l).length c) (encB l).length 1 (nums .u8 (encB l)) := by
  cases ho : okL l with
  | true =>
    have h1 : encB l = sealB (body l) := if_pos ho
    have h2 : encE l = 0 := if_pos ho
    have h3 : (encB l).length = 66 := by rw [h1, seal_length, body_length, hl]
    rw [h3, h2, h1]
    clear h1 h2 h3
    obtain ⟨b0, b1, b2, b3, b4, b5, b6, b7, rfl⟩ := list8 l hl
    refine (refEncode_good b0 b1 b2 b3 b4 b5 b6 b7 w ho).mono ?_
    rintro e w1 ⟨v1, rfl, hk1, ho1⟩
    obtain ⟨A, c, rfl⟩ := own_slice ho1
    exact ⟨A, c, rfl, hk1, own_rc ho1⟩
  | false =>
    have h1 : encB l = [] := if_neg (by rw [ho]; decide)
    have h2 : encE l = 1 := if_neg (by rw [ho]; decide)
    rw [h2, h1]
    obtain ⟨b0, b1, b2, b3, b4, b5, b6, b7, rfl⟩ := list8 l hl
    refine (refEncode_bad b0 b1 b2 b3 b4 b5 b6 b7 w ho).mono ?_
    rintro e w1 ⟨rfl, hk1⟩
    exact ⟨none, 0, rfl, hk1, rc_nil _ _⟩
theorem decAns_eq (xs : List Int) (h66 : xs.length = 66) (hg : goodB xs = true) : decAns (xs.take 64) = #[.agg (nums .i64 (decV xs)).toArray, .int .i64 (decE xs)] := by
  unfold decAns decV decE
  rw [if_pos h66, if_pos hg]
  by_cases ho : okL (vals (xs.take 64)) = true
  · rw [if_pos ho, if_pos ho, if_pos ⟨h66, hg, ho⟩]
  · rw [if_neg ho, if_neg ho, if_neg (fun h => ho h.2.2)]
    rfl
theorem dec_any (v : Value) (n : Nat) (xs : List Int) (w : World) (h : Rc w v n 1 (nums .u8 xs)) :
    Calls Try.prog 10 #[v] w fun e w' => e = .returned (.tuple #[.agg (nums .i64 (decV xs)).toArray, .int .i64 (decE xs)]) ∧ Kp No w w' := by
  have hl := h.length
  by_cases h66 : n = 66
  · subst h66
    have hl66 : xs.length = 66 := by omega
    cases hg : goodB xs with
    | true =>
      rw [← decAns_eq xs hl66 hg]
      exact decode_go v xs _ w h hg rfl
    | false =>
      have h1 : decV xs = Zs := if_neg (fun h => by rw [hg] at h; exact absurd h.2.1 (by decide))
      have h2 : decE xs = 3 := by rw [decE, if_pos hl66, if_neg (by rw [hg]; decide)]
      rw [h1, h2]
      exact decode_sum v xs w h hg
  · have h1 : decV xs = Zs := if_neg (fun h => by omega)
    have h2 : decE xs = 2 := if_neg (by omega)
    rw [h1, h2]
    exact decode_len v n xs w h h66
theorem refDec_any (v : Value) (n : Nat) (xs : List Int) (w : World) (h : Rc w v n 1 (nums .u8 xs)) (hb : Bytes xs) :
    Calls Try.prog 11 #[v] w fun e w' => e = .returned (.tuple #[.agg (nums .i64 (decV xs)).toArray, .int .i64 (decE xs)]) ∧ Kp No w w' := by
  have hl := h.length
  by_cases h66 : n = 66
  · subst h66
    have hl66 : xs.length = 66 := by omega
    cases hg : goodB xs with
    | true =>
      rw [← decAns_eq xs hl66 hg]
      exact refDecode_go v xs w h hb hg
    | false =>
      have h1 : decV xs = Zs := if_neg (fun h => by rw [hg] at h; exact absurd h.2.1 (by decide))
      have h2 : decE xs = 3 := by rw [decE, if_pos hl66, if_neg (by rw [hg]; decide)]
      rw [h1, h2]
      exact refDecode_sum v xs w h hb hg
  · have h1 : decV xs = Zs := if_neg (fun h => by omega)
    have h2 : decE xs = 2 := if_neg (by omega)
    rw [h1, h2]
    exact refDecode_len v n xs w h h66

end Go.Proofs.Ytbenghpodfkdcaa
