/- Plain laws of certificates as bytes: there and back. -/
import Derived.Test.YtbenghpodfkdcaaR7
import Derived.Test.YtbenghpodfkdcaaP3
namespace Go.Proofs.Ytbenghpodfkdcaa
open Go.RowKit

theorem body_seg (l : List Int) : ∀ i, i < l.length → ((body l).drop (8 * i)).take 8 = be (IntKind.u64.wrap (l[i]?.getD 0)) 8 := by
  induction l with
  | nil => intro i h; simp at h
  | cons x l ih =>
    intro i h
    have hb : body (x :: l) = be (IntKind.u64.wrap x) 8 ++ body l := rfl
    cases i with
    | zero =>
      rw [hb, Nat.mul_zero, List.drop_zero, List.take_left' (be_length _ _)]
      rfl
    | succ i =>
      have hd : (body (x :: l)).drop (8 * (i + 1)) = (body l).drop (8 * i) := by
        rw [hb, show 8 * (i + 1) = 8 + 8 * i from by omega, ← List.drop_drop, List.drop_left' (be_length _ _)]
      rw [hd, ih i (by simpa using h)]
      simp
theorem okB_range {n : Int} (h : okB n = true) : 0 ≤ n ∧ n ≤ 4611686018427387904 := by
  simpa [okB] using h
theorem numV_be (n : Int) (h : okB n = true) : wrap64 (numV (be (IntKind.u64.wrap n) 8)) = n := by
  have hr := okB_range h
  rw [numV_eq _ (be_bytes _ _) (by rw [be_length]; decide), wrap_u64, Int.emod_eq_of_lt hr.1 (by omega), valueV_be 8 n hr.1 (by omega), wrap64]
  omega
theorem vals_body (l : List Int) (hl : l.length = 8) (ho : okL l = true) : vals (body l) = l := by
  apply List.ext_getElem
  · simp [vals, hl]
  · intro i h1 h2
    have hi : okB l[i] = true := (List.all_eq_true.1 ho) _ (List.getElem_mem h2)
    simp only [vals, List.getElem_map, List.getElem_range]
    rw [body_seg l i h2, List.getElem?_eq_getElem h2]
    exact numV_be _ hi
theorem chunks (bs : List Int) (k : Nat) : ((List.range k).flatMap fun i => (bs.drop (8 * i)).take 8) = bs.take (8 * k) := by
  induction k with
  | zero => simp
  | succ k ih =>
    rw [List.range_succ, List.flatMap_append, ih, show 8 * (k + 1) = 8 * k + 8 from by omega, List.take_add]
    simp
theorem wrap_back (V : Int) (h0 : 0 ≤ V) (h1 : V < 18446744073709551616) : IntKind.u64.wrap (wrap64 V) = V := by
  rw [wrap_u64, wrap64]
  omega
theorem body_vals (bs : List Int) (hl : bs.length = 64) (hb : Bytes bs) : body (vals bs) = bs := by
  unfold body vals
  rw [List.flatMap_map]
  have h : ∀ i ∈ List.range 8, be (IntKind.u64.wrap (wrap64 (numV ((bs.drop (8 * i)).take 8)))) 8 = (bs.drop (8 * i)).take 8 := by
    intro i hi
    have hi := List.mem_range.1 hi
    have h8 : ((bs.drop (8 * i)).take 8).length = 8 := by simp; omega
    have hbb : Bytes ((bs.drop (8 * i)).take 8) := (hb.drop _).take _
    have hv := valueV_range _ hbb
    rw [h8] at hv
    rw [numV_eq _ hbb (by omega), wrap_back _ hv.1 (by have := hv.2; omega), be_valueV 8 _ h8 hbb]
  have h2 : ((List.range 8).flatMap fun i => be (IntKind.u64.wrap (wrap64 (numV ((bs.drop (8 * i)).take 8)))) 8) = ((List.range 8).flatMap fun i => (bs.drop (8 * i)).take 8) := by
    rw [List.flatMap_def, List.flatMap_def, List.map_congr_left h]
  rw [h2, chunks, List.take_of_length_le (by omega)]

def encB (l : List Int) : List Int := if okL l = true then sealB (body l) else []
def encE (l : List Int) : Int := if okL l = true then 0 else 1
def Zs : List Int := [0, 0, 0, 0, 0, 0, 0, 0]
def decV (xs : List Int) : List Int := if xs.length = 66 ∧ goodB xs = true ∧ okL (vals (xs.take 64)) = true then vals (xs.take 64) else Zs
def decE (xs : List Int) : Int := if xs.length = 66 then if goodB xs = true then if okL (vals (xs.take 64)) = true then 0 else 2 else 3 else 2
theorem vals_length (bs : List Int) : (vals bs).length = 8 := by simp [vals]
theorem decV_length (xs : List Int) : (decV xs).length = 8 := by
  unfold decV
  split
  · exact vals_length _
  · rfl
theorem seal_length (l : List Int) : (sealB l).length = l.length + 2 := by simp [sealB]
theorem seal_good (l : List Int) : goodB (sealB l) = true := by
  rw [goodB, decide_eq_true_eq, seal_length]
  refine ⟨by omega, ?_⟩
  have : (sealB l).take (l.length + 2 - 2) = l := by simp [sealB]
  rw [this]
theorem seal_bytes (l : List Int) (h : Bytes l) : Bytes (sealB l) := by
  refine h.append ?_
  intro x hx
  simp only [List.mem_cons, List.not_mem_nil, or_false] at hx
  rcases hx with rfl | rfl <;> (rw [wrap_u8]; omega)
theorem body_bytes (l : List Int) : Bytes (body l) := by
  intro x hx
  obtain ⟨n, _, hn⟩ := List.mem_flatMap.1 hx
  exact be_bytes _ _ x hn
theorem enc_dec (l : List Int) (hl : l.length = 8) (ho : okL l = true) : decV (encB l) = l ∧ decE (encB l) = 0 := by
  have h1 : encB l = sealB (body l) := if_pos ho
  have h2 : (sealB (body l)).length = 66 := by rw [seal_length, body_length, hl]
  have h3 : (sealB (body l)).take 64 = body l := by
    have : (body l).length = 64 := by rw [body_length, hl]
    rw [sealB, List.take_left' this]
  have h4 : vals ((sealB (body l)).take 64) = l := by rw [h3, vals_body l hl ho]
  rw [h1, decV, decE, h4, if_pos ⟨h2, seal_good _, ho⟩, if_pos h2, if_pos (seal_good _), if_pos ho]
  exact ⟨rfl, rfl⟩
theorem dec_enc (xs : List Int) (hb : Bytes xs) (h : decE xs = 0) : encB (decV xs) = xs ∧ encE (decV xs) = 0 ∧ okL (decV xs) = true := by
  unfold decE at h
  split at h
  · rename_i h66
    split at h
    · rename_i hg
      split at h
      · rename_i ho
        have h1 : decV xs = vals (xs.take 64) := if_pos ⟨h66, hg, ho⟩
        have h2 : body (vals (xs.take 64)) = xs.take 64 := body_vals _ (by simp; omega) (hb.take _)
        have h3 := (of_decide_eq_true hg).2
        rw [h66] at h3
        rw [h1, encB, encE, if_pos ho, if_pos ho, h2]
        exact ⟨h3, rfl, ho⟩
      · cases h
    · cases h
  · cases h

end Go.Proofs.Ytbenghpodfkdcaa
