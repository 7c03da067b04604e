/- The contract of check.Open over this seat's translation. -/
import Derived.Test.YtbenghpodfkdcaaA4
namespace Go.Proofs.Ytbenghpodfkdcaa
open Go.RowKit

/-- Are bytes what was sealed? -/
def goodB (xs : List Int) : Bool := decide (2 ≤ xs.length ∧ sealB (xs.take (xs.length - 2)) = xs)

set_option maxHeartbeats 800000 in
theorem open_bad (v : Value) (n : Nat) (xs : List Int) (w : World) (h : Rc w v n 1 (nums .u8 xs)) (hn : n ≤ 999990) (hg : goodB xs = false) :
    Calls Try.prog 29 #[v] w fun e w' => e = .returned (.tuple #[.slice none 0 0, .bool false]) ∧ Kp No w w' := by
  have HX := Asd.mk h
  have hlen := h.length
  obtain ⟨A, c, rfl, hnc⟩ : ∃ A c, v = .slice A n c ∧ n ≤ c := by obtain ⟨_, A, c, h, h2, _⟩ := h; exact ⟨A, c, h, h2⟩
  clear h
  by_cases h2 : n < 2
  · clear hg
    have HL := Asd.mk hlen
    clear hlen
    go_enter Try.func29, Try.ntmps29
    go_wp2_with fail
    go_ret2
    exact ⟨rfl, Kp.refl _ _⟩
  · have hne : sealB (xs.take (n - 2)) ≠ xs := by
      intro h
      simp only [goodB, hlen] at hg
      simp [h] at hg
      omega
    have HNE := Asd.mk hne
    have HL := Asd.mk hlen
    clear hne hlen hg
    have d1 : decide ((n : Int) - 2 < 0) = false := by simp; omega
    obtain ⟨m, rfl⟩ : ∃ m, n = m + 2 := ⟨n - 2, by omega⟩
    have b1 : ((m + 2 : Nat) : Int) - 2 = (m : Int) := by omega
    go_enter Try.func29, Try.ntmps29
    go_wp2_with fail
    refine (seal_ok _ m (xs.take m) w (HX.out.take m (by omega)) (by omega)).mono ?_
    rintro e w1 ⟨v1, rfl, hk1, ho1⟩
    have HK1 := Asd.mk hk1
    have HO1 := Asd.mk ho1
    clear hk1 ho1
    obtain ⟨A1, c1, rfl⟩ := own_slice HO1.out
    go_wp2_with fail
    refine (equal_ok _ _ (m + 2) (m + 2) _ xs w1 (own_rc HO1.out) (HX.out.no HK1.out) (by omega) (by omega)).mono ?_
    rintro e w2 ⟨rfl, hk2⟩
    have hne2 : sealB (xs.take m) ≠ xs := HNE.out
    rw [decide_eq_false hne2]
    clear hne2
    have HK2 := Asd.mk hk2
    clear hk2
    go_wp2_with fail
    go_ret2
    exact ⟨rfl, HK1.out.then_ HK2.out⟩

set_option maxHeartbeats 800000 in
theorem open_good (v : Value) (n : Nat) (xs : List Int) (w : World) (h : Rc w v n 1 (nums .u8 xs)) (hn : n ≤ 999990) (hg : goodB xs = true) :
    Calls Try.prog 29 #[v] w fun e w' => ∃ v', e = .returned (.tuple #[v', .bool true]) ∧ Kp No w w' ∧ w'.ownsRow w.heap.size 5 1 v' (n - 2) (nums .u8 (xs.take (n - 2))) := by
  have HX := Asd.mk h
  have hlen := h.length
  obtain ⟨A, c, rfl, hnc⟩ : ∃ A c, v = .slice A n c ∧ n ≤ c := by obtain ⟨_, A, c, h, h2, _⟩ := h; exact ⟨A, c, h, h2⟩
  clear h
  simp only [goodB, hlen, decide_eq_true_eq] at hg
  obtain ⟨h2, he⟩ := hg
  obtain ⟨m, rfl⟩ : ∃ m, n = m + 2 := ⟨n - 2, by omega⟩
  have HE := Asd.mk he
  have HL := Asd.mk hlen
  clear he hlen
  have b1 : ((m + 2 : Nat) : Int) - 2 = (m : Int) := by omega
  go_enter Try.func29, Try.ntmps29
  go_wp2_with fail
  refine (seal_ok _ m (xs.take m) w (HX.out.take m (by omega)) (by omega)).mono ?_
  rintro e w1 ⟨v1, rfl, hk1, ho1⟩
  have HK1 := Asd.mk hk1
  have HO1 := Asd.mk ho1
  have hs1 : w.heap.size ≤ w1.heap.size := hk1.size
  clear hk1 ho1
  obtain ⟨A1, c1, rfl⟩ := own_slice HO1.out
  go_wp2_with fail
  refine (equal_ok _ _ (m + 2) (m + 2) _ xs w1 (own_rc HO1.out) (HX.out.no HK1.out) (by omega) (by omega)).mono ?_
  rintro e w2 ⟨rfl, hk2⟩
  have he2 : sealB (xs.take m) = xs := HE.out
  rw [decide_eq_true he2]
  clear he2
  have HK2 := Asd.mk (HK1.out.then_ hk2)
  have hs2 : w1.heap.size ≤ w2.heap.size := hk2.size
  clear hk2
  go_wp2_with fail
  refine (clone_bytes _ m (xs.take m) w2 ((HX.out.take m (by omega)).no HK2.out) (by omega)).mono ?_
  rintro e w3 ⟨v3, rfl, hk3, ho3⟩
  have HK3 := Asd.mk (HK2.out.then_ hk3)
  have HO3 := Asd.mk (own_low (b := w.heap.size) ho3 (by omega))
  clear hk3 ho3
  obtain ⟨A3, c3, rfl⟩ := own_slice HO3.out
  go_wp2_with fail
  go_ret2
  exact ⟨_, rfl, HK3.out, HO3.out⟩
end Go.Proofs.Ytbenghpodfkdcaa
