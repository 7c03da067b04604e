/- Contracts of cert.numbers, of, Right over this seat's translation. -/
import Derived.Test.YtbenghpodfkdcaaA7
namespace Go.Proofs.Ytbenghpodfkdcaa
open Go.RowKit

set_option maxHeartbeats 800000 in
theorem numbers_ok (a0 a1 a2 a3 a4 a5 a6 a7 : Int) (w : World) :
    Calls Try.prog 23 #[(.agg #[.int .i64 a0, .int .i64 a1, .int .i64 a2, .int .i64 a3, .int .i64 a4, .int .i64 a5, .int .i64 a6, .int .i64 a7])] w fun e w' => e = .returned (.agg #[.int .i64 a0, .int .i64 a1, .int .i64 a2, .int .i64 a3, .int .i64 a4, .int .i64 a5, .int .i64 a6, .int .i64 a7]) ∧ Kp No w w' := by
  go_enter Try.func23, Try.ntmps23
  go_wp2_with fail
  exact bodyPost_ret (v := (.agg #[.int .i64 a0, .int .i64 a1, .int .i64 a2, .int .i64 a3, .int .i64 a4, .int .i64 a5, .int .i64 a6, .int .i64 a7])) (by simp [results, Try.results23, go_sem]) rfl ⟨rfl, ((Kp.refl _ _).alloc _).alloc _⟩

set_option maxHeartbeats 800000 in
theorem of8_ok (a0 a1 a2 a3 a4 a5 a6 a7 : Int) (w : World) :
    Calls Try.prog 32 #[(.agg #[.int .i64 a0, .int .i64 a1, .int .i64 a2, .int .i64 a3, .int .i64 a4, .int .i64 a5, .int .i64 a6, .int .i64 a7])] w fun e w' => e = .returned (.agg #[.int .i64 a0, .int .i64 a1, .int .i64 a2, .int .i64 a3, .int .i64 a4, .int .i64 a5, .int .i64 a6, .int .i64 a7]) ∧ Kp No w w' := by
  go_enter Try.func32, Try.ntmps32
  go_wp2_with fail
  exact bodyPost_ret (v := (.agg #[.int .i64 a0, .int .i64 a1, .int .i64 a2, .int .i64 a3, .int .i64 a4, .int .i64 a5, .int .i64 a6, .int .i64 a7])) (by simp [results, Try.results32, go_sem]) rfl ⟨rfl, ((Kp.refl _ _).alloc _).alloc _⟩

theorem index_ok (a0 a1 a2 a3 a4 a5 a6 a7 : Int) (w : World) (k : Nat) (hk : k < 8) : (Instr.index 52 (.agg #[.int .i64 a0, .int .i64 a1, .int .i64 a2, .int .i64 a3, .int .i64 a4, .int .i64 a5, .int .i64 a6, .int .i64 a7]) (.int .i64 k)).run Try.prog w = .ok (.int .i64 ([a0, a1, a2, a3, a4, a5, a6, a7][k]?.getD 0)) w := by
  rcases (by omega : k = 0 ∨ k = 1 ∨ k = 2 ∨ k = 3 ∨ k = 4 ∨ k = 5 ∨ k = 6 ∨ k = 7) with rfl | rfl | rfl | rfl | rfl | rfl | rfl | rfl
  all_goals kernel_rfl

def okB (n : Int) : Bool := decide (0 ≤ n) && decide (n ≤ 4611686018427387904)
def okL (l : List Int) : Bool := l.all okB
def okN (n : Int) : Prop := 0 ≤ n ∧ n ≤ 4611686018427387904

theorem all_take_succ (l : List Int) (k : Nat) (hk : k < l.length) : okL (l.take (k + 1)) = (okL (l.take k) && okB (l[k]?.getD 0)) := by
  unfold okL
  rw [List.take_succ_eq_append_getElem hk, List.all_append]
  simp [hk]

theorem not_all (l : List Int) (k : Nat) (hk : k < l.length) (h : okB (l[k]?.getD 0) = false) : okL l = false := by
  unfold okL
  rw [List.all_eq_false]
  refine ⟨l[k], List.getElem_mem hk, ?_⟩
  rw [List.getElem?_eq_getElem hk] at h
  simpa using h

set_option maxHeartbeats 800000 in
theorem right_ok (a0 a1 a2 a3 a4 a5 a6 a7 : Int) (w : World) :
    Calls Try.prog 13 #[(.agg #[.int .i64 a0, .int .i64 a1, .int .i64 a2, .int .i64 a3, .int .i64 a4, .int .i64 a5, .int .i64 a6, .int .i64 a7])] w fun e w' => e = .returned (.bool (okL [a0, a1, a2, a3, a4, a5, a6, a7])) ∧ Kp No w w' := by
  have hl : [a0, a1, a2, a3, a4, a5, a6, a7].length = 8 := rfl
  go_enter Try.func13, Try.ntmps13
  go_wp2_with fail
  refine (numbers_ok a0 a1 a2 a3 a4 a5 a6 a7 _).mono ?_
  rintro e w1 ⟨rfl, hk1⟩
  have HK := Asd.mk (((Kp.refl No w).alloc _).then_ hk1)
  clear hk1
  go_wp2_with fail
  obtain ⟨l, hll⟩ : ∃ l, l = [a0, a1, a2, a3, a4, a5, a6, a7] := ⟨_, rfl⟩
  have hi : ∀ (w : World) (k : Nat), k < 8 → (Instr.index 52 (.agg #[.int .i64 a0, .int .i64 a1, .int .i64 a2, .int .i64 a3, .int .i64 a4, .int .i64 a5, .int .i64 a6, .int .i64 a7]) (.int .i64 k)).run Try.prog w = .ok (.int .i64 (l[k]?.getD 0)) w := by rw [hll]; exact index_ok a0 a1 a2 a3 a4 a5 a6 a7
  have HI := Asd.mk hi
  clear hi
  rw [← hll] at hl
  have HLL := Asd.mk hll
  have HL := Asd.mk hl
  clear hll hl
  go_loop [7] (fun i => ∃ k : Nat, k ≤ 8 ∧ i = .int .i64 k ∧ Asd (okL (l.take k) = true)) (fun i => 8 - (intOf i).toNat)
  case atStart => exact ⟨0, Nat.zero_le _, rfl, ⟨rfl⟩⟩
  case round =>
    obtain ⟨k, hk, rfl, HE⟩ := hrel
    by_cases hlt : k < 8
    · have hik := fun w => HI.out w k hlt
      have HT := Asd.mk (all_take_succ l k (by have := HL.out; omega))
      obtain ⟨x, hx⟩ : ∃ x, l[k]?.getD 0 = x := ⟨_, rfl⟩
      rw [hx] at HT hik
      have HX := Asd.mk hx
      clear hx
      by_cases hx1 : x < 0
      · have hf : okL l = false := not_all l k (by have := HL.out; omega) (by rw [HX.out, okB]; simp; omega)
        have HF := Asd.mk hf
        clear hf
        go_wp2
        go_ret
        refine ⟨?_, HK.out⟩
        show Ending.returned (Value.bool false) = _
        rw [← HLL.out, HF.out]
      · by_cases hx2 : 4611686018427387904 < x
        · have hf : okL l = false := not_all l k (by have := HL.out; omega) (by rw [HX.out, okB]; simp; omega)
          have HF := Asd.mk hf
          clear hf
          go_wp2
          go_ret
          refine ⟨?_, HK.out⟩
          show Ending.returned (Value.bool false) = _
          rw [← HLL.out, HF.out]
        · go_wp2
          go_round
          case rel => exact ⟨k + 1, by omega, by go_num, ⟨by rw [HT.out, HE.out, okB]; simp; omega⟩⟩
          case measure => simp [intOf]; omega
    · have hk8 : k = 8 := by omega
      subst hk8
      have hd : decide ((8 : Nat) < 8) = false := rfl
      go_wp2
      go_ret
      refine ⟨?_, HK.out⟩
      have h := HE.out
      rw [List.take_of_length_le (by have := HL.out; omega), HLL.out] at h
      show Ending.returned (Value.bool true) = _
      rw [h]

theorem list8 {α : Type} (l : List α) (h : l.length = 8) : ∃ b0 b1 b2 b3 b4 b5 b6 b7 : α, l = [b0, b1, b2, b3, b4, b5, b6, b7] := by
  match l, h with
  | [b0, b1, b2, b3, b4, b5, b6, b7], _ => exact ⟨_, _, _, _, _, _, _, _, rfl⟩
theorem rightL_ok (l : List Int) (hl : l.length = 8) (w : World) :
    Calls Try.prog 13 #[.agg (nums .i64 l).toArray] w fun e w' => e = .returned (.bool (okL l)) ∧ Kp No w w' := by
  obtain ⟨b0, b1, b2, b3, b4, b5, b6, b7, rfl⟩ := list8 l hl
  exact right_ok b0 b1 b2 b3 b4 b5 b6 b7 w
theorem of8L_ok (l : List Int) (hl : l.length = 8) (w : World) :
    Calls Try.prog 32 #[.agg (nums .i64 l).toArray] w fun e w' => e = .returned (.agg (nums .i64 l).toArray) ∧ Kp No w w' := by
  obtain ⟨b0, b1, b2, b3, b4, b5, b6, b7, rfl⟩ := list8 l hl
  exact of8_ok b0 b1 b2 b3 b4 b5 b6 b7 w
theorem numsOne (l : List Int) : ((nums .i64 l).toArray.all fun x => x.oneCell') = true := by
  rw [List.all_toArray, List.all_eq_true]
  exact fun u hu => nums_one _ _ u hu

end Go.Proofs.Ytbenghpodfkdcaa
