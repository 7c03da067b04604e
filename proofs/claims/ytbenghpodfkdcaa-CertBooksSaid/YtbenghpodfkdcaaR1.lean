/- Contracts of the references: may, Right, turn, Of, over this seat's translation. -/
import Derived.Test.YtbenghpodfkdcaaP1
import Derived.Test.YtbenghpodfkdcaaB4
namespace Go.Proofs.Ytbenghpodfkdcaa
open Go.RowKit

set_option maxHeartbeats 400000 in
theorem may_ok (n : Int) (w : World) : Calls Try.prog 21 #[.int .i64 n] w fun e w' => e = .returned (.bool (okB n)) ∧ w = w' := by
  by_cases h0 : 0 ≤ n
  · by_cases h1 : n ≤ 4611686018427387904
    · have H : Asd (okB n = true) := ⟨by simp [okB, h0, h1]⟩
      go_enter Try.func21, Try.ntmps21
      go_wp2
      go_ret
      exact ⟨by rw [H.out]; rfl, rfl⟩
    · have H : Asd (okB n = false) := ⟨by simp [okB]; omega⟩
      go_enter Try.func21, Try.ntmps21
      go_wp2
      go_ret
      exact ⟨by rw [H.out]; rfl, rfl⟩
  · have H : Asd (okB n = false) := ⟨by simp [okB]; omega⟩
    go_enter Try.func21, Try.ntmps21
    go_wp2
    go_ret
    exact ⟨by rw [H.out]; rfl, rfl⟩

theorem may_at (n : Int) (b : Bool) (h : Asd (okB n = b)) (w : World) : Calls Try.prog 21 #[.int .i64 n] w fun e w' => e = .returned (.bool b) ∧ w = w' := by
  rw [← h.out]
  exact may_ok n w

set_option maxHeartbeats 1600000 in
theorem refRight_ok (a0 a1 a2 a3 a4 a5 a6 a7 : Int) (w : World) :
    Calls Try.prog 7 #[(.agg #[.int .i64 a0, .int .i64 a1, .int .i64 a2, .int .i64 a3, .int .i64 a4, .int .i64 a5, .int .i64 a6, .int .i64 a7])] w fun e w' => e = .returned (.bool (okL [a0, a1, a2, a3, a4, a5, a6, a7])) ∧ Kp No w w' := by
  obtain ⟨t0, h0⟩ : ∃ t, okB a0 = t := ⟨_, rfl⟩
  obtain ⟨t1, h1⟩ : ∃ t, okB a1 = t := ⟨_, rfl⟩
  obtain ⟨t2, h2⟩ : ∃ t, okB a2 = t := ⟨_, rfl⟩
  obtain ⟨t3, h3⟩ : ∃ t, okB a3 = t := ⟨_, rfl⟩
  obtain ⟨t4, h4⟩ : ∃ t, okB a4 = t := ⟨_, rfl⟩
  obtain ⟨t5, h5⟩ : ∃ t, okB a5 = t := ⟨_, rfl⟩
  obtain ⟨t6, h6⟩ : ∃ t, okB a6 = t := ⟨_, rfl⟩
  obtain ⟨t7, h7⟩ : ∃ t, okB a7 = t := ⟨_, rfl⟩
  have HF : Asd (okL [a0, a1, a2, a3, a4, a5, a6, a7] = (t0 && (t1 && (t2 && (t3 && (t4 && (t5 && (t6 && t7)))))))) := ⟨by simp [okL, h0, h1, h2, h3, h4, h5, h6, h7]⟩
  have H0 := Asd.mk h0
  have H1 := Asd.mk h1
  have H2 := Asd.mk h2
  have H3 := Asd.mk h3
  have H4 := Asd.mk h4
  have H5 := Asd.mk h5
  have H6 := Asd.mk h6
  have H7 := Asd.mk h7
  clear h0 h1 h2 h3 h4 h5 h6 h7
  cases t0 with
  | false =>
    go_enter Try.func7, Try.ntmps7
    go_wp2_with fail
    refine (may_at a0 _ H0 _).mono ?_
    rintro e w' ⟨rfl, rfl⟩
    go_wp2_with fail
    go_ret
    exact ⟨by rw [HF.out]; rfl, (Kp.refl _ _).alloc _⟩
  | true =>
    cases t1 with
    | false =>
      go_enter Try.func7, Try.ntmps7
      go_wp2_with fail
      refine (may_at a0 _ H0 _).mono ?_
      rintro e w' ⟨rfl, rfl⟩
      go_wp2_with fail
      refine (may_at a1 _ H1 _).mono ?_
      rintro e w' ⟨rfl, rfl⟩
      go_wp2_with fail
      go_ret
      exact ⟨by rw [HF.out]; rfl, (Kp.refl _ _).alloc _⟩
    | true =>
      cases t2 with
      | false =>
        go_enter Try.func7, Try.ntmps7
        go_wp2_with fail
        refine (may_at a0 _ H0 _).mono ?_
        rintro e w' ⟨rfl, rfl⟩
        go_wp2_with fail
        refine (may_at a1 _ H1 _).mono ?_
        rintro e w' ⟨rfl, rfl⟩
        go_wp2_with fail
        refine (may_at a2 _ H2 _).mono ?_
        rintro e w' ⟨rfl, rfl⟩
        go_wp2_with fail
        go_ret
        exact ⟨by rw [HF.out]; rfl, (Kp.refl _ _).alloc _⟩
      | true =>
        cases t3 with
        | false =>
          go_enter Try.func7, Try.ntmps7
          go_wp2_with fail
          refine (may_at a0 _ H0 _).mono ?_
          rintro e w' ⟨rfl, rfl⟩
          go_wp2_with fail
          refine (may_at a1 _ H1 _).mono ?_
          rintro e w' ⟨rfl, rfl⟩
          go_wp2_with fail
          refine (may_at a2 _ H2 _).mono ?_
          rintro e w' ⟨rfl, rfl⟩
          go_wp2_with fail
          refine (may_at a3 _ H3 _).mono ?_
          rintro e w' ⟨rfl, rfl⟩
          go_wp2_with fail
          go_ret
          exact ⟨by rw [HF.out]; rfl, (Kp.refl _ _).alloc _⟩
        | true =>
          cases t4 with
          | false =>
            go_enter Try.func7, Try.ntmps7
            go_wp2_with fail
            refine (may_at a0 _ H0 _).mono ?_
            rintro e w' ⟨rfl, rfl⟩
            go_wp2_with fail
            refine (may_at a1 _ H1 _).mono ?_
            rintro e w' ⟨rfl, rfl⟩
            go_wp2_with fail
            refine (may_at a2 _ H2 _).mono ?_
            rintro e w' ⟨rfl, rfl⟩
            go_wp2_with fail
            refine (may_at a3 _ H3 _).mono ?_
            rintro e w' ⟨rfl, rfl⟩
            go_wp2_with fail
            refine (may_at a4 _ H4 _).mono ?_
            rintro e w' ⟨rfl, rfl⟩
            go_wp2_with fail
            go_ret
            exact ⟨by rw [HF.out]; rfl, (Kp.refl _ _).alloc _⟩
          | true =>
            cases t5 with
            | false =>
              go_enter Try.func7, Try.ntmps7
              go_wp2_with fail
              refine (may_at a0 _ H0 _).mono ?_
              rintro e w' ⟨rfl, rfl⟩
              go_wp2_with fail
              refine (may_at a1 _ H1 _).mono ?_
              rintro e w' ⟨rfl, rfl⟩
              go_wp2_with fail
              refine (may_at a2 _ H2 _).mono ?_
              rintro e w' ⟨rfl, rfl⟩
              go_wp2_with fail
              refine (may_at a3 _ H3 _).mono ?_
              rintro e w' ⟨rfl, rfl⟩
              go_wp2_with fail
              refine (may_at a4 _ H4 _).mono ?_
              rintro e w' ⟨rfl, rfl⟩
              go_wp2_with fail
              refine (may_at a5 _ H5 _).mono ?_
              rintro e w' ⟨rfl, rfl⟩
              go_wp2_with fail
              go_ret
              exact ⟨by rw [HF.out]; rfl, (Kp.refl _ _).alloc _⟩
            | true =>
              cases t6 with
              | false =>
                go_enter Try.func7, Try.ntmps7
                go_wp2_with fail
                refine (may_at a0 _ H0 _).mono ?_
                rintro e w' ⟨rfl, rfl⟩
                go_wp2_with fail
                refine (may_at a1 _ H1 _).mono ?_
                rintro e w' ⟨rfl, rfl⟩
                go_wp2_with fail
                refine (may_at a2 _ H2 _).mono ?_
                rintro e w' ⟨rfl, rfl⟩
                go_wp2_with fail
                refine (may_at a3 _ H3 _).mono ?_
                rintro e w' ⟨rfl, rfl⟩
                go_wp2_with fail
                refine (may_at a4 _ H4 _).mono ?_
                rintro e w' ⟨rfl, rfl⟩
                go_wp2_with fail
                refine (may_at a5 _ H5 _).mono ?_
                rintro e w' ⟨rfl, rfl⟩
                go_wp2_with fail
                refine (may_at a6 _ H6 _).mono ?_
                rintro e w' ⟨rfl, rfl⟩
                go_wp2_with fail
                go_ret
                exact ⟨by rw [HF.out]; rfl, (Kp.refl _ _).alloc _⟩
              | true =>
                cases t7 with
                | false =>
                  go_enter Try.func7, Try.ntmps7
                  go_wp2_with fail
                  refine (may_at a0 _ H0 _).mono ?_
                  rintro e w' ⟨rfl, rfl⟩
                  go_wp2_with fail
                  refine (may_at a1 _ H1 _).mono ?_
                  rintro e w' ⟨rfl, rfl⟩
                  go_wp2_with fail
                  refine (may_at a2 _ H2 _).mono ?_
                  rintro e w' ⟨rfl, rfl⟩
                  go_wp2_with fail
                  refine (may_at a3 _ H3 _).mono ?_
                  rintro e w' ⟨rfl, rfl⟩
                  go_wp2_with fail
                  refine (may_at a4 _ H4 _).mono ?_
                  rintro e w' ⟨rfl, rfl⟩
                  go_wp2_with fail
                  refine (may_at a5 _ H5 _).mono ?_
                  rintro e w' ⟨rfl, rfl⟩
                  go_wp2_with fail
                  refine (may_at a6 _ H6 _).mono ?_
                  rintro e w' ⟨rfl, rfl⟩
                  go_wp2_with fail
                  refine (may_at a7 _ H7 _).mono ?_
                  rintro e w' ⟨rfl, rfl⟩
                  go_wp2_with fail
                  go_ret
                  exact ⟨by rw [HF.out]; rfl, (Kp.refl _ _).alloc _⟩
                | true =>
                  go_enter Try.func7, Try.ntmps7
                  go_wp2_with fail
                  refine (may_at a0 _ H0 _).mono ?_
                  rintro e w' ⟨rfl, rfl⟩
                  go_wp2_with fail
                  refine (may_at a1 _ H1 _).mono ?_
                  rintro e w' ⟨rfl, rfl⟩
                  go_wp2_with fail
                  refine (may_at a2 _ H2 _).mono ?_
                  rintro e w' ⟨rfl, rfl⟩
                  go_wp2_with fail
                  refine (may_at a3 _ H3 _).mono ?_
                  rintro e w' ⟨rfl, rfl⟩
                  go_wp2_with fail
                  refine (may_at a4 _ H4 _).mono ?_
                  rintro e w' ⟨rfl, rfl⟩
                  go_wp2_with fail
                  refine (may_at a5 _ H5 _).mono ?_
                  rintro e w' ⟨rfl, rfl⟩
                  go_wp2_with fail
                  refine (may_at a6 _ H6 _).mono ?_
                  rintro e w' ⟨rfl, rfl⟩
                  go_wp2_with fail
                  refine (may_at a7 _ H7 _).mono ?_
                  rintro e w' ⟨rfl, rfl⟩
                  go_wp2_with fail
                  go_ret
                  exact ⟨by rw [HF.out]; rfl, (Kp.refl _ _).alloc _⟩

theorem list8_ok (l : List Int) (hl : l.length = 8) (w : World) :
    Calls Try.prog 7 #[.agg (nums .i64 l).toArray] w fun e w' => e = .returned (.bool (okL l)) ∧ Kp No w w' := by
  obtain ⟨b0, b1, b2, b3, b4, b5, b6, b7, rfl⟩ := list8 l hl
  exact refRight_ok b0 b1 b2 b3 b4 b5 b6 b7 w

end Go.Proofs.Ytbenghpodfkdcaa
