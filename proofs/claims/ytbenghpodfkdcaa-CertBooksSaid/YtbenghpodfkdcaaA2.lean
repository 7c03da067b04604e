/- Contracts of slices.Clone and Writer.Int, Done over this seat's translation. -/
import Derived.Test.YtbenghpodfkdcaaA1
namespace Go.Proofs.Ytbenghpodfkdcaa
open Go.RowKit

set_option maxHeartbeats 400000 in
theorem int_ok (S : Nat → Prop) (g : Nat) (bs : List Int) (n : Int) (w : World) (hw : IsWr w S g bs) (hbs : bs.length ≤ 1000000) :
    Calls Try.prog 24 #[.pointer (some ⟨g, 0, none⟩), .int .i64 n] w fun e w' => e = .returned (.tuple #[]) ∧ Wrote S g (bs ++ be (IntKind.u64.wrap n) 8) w w' := by
  have HW := Asd.mk hw
  clear hw
  have h0 : 0 ≤ IntKind.u64.wrap n := by simp [IntKind.wrap, IntKind.bits, IntKind.signed]; omega
  go_enter Try.func24, Try.ntmps24
  go_wp2_with fail
  refine (num_ok S g bs _ 8 w HW.out (by decide) (by decide) h0 (.inr rfl) hbs).mono ?_
  rintro e w' ⟨rfl, h⟩
  have H := Asd.mk h
  clear h
  go_wp2
  go_end0
  exact ⟨rfl, H.out⟩

theorem nil24 (w : World) (a : Option Addr) (n c n' c' : Nat) : (binOp .eql 24 (.slice a n c) (.slice none n' c')).run Try.prog w = .ok (.bool a.isNone) w :=
  Lib.run_eql_slice_nil w _ _ a n c n' c' Try.underlying24

set_option maxHeartbeats 400000 in
theorem clone_bytes (v : Value) (n : Nat) (xs : List Int) (w : World) (h : Rc w v n 1 (nums .u8 xs)) (hn : n ≤ 1000000) :
    Calls Try.prog 38 #[v] w fun e w' => ∃ v', e = .returned v' ∧ Kp No w w' ∧ w'.ownsRow w.heap.size 5 1 v' n (nums .u8 xs) := by
  have h0 := h
  have q := nil24
  obtain ⟨h1, A, c, rfl, h2, h3, h4⟩ := h
  cases A with
  | none =>
    obtain ⟨rfl, rfl⟩ := h3 rfl
    have hx : xs = [] := List.eq_nil_of_length_eq_zero (by rw [nums_length] at h1; omega)
    subst hx
    clear h1 h3 h4 h0 hn
    go_enter Try.func38, Try.ntmps38
    go_wp2
    go_ret
    exact ⟨_, rfl, Kp.refl _ _, World.ownsRow_nil _ _ _ _⟩
  | some ad =>
    have HR := Asd.mk h0
    clear h1 h3 h4 h0
    go_enter Try.func38, Try.ntmps38
    go_wp2_with (at_builtin; refine wp_append_rc rfl (.tmp 5) (.tmp 6) 24 5 (.int .u8 0) 1 1 rfl Try.underlying24 info5 rfl (by decide) (by decide) w.heap.size (.slice (some ⟨w.heap.size, 0, none⟩) 0 0) 0 [] n (some ad) c (nums .u8 xs) rfl rfl (HR.out.no ((Kp.refl _ _).alloc _)) (nums_one _ _) (World.ownsRow_made w #[] 0 (Nat.le_refl _) (by decide) rfl) (by simp) (by omega) ?_; intro v1 w1 ho1 hg1 hat1 hsh1; obtain ⟨A1, c1, rfl⟩ := hsh1; have HO1 := Asd.mk ho1; have HG1 := Asd.mk hg1; clear ho1 hg1 hat1)
    go_ret
    refine ⟨_, rfl, ((Kp.refl No w).alloc _).grown HG1.out (fun k hk => ?_), ?_⟩
    · cases hk
      exact .inr (Nat.le_refl _)
    · have h := HO1.out
      rw [Nat.zero_add] at h
      exact h
end Go.Proofs.Ytbenghpodfkdcaa
