/- Contracts of package octets' reader over this seat's translation, 2. -/
import Derived.Test.YtbenghpodfkdcaaA6
namespace Go.Proofs.Ytbenghpodfkdcaa
open Go.RowKit

/-- The number of bytes, as the code has it. -/
def numV (l : List Int) : Int := l.foldl (fun o c => Go.bits .or .u64 (IntKind.u64.wrap (o * 256)) (IntKind.u64.wrap c)) 0
theorem numV_take_succ (l : List Int) (k : Nat) (h : k < l.length) : numV (l.take (k + 1)) = Go.bits .or .u64 (IntKind.u64.wrap (numV (l.take k) * 256)) (IntKind.u64.wrap (l[k]?.getD 0)) := by
  unfold numV
  rw [List.take_succ_eq_append_getElem h, List.foldl_append]
  simp [h]

set_option maxHeartbeats 800000 in
theorem rnum_at (S : Nat → Prop) (g : Nat) (bs l : List Int) (n : Nat) (w : World) (hl : l = bs.take n) (hw : IsRd w S g bs 0) (hn : n ≤ bs.length) (h1 : 1 ≤ n) (h8 : n ≤ 8) (hbs : bs.length ≤ 1000000) :
    Calls Try.prog 43 #[.pointer (some ⟨g, 0, none⟩), .int .i64 n] w fun e w' => e = .returned (.int .u64 (numV l)) ∧ Kp (Only g) w w' ∧ IsRd w' S g (bs.drop n) 0 := by
  have HW := Asd.mk hw
  have HLA : Asd (n = l.length) := ⟨by rw [hl]; simp; omega⟩
  have HLL := Asd.mk hl
  clear hw hl
  have d1 : decide ((n : Int) < 1) = false := by simp; omega
  have d2 : decide (8 < (n : Int)) = false := by simp; omega
  go_enter Try.func43, Try.ntmps43
  go_wp2_with fail
  refine (take_ok S g bs n w HW.out hn hbs).mono ?_
  rintro e w1 ⟨v1, rfl, hk1, ho1, hr1⟩
  have HK := Asd.mk hk1
  have HR := Asd.mk hr1
  have HC := Asd.mk (own_rc ho1)
  obtain ⟨A1, n1, rfl⟩ := own_slice ho1
  clear hk1 ho1 hr1
  rw [← HLL.out] at HC
  go_wp2_with fail
  go_loop [5, 24] (fun s i => ∃ k : Nat, k ≤ n ∧ i = .int .i64 k ∧ s = .int .u64 (numV (l.take k))) (fun _ i => n - (intOf i).toNat)
  case atStart => exact ⟨0, Nat.zero_le _, rfl, rfl⟩
  case round =>
    obtain ⟨k, hk, rfl, rfl⟩ := hrel
    by_cases hlt : k < n
    · cases A1 with
      | none => obtain ⟨_, _, _, h, _, h2, _⟩ := HC.out; cases h; have := h2 rfl; omega
      | some ad =>
        have hc := HC.out.num_at k hlt
        have HN := Asd.mk (numV_take_succ l k (by have := HLA.out; omega))
        obtain ⟨y, hy⟩ : ∃ y, y = numV (l.take k) := ⟨_, rfl⟩
        rw [← hy] at HN ⊢
        clear hy
        go_wp2
        go_round
        case rel => exact ⟨k + 1, by omega, by go_num, by rw [HN.out]⟩
        case measure => simp [intOf]; omega
    · have hd : decide (k < n) = false := by simpa using hlt
      go_wp2
      go_ret
      refine ⟨?_, HK.out, HR.out⟩
      rw [List.take_of_length_le (by have := HLA.out; omega)]
      rfl

theorem rnum_ok (S : Nat → Prop) (g : Nat) (bs : List Int) (n : Nat) (w : World) (hw : IsRd w S g bs 0) (hn : n ≤ bs.length) (h1 : 1 ≤ n) (h8 : n ≤ 8) (hbs : bs.length ≤ 1000000) :
    Calls Try.prog 43 #[.pointer (some ⟨g, 0, none⟩), .int .i64 n] w fun e w' => e = .returned (.int .u64 (numV (bs.take n))) ∧ Kp (Only g) w w' ∧ IsRd w' S g (bs.drop n) 0 :=
  rnum_at S g bs (bs.take n) n w rfl hw hn h1 h8 hbs

set_option maxHeartbeats 800000 in
theorem rint_ok (S : Nat → Prop) (g : Nat) (bs : List Int) (w : World) (hw : IsRd w S g bs 0) (hn : 8 ≤ bs.length) (hbs : bs.length ≤ 1000000) :
    Calls Try.prog 31 #[.pointer (some ⟨g, 0, none⟩)] w fun e w' => e = .returned (.int .i64 (wrap64 (numV (bs.take 8)))) ∧ Kp (Only g) w w' ∧ IsRd w' S g (bs.drop 8) 0 := by
  have HW := Asd.mk hw
  clear hw
  go_enter Try.func31, Try.ntmps31
  go_wp2_with fail
  refine (rnum_ok S g bs 8 w HW.out hn (by decide) (by decide) hbs).mono ?_
  rintro e w1 ⟨rfl, hk1, hr1⟩
  have HK := Asd.mk hk1
  have HR := Asd.mk hr1
  clear hk1 hr1
  go_wp2_with fail
  go_ret
  exact ⟨rfl, HK.out, HR.out⟩

set_option maxHeartbeats 800000 in
theorem left_ok (S : Nat → Prop) (g : Nat) (bs : List Int) (w : World) (hw : IsRd w S g bs 0) (hbs : bs.length ≤ 1000000) :
    Calls Try.prog 44 #[.pointer (some ⟨g, 0, none⟩)] w fun e w' => e = .returned (.int .i64 bs.length) ∧ w = w' := by
  obtain ⟨v, hg, ho, _, _, _⟩ := hw
  have c0 : w.cell? ⟨g, 0, none⟩ = some v := (blk_cell hg 0).trans rfl
  have c1 : w.cell? ⟨g, 1, none⟩ = some (.int .i64 0) := (blk_cell hg 1).trans rfl
  obtain ⟨A, c, rfl, hnc⟩ : ∃ A c, v = .slice A bs.length c ∧ bs.length ≤ c := by obtain ⟨_, A, c, h, h2, _⟩ := ho; exact ⟨A, c, h, h2⟩
  clear hg ho
  go_enter Try.func44, Try.ntmps44
  go_wp2_with fail
  go_ret
  exact ⟨rfl, rfl⟩

set_option maxHeartbeats 800000 in
theorem rdone_ok (S : Nat → Prop) (g : Nat) (w : World) (hw : IsRd w S g [] 0) :
    Calls Try.prog 33 #[.pointer (some ⟨g, 0, none⟩)] w fun e w' => e = .returned (.int .i64 0) ∧ w = w' := by
  have HW := Asd.mk hw
  obtain ⟨v, hg, ho, _, _, _⟩ := hw
  have c1 : w.cell? ⟨g, 1, none⟩ = some (.int .i64 0) := (blk_cell hg 1).trans rfl
  clear hg ho
  go_enter Try.func33, Try.ntmps33
  go_wp2_with fail
  refine (left_ok S g [] w HW.out (by decide)).mono ?_
  rintro e w1 ⟨rfl, rfl⟩
  go_wp2_with fail
  go_ret
  exact ⟨rfl, rfl⟩
end Go.Proofs.Ytbenghpodfkdcaa
