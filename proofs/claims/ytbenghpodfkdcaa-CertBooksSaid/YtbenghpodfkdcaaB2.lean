/- The contract of cert.Encode over this seat's translation. -/
import Derived.Test.YtbenghpodfkdcaaB1
namespace Go.Proofs.Ytbenghpodfkdcaa
open Go.RowKit

set_option maxHeartbeats 800000 in
theorem encode_bad (a0 a1 a2 a3 a4 a5 a6 a7 : Int) (w : World) (h : okL [a0, a1, a2, a3, a4, a5, a6, a7] = false) :
    Calls Try.prog 8 #[(.agg #[.int .i64 a0, .int .i64 a1, .int .i64 a2, .int .i64 a3, .int .i64 a4, .int .i64 a5, .int .i64 a6, .int .i64 a7])] w fun e w' => e = .returned (.tuple #[.slice none 0 0, .int .i64 1]) ∧ Kp No w w' := by
  have HO := Asd.mk h
  clear h
  go_enter Try.func8, Try.ntmps8
  go_wp2_with fail
  refine (right_ok a0 a1 a2 a3 a4 a5 a6 a7 _).mono ?_
  rintro e w1 ⟨rfl, hk1⟩
  rw [HO.out]
  have HK := Asd.mk (((Kp.refl No w).alloc _).then_ hk1)
  clear hk1
  go_wp2_with fail
  go_ret2
  exact ⟨rfl, HK.out⟩

/-- The bytes of numbers, eight of each. -/
def body (l : List Int) : List Int := l.flatMap fun n => be (IntKind.u64.wrap n) 8
theorem body_take_succ (l : List Int) (k : Nat) (hk : k < l.length) : body (l.take (k + 1)) = body (l.take k) ++ be (IntKind.u64.wrap (l[k]?.getD 0)) 8 := by
  unfold body
  rw [List.take_succ_eq_append_getElem hk, List.flatMap_append]
  simp [hk]
theorem body_length (l : List Int) : (body l).length = 8 * l.length := by
  induction l with
  | nil => rfl
  | cons x l ih => simp only [body, List.flatMap_cons, List.length_append, be_length] at ih ⊢; rw [ih]; simp; omega

theorem newWr (w : World) : IsWr (w.alloc (.cells #[.slice none 0 0, .int .i64 0] 75)) (Only w.heap.size) w.heap.size [] := by
  refine ⟨.slice none 0 0, blk_new _ _, World.ownsRow_nil _ _ _ _, rfl, ?_, ?_⟩
  · intro k h
    cases h
  · intro k h
    cases h
    simp
theorem cells8 (a0 a1 a2 a3 a4 a5 a6 a7 : Int) {w : World} {g : Nat} {t : TypeId} (h : w.heap[g]? = some (.cells #[.int .i64 a0, .int .i64 a1, .int .i64 a2, .int .i64 a3, .int .i64 a4, .int .i64 a5, .int .i64 a6, .int .i64 a7] t (0, 0))) :
    w.cell? ⟨g, 0, none⟩ = some (.int .i64 a0) ∧ w.cell? ⟨g, 1, none⟩ = some (.int .i64 a1) ∧ w.cell? ⟨g, 2, none⟩ = some (.int .i64 a2) ∧ w.cell? ⟨g, 3, none⟩ = some (.int .i64 a3) ∧
    w.cell? ⟨g, 4, none⟩ = some (.int .i64 a4) ∧ w.cell? ⟨g, 5, none⟩ = some (.int .i64 a5) ∧ w.cell? ⟨g, 6, none⟩ = some (.int .i64 a6) ∧ w.cell? ⟨g, 7, none⟩ = some (.int .i64 a7) :=
  ⟨(blk_cell h 0).trans rfl, (blk_cell h 1).trans rfl, (blk_cell h 2).trans rfl, (blk_cell h 3).trans rfl, (blk_cell h 4).trans rfl, (blk_cell h 5).trans rfl, (blk_cell h 6).trans rfl, (blk_cell h 7).trans rfl⟩

set_option maxHeartbeats 1600000 in
theorem encode_good (a0 a1 a2 a3 a4 a5 a6 a7 : Int) (w : World) (h : okL [a0, a1, a2, a3, a4, a5, a6, a7] = true) :
    Calls Try.prog 8 #[(.agg #[.int .i64 a0, .int .i64 a1, .int .i64 a2, .int .i64 a3, .int .i64 a4, .int .i64 a5, .int .i64 a6, .int .i64 a7])] w fun e w' => ∃ v', e = .returned (.tuple #[v', .int .i64 0]) ∧ Kp No w w' ∧ w'.ownsRow w.heap.size 5 1 v' 66 (nums .u8 (sealB (body [a0, a1, a2, a3, a4, a5, a6, a7]))) := by
  have HO := Asd.mk h
  clear h
  have hl : [a0, a1, a2, a3, a4, a5, a6, a7].length = 8 := rfl
  go_enter Try.func8, Try.ntmps8
  go_wp2_with fail
  refine (right_ok a0 a1 a2 a3 a4 a5 a6 a7 _).mono ?_
  rintro e w1 ⟨rfl, hk1⟩
  rw [HO.out]
  have HK := Asd.mk (((Kp.refl No w).alloc _).then_ hk1)
  have hb := hk1.blk (blk_new w _) (fun h => h)
  have hsz : w.heap.size < w1.heap.size := blk_lt hb
  obtain ⟨k0, k1, k2, k3, k4, k5, k6, k7⟩ := cells8 a0 a1 a2 a3 a4 a5 a6 a7 hb
  have hq := fun o => cells8 a0 a1 a2 a3 a4 a5 a6 a7 (blk_alloc hb o)
  have q0 := fun o => (hq o).1
  have q1 := fun o => (hq o).2.1
  have q2 := fun o => (hq o).2.2.1
  have q3 := fun o => (hq o).2.2.2.1
  have q4 := fun o => (hq o).2.2.2.2.1
  have q5 := fun o => (hq o).2.2.2.2.2.1
  have q6 := fun o => (hq o).2.2.2.2.2.2.1
  have q7 := fun o => (hq o).2.2.2.2.2.2.2
  clear hk1 hb hq
  go_wp2_with fail
  refine (newWriter_any _).mono ?_
  rintro e w2 ⟨rfl, rfl⟩
  go_wp2_with fail
  refine (numbers_ok a0 a1 a2 a3 a4 a5 a6 a7 _).mono ?_
  rintro e w2 ⟨rfl, hk2⟩
  have hs2 : w1.heap.size < w2.heap.size := by have := hk2.size; simp at this; omega
  have HW : Asd (IsWr w2 (Only w1.heap.size) w1.heap.size []) := ⟨(newWr w1).kept hk2 (fun _ _ h => h)⟩
  have HK2 := Asd.mk ((HK.out.alloc _).then_ hk2)
  clear hk2 k0 k1 k2 k3 k4 k5 k6 k7 q0 q1 q2 q3 q4 q5 q6 q7
  go_wp2_with fail
  obtain ⟨l, hll⟩ : ∃ l, l = [a0, a1, a2, a3, a4, a5, a6, a7] := ⟨_, rfl⟩
  have hi : ∀ (w : World) (k : Nat), k < 8 → (Instr.index 52 (.agg #[.int .i64 a0, .int .i64 a1, .int .i64 a2, .int .i64 a3, .int .i64 a4, .int .i64 a5, .int .i64 a6, .int .i64 a7]) (.int .i64 k)).run Try.prog w = .ok (.int .i64 (l[k]?.getD 0)) w := by rw [hll]; exact index_ok a0 a1 a2 a3 a4 a5 a6 a7
  have HI := Asd.mk hi
  clear hi
  rw [← hll] at hl
  have HLL := Asd.mk hll
  have HL := Asd.mk hl
  clear hll hl
  go_loopw [15] (fun i wr => ∃ k : Nat, k ≤ 8 ∧ i = .int .i64 k ∧ Asd (Wrote (Only w1.heap.size) w1.heap.size (body (l.take k)) w2 wr)) (fun i _ => 8 - (intOf i).toNat)
  case atStart => exact ⟨0, Nat.zero_le _, rfl, ⟨Upd.same HW.out⟩⟩
  case round =>
    obtain ⟨k, hk, rfl, HR⟩ := hrel
    by_cases hlt : k < 8
    · have hik := fun w => HI.out w k hlt
      have HT := Asd.mk (body_take_succ l k (by have := HL.out; omega))
      have HBL : Asd ((body (l.take k)).length ≤ 1000000) := ⟨by rw [body_length]; simp; omega⟩
      obtain ⟨x, hx⟩ : ∃ x, l[k]?.getD 0 = x := ⟨_, rfl⟩
      rw [hx] at HT hik
      clear hx
      obtain ⟨S1, hw1, hS1⟩ := HR.out.2
      have HW1 := Asd.mk hw1
      have HS1 := Asd.mk hS1
      clear hw1 hS1
      go_wp2_with fail
      refine (int_ok S1 _ _ x wr HW1.out HBL.out).mono ?_
      rintro e w3 ⟨rfl, hw3⟩
      have HW3 := Asd.mk hw3
      clear hw3
      go_wp2_with fail
      go_roundw
      case rel => exact ⟨k + 1, by omega, by go_num, ⟨by rw [HT.out]; exact Upd.trans (Q1 := fun T => T = S1) ⟨HR.out.1, S1, rfl, HS1.out⟩ (by rintro _ rfl; exact HW3.out)⟩⟩
      case measure => simp [intOf]; omega
    · have hk8 : k = 8 := by omega
      subst hk8
      have hd : decide ((8 : Nat) < 8) = false := rfl
      obtain ⟨S1, hw1, hS1⟩ := HR.out.2
      have HW1 := Asd.mk hw1
      have HKr : Asd (Kp No w wr) := ⟨HK2.out.trans HR.out.1 (fun k h => by cases h; right; omega)⟩
      have hsr : w.heap.size ≤ wr.heap.size := HKr.out.size
      clear hw1 hS1
      have HBL : Asd ((body (l.take 8)).length = 64) := ⟨by rw [body_length]; simp; have := HL.out; omega⟩
      have HLT : Asd (l.take 8 = [a0, a1, a2, a3, a4, a5, a6, a7]) := ⟨by rw [List.take_of_length_le (by have := HL.out; omega), HLL.out]⟩
      go_wp2_with fail
      refine (done_ok S1 _ _ wr HW1.out (by have := HBL.out; omega)).mono ?_
      rintro e w3 ⟨v3, rfl, hk3, ho3⟩
      have HK3 := Asd.mk (HKr.out.then_ hk3)
      have hs3 : wr.heap.size ≤ w3.heap.size := hk3.size
      have HO3 := Asd.mk ho3
      clear hk3 ho3
      obtain ⟨A3, c3, rfl⟩ := own_slice HO3.out
      go_wp2_with fail
      refine (seal_ok _ _ _ w3 (own_rc HO3.out) (by have := HBL.out; omega)).mono ?_
      rintro e w4 ⟨v4, rfl, hk4, ho4⟩
      have HK4 := Asd.mk (HK3.out.then_ hk4)
      have HO4 : Asd (w4.ownsRow w.heap.size 5 1 v4 66 (nums .u8 (sealB (body [a0, a1, a2, a3, a4, a5, a6, a7])))) := ⟨by rw [HBL.out, HLT.out] at ho4; exact own_low ho4 (by omega)⟩
      clear hk4 ho4
      obtain ⟨A4, c4, rfl⟩ := own_slice HO4.out
      go_wp2_with fail
      go_ret2
      exact ⟨_, rfl, HK4.out, HO4.out⟩

theorem encodeL_bad (l : List Int) (hl : l.length = 8) (w : World) (h : okL l = false) :
    Calls Try.prog 8 #[.agg (nums .i64 l).toArray] w fun e w' => e = .returned (.tuple #[.slice none 0 0, .int .i64 1]) ∧ Kp No w w' := by
  obtain ⟨b0, b1, b2, b3, b4, b5, b6, b7, rfl⟩ := list8 l hl
  exact encode_bad b0 b1 b2 b3 b4 b5 b6 b7 w h
theorem encodeL_good (l : List Int) (hl : l.length = 8) (w : World) (h : okL l = true) :
    Calls Try.prog 8 #[.agg (nums .i64 l).toArray] w fun e w' => ∃ v', e = .returned (.tuple #[v', .int .i64 0]) ∧ Kp No w w' ∧ w'.ownsRow w.heap.size 5 1 v' 66 (nums .u8 (sealB (body l))) := by
  obtain ⟨b0, b1, b2, b3, b4, b5, b6, b7, rfl⟩ := list8 l hl
  exact encode_good b0 b1 b2 b3 b4 b5 b6 b7 w h

end Go.Proofs.Ytbenghpodfkdcaa
