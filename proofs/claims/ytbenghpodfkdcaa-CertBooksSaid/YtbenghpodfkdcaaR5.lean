/- Contracts of the references: cert's Encode, Decode, over this seat's translation. -/
import Derived.Test.YtbenghpodfkdcaaR4
namespace Go.Proofs.Ytbenghpodfkdcaa
open Go.RowKit

set_option maxHeartbeats 800000 in
theorem refEncode_bad (a0 a1 a2 a3 a4 a5 a6 a7 : Int) (w : World) (h : okL [a0, a1, a2, a3, a4, a5, a6, a7] = false) :
    Calls Try.prog 9 #[(.agg #[.int .i64 a0, .int .i64 a1, .int .i64 a2, .int .i64 a3, .int .i64 a4, .int .i64 a5, .int .i64 a6, .int .i64 a7])] w fun e w' => e = .returned (.tuple #[.slice none 0 0, .int .i64 1]) ∧ Kp No w w' := by
  have HO := Asd.mk h
  clear h
  go_enter Try.func9, Try.ntmps9
  go_wp2_with fail
  refine (refRight_ok a0 a1 a2 a3 a4 a5 a6 a7 _).mono ?_
  rintro e w1 ⟨rfl, hk1⟩
  rw [HO.out]
  have HK := Asd.mk (((Kp.refl No w).alloc _).then_ hk1)
  clear hk1
  go_wp2_with fail
  go_ret2
  exact ⟨rfl, HK.out⟩

/-- The reference's Encode in its middle. -/
def InEnc (w : World) (cs : Array Value) (g : Nat) (wk : World) (bs : List Int) : Prop :=
  Kp No w wk ∧ wk.heap[w.heap.size]? = some (.cells cs 23 (0, 0)) ∧ ∃ S, IsW2 wk S g bs ∧ ∀ k, S k → w.heap.size < k
theorem InEnc.step {w : World} {cs : Array Value} {g : Nat} {wk w1 : World} {bs' : List Int} {S : Nat → Prop} (h : Kp No w wk) (hb : wk.heap[w.heap.size]? = some (.cells cs 23 (0, 0)))
    (hS : ∀ k, S k → w.heap.size < k) (hw : Wrote2 S g bs' wk w1) : InEnc w cs g w1 bs' := by
  obtain ⟨hk, S', hw', hs'⟩ := hw
  refine ⟨h.trans hk (fun k hk => .inr (Nat.le_of_lt (hS k hk))), hk.blk hb (fun h => by have := hS _ h; omega), S', hw', fun k hk => ?_⟩
  rcases hs' k hk with h | h
  · exact hS k h
  · have := blk_lt hb
    omega

set_option maxHeartbeats 1600000 in
theorem refEncode_good (a0 a1 a2 a3 a4 a5 a6 a7 : Int) (w : World) (h : okL [a0, a1, a2, a3, a4, a5, a6, a7] = true) :
    Calls Try.prog 9 #[(.agg #[.int .i64 a0, .int .i64 a1, .int .i64 a2, .int .i64 a3, .int .i64 a4, .int .i64 a5, .int .i64 a6, .int .i64 a7])] w fun e w' => ∃ v', e = .returned (.tuple #[v', .int .i64 0]) ∧ Kp No w w' ∧ w'.ownsRow w.heap.size 5 1 v' 66 (nums .u8 (sealB (body [a0, a1, a2, a3, a4, a5, a6, a7]))) := by
  have HO := Asd.mk h
  clear h
  go_enter Try.func9, Try.ntmps9
  go_wp2_with fail
  refine (refRight_ok a0 a1 a2 a3 a4 a5 a6 a7 _).mono ?_
  rintro e w1 ⟨rfl, hk1⟩
  rw [HO.out]
  have hb1 := hk1.blk (blk_new w _) (fun h => h)
  have hs1 : w.heap.size < w1.heap.size := blk_lt hb1
  have hst : InEnc w #[.int .i64 a0, .int .i64 a1, .int .i64 a2, .int .i64 a3, .int .i64 a4, .int .i64 a5, .int .i64 a6, .int .i64 a7] w1.heap.size (w1.alloc (.cells #[.slice none 0 0, .int .i64 0] 59)) [] := by
    refine ⟨(((Kp.refl No w).alloc _).then_ hk1).alloc _, blk_alloc hb1 _, Only w1.heap.size, ⟨.slice none 0 0, blk_new _ _, World.ownsRow_nil _ _ _ _, rfl, ?_, ?_⟩, ?_⟩
    · intro k h
      cases h
    · intro k h
      cases h
      simp
    · intro k h
      cases h
      exact hs1
  have hq := cells8 a0 a1 a2 a3 a4 a5 a6 a7 (blk_alloc hb1 (.cells #[.slice none 0 0, .int .i64 0] 59))
  have q0 := hq.1
  clear hq hk1 hb1
  have HST0 := Asd.mk hst
  clear hst
  go_wp2_with fail
  obtain ⟨hka, hba, S0, hwa, hsa⟩ := HST0.out
  have HKA := Asd.mk hka
  have HBA := Asd.mk hba
  have HSA := Asd.mk hsa
  have HWA := Asd.mk hwa
  clear hka hba hsa hwa q0
  refine (w2int_ok S0 w1.heap.size _ a0 _ HWA.out (by simp only [List.length_append, be_length, List.length_nil]; omega)).mono ?_
  rintro e w2 ⟨rfl, hw2⟩
  have HST1 := Asd.mk (InEnc.step HKA.out HBA.out HSA.out hw2)
  clear hw2 HST0 HKA HBA HSA HWA S0
  have q1 : w2.cell? ⟨w.heap.size, 1, none⟩ = some (.int .i64 a1) := (blk_cell HST1.out.2.1 1).trans rfl
  go_wp2_with fail
  obtain ⟨hka, hba, S1, hwa, hsa⟩ := HST1.out
  have HKA := Asd.mk hka
  have HBA := Asd.mk hba
  have HSA := Asd.mk hsa
  have HWA := Asd.mk hwa
  clear hka hba hsa hwa q1
  refine (w2int_ok S1 w1.heap.size _ a1 _ HWA.out (by simp only [List.length_append, be_length, List.length_nil]; omega)).mono ?_
  rintro e w3 ⟨rfl, hw3⟩
  have HST2 := Asd.mk (InEnc.step HKA.out HBA.out HSA.out hw3)
  clear hw3 HST1 HKA HBA HSA HWA S1
  have q2 : w3.cell? ⟨w.heap.size, 2, none⟩ = some (.int .i64 a2) := (blk_cell HST2.out.2.1 2).trans rfl
  go_wp2_with fail
  obtain ⟨hka, hba, S2, hwa, hsa⟩ := HST2.out
  have HKA := Asd.mk hka
  have HBA := Asd.mk hba
  have HSA := Asd.mk hsa
  have HWA := Asd.mk hwa
  clear hka hba hsa hwa q2
  refine (w2int_ok S2 w1.heap.size _ a2 _ HWA.out (by simp only [List.length_append, be_length, List.length_nil]; omega)).mono ?_
  rintro e w4 ⟨rfl, hw4⟩
  have HST3 := Asd.mk (InEnc.step HKA.out HBA.out HSA.out hw4)
  clear hw4 HST2 HKA HBA HSA HWA S2
  have q3 : w4.cell? ⟨w.heap.size, 3, none⟩ = some (.int .i64 a3) := (blk_cell HST3.out.2.1 3).trans rfl
  go_wp2_with fail
  obtain ⟨hka, hba, S3, hwa, hsa⟩ := HST3.out
  have HKA := Asd.mk hka
  have HBA := Asd.mk hba
  have HSA := Asd.mk hsa
  have HWA := Asd.mk hwa
  clear hka hba hsa hwa q3
  refine (w2int_ok S3 w1.heap.size _ a3 _ HWA.out (by simp only [List.length_append, be_length, List.length_nil]; omega)).mono ?_
  rintro e w5 ⟨rfl, hw5⟩
  have HST4 := Asd.mk (InEnc.step HKA.out HBA.out HSA.out hw5)
  clear hw5 HST3 HKA HBA HSA HWA S3
  have q4 : w5.cell? ⟨w.heap.size, 4, none⟩ = some (.int .i64 a4) := (blk_cell HST4.out.2.1 4).trans rfl
  go_wp2_with fail
  obtain ⟨hka, hba, S4, hwa, hsa⟩ := HST4.out
  have HKA := Asd.mk hka
  have HBA := Asd.mk hba
  have HSA := Asd.mk hsa
  have HWA := Asd.mk hwa
  clear hka hba hsa hwa q4
  refine (w2int_ok S4 w1.heap.size _ a4 _ HWA.out (by simp only [List.length_append, be_length, List.length_nil]; omega)).mono ?_
  rintro e w6 ⟨rfl, hw6⟩
  have HST5 := Asd.mk (InEnc.step HKA.out HBA.out HSA.out hw6)
  clear hw6 HST4 HKA HBA HSA HWA S4
  have q5 : w6.cell? ⟨w.heap.size, 5, none⟩ = some (.int .i64 a5) := (blk_cell HST5.out.2.1 5).trans rfl
  go_wp2_with fail
  obtain ⟨hka, hba, S5, hwa, hsa⟩ := HST5.out
  have HKA := Asd.mk hka
  have HBA := Asd.mk hba
  have HSA := Asd.mk hsa
  have HWA := Asd.mk hwa
  clear hka hba hsa hwa q5
  refine (w2int_ok S5 w1.heap.size _ a5 _ HWA.out (by simp only [List.length_append, be_length, List.length_nil]; omega)).mono ?_
  rintro e w7 ⟨rfl, hw7⟩
  have HST6 := Asd.mk (InEnc.step HKA.out HBA.out HSA.out hw7)
  clear hw7 HST5 HKA HBA HSA HWA S5
  have q6 : w7.cell? ⟨w.heap.size, 6, none⟩ = some (.int .i64 a6) := (blk_cell HST6.out.2.1 6).trans rfl
  go_wp2_with fail
  obtain ⟨hka, hba, S6, hwa, hsa⟩ := HST6.out
  have HKA := Asd.mk hka
  have HBA := Asd.mk hba
  have HSA := Asd.mk hsa
  have HWA := Asd.mk hwa
  clear hka hba hsa hwa q6
  refine (w2int_ok S6 w1.heap.size _ a6 _ HWA.out (by simp only [List.length_append, be_length, List.length_nil]; omega)).mono ?_
  rintro e w8 ⟨rfl, hw8⟩
  have HST7 := Asd.mk (InEnc.step HKA.out HBA.out HSA.out hw8)
  clear hw8 HST6 HKA HBA HSA HWA S6
  have q7 : w8.cell? ⟨w.heap.size, 7, none⟩ = some (.int .i64 a7) := (blk_cell HST7.out.2.1 7).trans rfl
  go_wp2_with fail
  obtain ⟨hka, hba, S7, hwa, hsa⟩ := HST7.out
  have HKA := Asd.mk hka
  have HBA := Asd.mk hba
  have HSA := Asd.mk hsa
  have HWA := Asd.mk hwa
  clear hka hba hsa hwa q7
  refine (w2int_ok S7 w1.heap.size _ a7 _ HWA.out (by simp only [List.length_append, be_length, List.length_nil]; omega)).mono ?_
  rintro e w9 ⟨rfl, hw9⟩
  have HST8 := Asd.mk (InEnc.step HKA.out HBA.out HSA.out hw9)
  clear hw9 HST7 HKA HBA HSA HWA S7
  obtain ⟨hka, hba, S, ⟨v, hg, ho, _, _, _⟩, hsa⟩ := HST8.out
  have c0 : w9.cell? ⟨w1.heap.size, 0, none⟩ = some v := (blk_cell hg 0).trans rfl
  have HKA := Asd.mk hka
  have HBD : Asd ([] ++ be (IntKind.u64.wrap a0) 8 ++ be (IntKind.u64.wrap a1) 8 ++ be (IntKind.u64.wrap a2) 8 ++ be (IntKind.u64.wrap a3) 8 ++ be (IntKind.u64.wrap a4) 8 ++ be (IntKind.u64.wrap a5) 8 ++ be (IntKind.u64.wrap a6) 8 ++ be (IntKind.u64.wrap a7) 8 = body [a0, a1, a2, a3, a4, a5, a6, a7]) := ⟨by simp [body]⟩
  rw [HBD.out] at ho
  have hbl : (body [a0, a1, a2, a3, a4, a5, a6, a7]).length = 64 := by rw [body_length]; rfl
  rw [hbl] at ho
  have HBB : Asd (Bytes (body [a0, a1, a2, a3, a4, a5, a6, a7])) := ⟨by
    intro x hx
    simp only [body, List.mem_flatMap] at hx
    obtain ⟨n, _, hx⟩ := hx
    exact be_bytes _ _ x hx⟩
  have HO9 := Asd.mk (own_rc ho)
  obtain ⟨A9, c9, rfl⟩ := own_slice ho
  have hs9 : w.heap.size ≤ w9.heap.size := hka.size
  clear hka hba hg ho hsa hbl HST8
  go_wp2_with fail
  refine (refSeal_ok _ 64 _ w9 HO9.out HBB.out (by decide)).mono ?_
  rintro e wz ⟨vz, rfl, hkz, hoz⟩
  have HKZ := Asd.mk (HKA.out.then_ hkz)
  have HOZ := Asd.mk (own_low hoz hs9)
  clear hkz hoz
  obtain ⟨Az, cz, rfl⟩ := own_slice HOZ.out
  go_wp2_with fail
  go_ret2
  exact ⟨_, rfl, HKZ.out, HOZ.out⟩

set_option maxHeartbeats 800000 in
theorem refDecode_len (v : Value) (n : Nat) (xs : List Int) (w : World) (h : Rc w v n 1 (nums .u8 xs)) (hn : n ≠ 66) :
    Calls Try.prog 11 #[v] w fun e w' => e = .returned (.tuple #[Z8, .int .i64 2]) ∧ Kp No w w' := by
  obtain ⟨A, c, rfl, hnc⟩ : ∃ A c, v = .slice A n c ∧ n ≤ c := by obtain ⟨_, A, c, h, h2, _⟩ := h; exact ⟨A, c, h, h2⟩
  clear h
  have hb : ((n : Int) != 66) = true := by simp; omega
  go_enter Try.func11, Try.ntmps11
  go_wp2_with (refine wpList_store_row rfl 23 (.tmp 2) (.tmp 10) rfl w.heap.size _ rfl rfl 23 _ (blk_new _ _) size23 rfl (by simp [Value.oneCell']) ?_)
  refine bodyPost_ret (v := .tuple #[.agg #[.int .i64 0, .int .i64 0, .int .i64 0, .int .i64 0, .int .i64 0, .int .i64 0, .int .i64 0, .int .i64 0], .int .i64 2]) ?_ rfl ⟨rfl, ((Kp.refl _ _).alloc _).setRow (.inr (Nat.le_refl _)) _⟩
  exact results_ct rfl _ _ w.heap.size 23 _ (0, 0) _ _ rfl rfl (setRow_heap _ _ _ _ _ _ (blk_new _ _)) Try.underlying23 rfl size23

set_option maxHeartbeats 800000 in
theorem refDecode_sum (v : Value) (xs : List Int) (w : World) (h : Rc w v 66 1 (nums .u8 xs)) (hb : Bytes xs) (hg : goodB xs = false) :
    Calls Try.prog 11 #[v] w fun e w' => e = .returned (.tuple #[Z8, .int .i64 3]) ∧ Kp No w w' := by
  have HR := Asd.mk h
  obtain ⟨A, c, rfl, hnc⟩ : ∃ A c, v = .slice A 66 c ∧ 66 ≤ c := by obtain ⟨_, A, c, h, h2, _⟩ := h; exact ⟨A, c, h, h2⟩
  have HG := Asd.mk hg
  have HBY := Asd.mk hb
  clear h hg hb
  go_enter Try.func11, Try.ntmps11
  go_wp2_with fail
  refine (refGood_ok _ 66 xs _ (HR.out.no ((Kp.refl _ _).alloc _)) HBY.out (by decide)).mono ?_
  rintro e w1 ⟨rfl, hd1⟩
  rw [HG.out]
  have HB := Asd.mk (hd1.kp.blk (blk_new w _) (fun h => h))
  have HK := Asd.mk (((Kp.refl No w).alloc _).then_ hd1.kp)
  clear hd1
  go_wp2_with (refine wpList_store_row rfl 23 (.tmp 2) (.tmp 15) rfl w.heap.size _ rfl rfl 23 _ HB.out size23 rfl (by simp [Value.oneCell']) ?_)
  refine bodyPost_ret (v := .tuple #[.agg #[.int .i64 0, .int .i64 0, .int .i64 0, .int .i64 0, .int .i64 0, .int .i64 0, .int .i64 0, .int .i64 0], .int .i64 3]) ?_ rfl ⟨rfl, HK.out.setRow (.inr (Nat.le_refl _)) _⟩
  exact results_ct rfl _ _ w.heap.size 23 _ (0, 0) _ _ rfl rfl (setRow_heap _ _ _ _ _ _ HB.out) Try.underlying23 rfl size23

theorem valsAt (xs : List Int) : vals (xs.take 64) = (List.range 8).map fun i => wrap64 (numV ((xs.drop (8 * i)).take 8)) := by
  unfold vals
  apply List.map_congr_left
  intro i hi
  have := List.mem_range.1 hi
  rw [List.drop_take, List.take_take, Nat.min_eq_left (by omega)]

set_option maxHeartbeats 1600000 in
theorem refDecode_go (v : Value) (xs : List Int) (w : World) (h : Rc w v 66 1 (nums .u8 xs)) (hb : Bytes xs) (hg : goodB xs = true) :
    Calls Try.prog 11 #[v] w fun e w' => e = .returned (.tuple (decAns (xs.take 64))) ∧ Kp No w w' := by
  have HR := Asd.mk h
  obtain ⟨A, c, rfl, hnc⟩ : ∃ A c, v = .slice A 66 c ∧ 66 ≤ c := by obtain ⟨_, A, c, h, h2, _⟩ := h; exact ⟨A, c, h, h2⟩
  have HG := Asd.mk hg
  have HBY := Asd.mk hb
  clear h hg hb
  obtain ⟨t, ht⟩ : ∃ t, okL (vals (xs.take 64)) = t := ⟨_, rfl⟩
  have HT := Asd.mk ht
  clear ht
  have HVL : Asd (vals (xs.take 64) = [wrap64 (numV ((xs.drop (8 * 0)).take 8)), wrap64 (numV ((xs.drop (8 * 1)).take 8)), wrap64 (numV ((xs.drop (8 * 2)).take 8)), wrap64 (numV ((xs.drop (8 * 3)).take 8)), wrap64 (numV ((xs.drop (8 * 4)).take 8)), wrap64 (numV ((xs.drop (8 * 5)).take 8)), wrap64 (numV ((xs.drop (8 * 6)).take 8)), wrap64 (numV ((xs.drop (8 * 7)).take 8))]) := ⟨by rw [valsAt]; rfl⟩
  go_enter Try.func11, Try.ntmps11
  go_wp2_with fail
  refine (refGood_ok _ 66 xs _ (HR.out.no ((Kp.refl _ _).alloc _)) HBY.out (by decide)).mono ?_
  rintro e w0 ⟨rfl, hd1⟩
  rw [HG.out]
  have HB0 := Asd.mk (hd1.kp.blk (blk_new w _) (fun h => h))
  have HK0 := Asd.mk (((Kp.refl No w).alloc _).then_ hd1.kp)
  clear hd1
  go_wp2_with fail
  refine (refNumber_ok _ xs 0 w0 (HR.out.no HK0.out) HBY.out (by decide)).mono ?_
  rintro e w1 ⟨rfl, hd1⟩
  have HB1 := Asd.mk (hd1.kp.blk HB0.out (fun h => h))
  have HK1 := Asd.mk (HK0.out.then_ hd1.kp)
  clear hd1 HB0 HK0
  obtain ⟨b0, hb0⟩ : ∃ b, b = wrap64 (numV ((xs.drop (8 * 0)).take 8)) := ⟨_, rfl⟩
  rw [← hb0] at HVL ⊢
  clear hb0
  go_wp2_with fail
  refine (refNumber_ok _ xs 1 w1 (HR.out.no HK1.out) HBY.out (by decide)).mono ?_
  rintro e w2 ⟨rfl, hd2⟩
  have HB2 := Asd.mk (hd2.kp.blk HB1.out (fun h => h))
  have HK2 := Asd.mk (HK1.out.then_ hd2.kp)
  clear hd2 HB1 HK1
  obtain ⟨b1, hb1⟩ : ∃ b, b = wrap64 (numV ((xs.drop (8 * 1)).take 8)) := ⟨_, rfl⟩
  rw [← hb1] at HVL ⊢
  clear hb1
  go_wp2_with fail
  refine (refNumber_ok _ xs 2 w2 (HR.out.no HK2.out) HBY.out (by decide)).mono ?_
  rintro e w3 ⟨rfl, hd3⟩
  have HB3 := Asd.mk (hd3.kp.blk HB2.out (fun h => h))
  have HK3 := Asd.mk (HK2.out.then_ hd3.kp)
  clear hd3 HB2 HK2
  obtain ⟨b2, hb2⟩ : ∃ b, b = wrap64 (numV ((xs.drop (8 * 2)).take 8)) := ⟨_, rfl⟩
  rw [← hb2] at HVL ⊢
  clear hb2
  go_wp2_with fail
  refine (refNumber_ok _ xs 3 w3 (HR.out.no HK3.out) HBY.out (by decide)).mono ?_
  rintro e w4 ⟨rfl, hd4⟩
  have HB4 := Asd.mk (hd4.kp.blk HB3.out (fun h => h))
  have HK4 := Asd.mk (HK3.out.then_ hd4.kp)
  clear hd4 HB3 HK3
  obtain ⟨b3, hb3⟩ : ∃ b, b = wrap64 (numV ((xs.drop (8 * 3)).take 8)) := ⟨_, rfl⟩
  rw [← hb3] at HVL ⊢
  clear hb3
  go_wp2_with fail
  refine (refNumber_ok _ xs 4 w4 (HR.out.no HK4.out) HBY.out (by decide)).mono ?_
  rintro e w5 ⟨rfl, hd5⟩
  have HB5 := Asd.mk (hd5.kp.blk HB4.out (fun h => h))
  have HK5 := Asd.mk (HK4.out.then_ hd5.kp)
  clear hd5 HB4 HK4
  obtain ⟨b4, hb4⟩ : ∃ b, b = wrap64 (numV ((xs.drop (8 * 4)).take 8)) := ⟨_, rfl⟩
  rw [← hb4] at HVL ⊢
  clear hb4
  go_wp2_with fail
  refine (refNumber_ok _ xs 5 w5 (HR.out.no HK5.out) HBY.out (by decide)).mono ?_
  rintro e w6 ⟨rfl, hd6⟩
  have HB6 := Asd.mk (hd6.kp.blk HB5.out (fun h => h))
  have HK6 := Asd.mk (HK5.out.then_ hd6.kp)
  clear hd6 HB5 HK5
  obtain ⟨b5, hb5⟩ : ∃ b, b = wrap64 (numV ((xs.drop (8 * 5)).take 8)) := ⟨_, rfl⟩
  rw [← hb5] at HVL ⊢
  clear hb5
  go_wp2_with fail
  refine (refNumber_ok _ xs 6 w6 (HR.out.no HK6.out) HBY.out (by decide)).mono ?_
  rintro e w7 ⟨rfl, hd7⟩
  have HB7 := Asd.mk (hd7.kp.blk HB6.out (fun h => h))
  have HK7 := Asd.mk (HK6.out.then_ hd7.kp)
  clear hd7 HB6 HK6
  obtain ⟨b6, hb6⟩ : ∃ b, b = wrap64 (numV ((xs.drop (8 * 6)).take 8)) := ⟨_, rfl⟩
  rw [← hb6] at HVL ⊢
  clear hb6
  go_wp2_with fail
  refine (refNumber_ok _ xs 7 w7 (HR.out.no HK7.out) HBY.out (by decide)).mono ?_
  rintro e w8 ⟨rfl, hd8⟩
  have HB8 := Asd.mk (hd8.kp.blk HB7.out (fun h => h))
  have HK8 := Asd.mk (HK7.out.then_ hd8.kp)
  clear hd8 HB7 HK7
  obtain ⟨b7, hb7⟩ : ∃ b, b = wrap64 (numV ((xs.drop (8 * 7)).take 8)) := ⟨_, rfl⟩
  rw [← hb7] at HVL ⊢
  clear hb7
  go_wp2_with (first | (refine wpList_store_row rfl 23 (.tmp 5) (.tmp 32) rfl w8.heap.size #[.int .i64 b0, .int .i64 b1, .int .i64 b2, .int .i64 b3, .int .i64 b4, .int .i64 b5, .int .i64 b6, .int .i64 b7] rfl rfl 23 _ (blk_new w8 _) size23 rfl (numsOne [b0, b1, b2, b3, b4, b5, b6, b7]) ?_; obtain ⟨W9, hW9⟩ : ∃ W9, W9 = (w8.alloc (.cells #[.int .i64 0, .int .i64 0, .int .i64 0, .int .i64 0, .int .i64 0, .int .i64 0, .int .i64 0, .int .i64 0] 23)).setRow w8.heap.size #[.int .i64 b0, .int .i64 b1, .int .i64 b2, .int .i64 b3, .int .i64 b4, .int .i64 b5, .int .i64 b6, .int .i64 b7] := ⟨_, rfl⟩; have HK9 : Asd (Kp No w8 W9) := ⟨by rw [hW9]; exact ((Kp.refl _ _).alloc _).setRow (.inr (Nat.le_refl _)) _⟩; have HBN9 : Asd (W9.heap[w8.heap.size]? = some (.cells #[.int .i64 b0, .int .i64 b1, .int .i64 b2, .int .i64 b3, .int .i64 b4, .int .i64 b5, .int .i64 b6, .int .i64 b7] 23 (0, 0))) := ⟨by rw [hW9]; exact setRow_heap _ _ _ _ _ _ (blk_new _ _)⟩; rw [← hW9]; clear hW9) | (refine wpList_load_row rfl 23 (.tmp 5) rfl w8.heap.size rfl 23 #[.int .i64 b0, .int .i64 b1, .int .i64 b2, .int .i64 b3, .int .i64 b4, .int .i64 b5, .int .i64 b6, .int .i64 b7] (0, 0) _ HBN9.out Try.underlying23 rfl size23 ?_))
  refine (refRight_ok b0 b1 b2 b3 b4 b5 b6 b7 W9).mono ?_
  rintro e wa ⟨rfl, hka⟩
  have HTb : Asd (okL [b0, b1, b2, b3, b4, b5, b6, b7] = t) := ⟨by rw [← HVL.out]; exact HT.out⟩
  have HBa := Asd.mk (hka.blk (HK9.out.blk HB8.out (fun h => h)) (fun h => h))
  have HBNa := Asd.mk (hka.blk HBN9.out (fun h => h))
  have HKa := Asd.mk ((HK8.out.then_ HK9.out).then_ hka)
  clear hka
  rw [HTb.out]
  cases t with
  | true =>
    have HD : Asd (decAns (xs.take 64) = #[(.agg #[.int .i64 b0, .int .i64 b1, .int .i64 b2, .int .i64 b3, .int .i64 b4, .int .i64 b5, .int .i64 b6, .int .i64 b7]), .int .i64 0]) := ⟨by rw [decAns, if_pos HT.out, HVL.out]; rfl⟩
    go_wp2_with (first | (refine wpList_load_row rfl 23 (.tmp 5) rfl w8.heap.size rfl 23 #[.int .i64 b0, .int .i64 b1, .int .i64 b2, .int .i64 b3, .int .i64 b4, .int .i64 b5, .int .i64 b6, .int .i64 b7] (0, 0) _ HBNa.out Try.underlying23 rfl size23 ?_) | (refine wpList_store_row rfl 23 (.tmp 2) (.tmp 38) rfl w.heap.size #[.int .i64 b0, .int .i64 b1, .int .i64 b2, .int .i64 b3, .int .i64 b4, .int .i64 b5, .int .i64 b6, .int .i64 b7] rfl rfl 23 _ HBa.out size23 rfl (numsOne [b0, b1, b2, b3, b4, b5, b6, b7]) ?_))
    refine bodyPost_ret (v := .tuple #[(.agg #[.int .i64 b0, .int .i64 b1, .int .i64 b2, .int .i64 b3, .int .i64 b4, .int .i64 b5, .int .i64 b6, .int .i64 b7]), .int .i64 0]) ?_ rfl ⟨by rw [HD.out], HKa.out.setRow (.inr (Nat.le_refl _)) _⟩
    exact results_ct rfl _ _ w.heap.size 23 _ (0, 0) _ _ rfl rfl (setRow_heap _ _ _ _ _ _ HBa.out) Try.underlying23 rfl size23
  | false =>
    have HD : Asd (decAns (xs.take 64) = #[Z8, .int .i64 2]) := ⟨by rw [decAns, if_neg (by rw [HT.out]; simp)]⟩
    go_wp2_with (refine wpList_store_row rfl 23 (.tmp 2) (.tmp 37) rfl w.heap.size _ rfl rfl 23 _ HBa.out size23 rfl (by simp [Value.oneCell']) ?_)
    refine bodyPost_ret (v := .tuple #[.agg #[.int .i64 0, .int .i64 0, .int .i64 0, .int .i64 0, .int .i64 0, .int .i64 0, .int .i64 0, .int .i64 0], .int .i64 2]) ?_ rfl ⟨by rw [HD.out]; rfl, HKa.out.setRow (.inr (Nat.le_refl _)) _⟩
    exact results_ct rfl _ _ w.heap.size 23 _ (0, 0) _ _ rfl rfl (setRow_heap _ _ _ _ _ _ HBa.out) Try.underlying23 rfl size23

end Go.Proofs.Ytbenghpodfkdcaa
