/- The contract of cert.Decode over this seat's translation. -/
import Derived.Test.YtbenghpodfkdcaaB2
namespace Go.Proofs.Ytbenghpodfkdcaa
open Go.RowKit

def Z8 : Value := .agg #[.int .i64 0, .int .i64 0, .int .i64 0, .int .i64 0, .int .i64 0, .int .i64 0, .int .i64 0, .int .i64 0]

set_option maxHeartbeats 800000 in
theorem decode_len (v : Value) (n : Nat) (xs : List Int) (w : World) (h : Rc w v n 1 (nums .u8 xs)) (hn : n ≠ 66) :
    Calls Try.prog 10 #[v] w fun e w' => e = .returned (.tuple #[Z8, .int .i64 2]) ∧ Kp No w w' := by
  obtain ⟨A, c, rfl, hnc⟩ : ∃ A c, v = .slice A n c ∧ n ≤ c := by obtain ⟨_, A, c, h, h2, _⟩ := h; exact ⟨A, c, h, h2⟩
  clear h
  have hb : ((n : Int) != 66) = true := by simp; omega
  go_enter Try.func10, Try.ntmps10
  go_wp2_with fail
  refine bodyPost_ret (v := .tuple #[Z8, .int .i64 2]) (by simp [results, Try.results10, go_sem, Z8]) rfl ⟨rfl, ?_⟩
  repeat' (first | exact Kp.refl _ _ | refine Kp.alloc ?_ _ | refine Kp.setCell ?_ (.inr (by simp)) _)

theorem size23 : (Try.prog.info? 23).map (·.size) = some 8 := by kernel_rfl
theorem size52 : (Try.prog.info? 52).map (·.size) = some 8 := by kernel_rfl

set_option maxHeartbeats 800000 in
theorem decode_sum (v : Value) (xs : List Int) (w : World) (h : Rc w v 66 1 (nums .u8 xs)) (hg : goodB xs = false) :
    Calls Try.prog 10 #[v] w fun e w' => e = .returned (.tuple #[Z8, .int .i64 3]) ∧ Kp No w w' := by
  have HR := Asd.mk h
  obtain ⟨A, c, rfl, hnc⟩ : ∃ A c, v = .slice A 66 c ∧ 66 ≤ c := by obtain ⟨_, A, c, h, h2, _⟩ := h; exact ⟨A, c, h, h2⟩
  have HG := Asd.mk hg
  clear h hg
  go_enter Try.func10, Try.ntmps10
  go_wp2_with fail
  refine (open_bad _ 66 xs _ (HR.out.no ((Kp.refl _ _).alloc _)) (by decide) HG.out).mono ?_
  rintro e w1 ⟨rfl, hk1⟩
  have HB := Asd.mk (hk1.blk (blk_new w _) (fun h => h))
  have HK := Asd.mk (((Kp.refl No w).alloc _).then_ hk1)
  clear hk1
  go_wp2_with (refine wpList_store_row rfl 23 (.tmp 2) (.tmp 21) rfl w.heap.size _ rfl rfl 23 _ HB.out size23 rfl (by simp [Value.oneCell']) ?_)
  refine bodyPost_ret (v := .tuple #[.agg #[.int .i64 0, .int .i64 0, .int .i64 0, .int .i64 0, .int .i64 0, .int .i64 0, .int .i64 0, .int .i64 0], .int .i64 3]) ?_ rfl ⟨rfl, HK.out.setRow (.inr (Nat.le_refl _)) _⟩
  exact results_ct rfl _ _ w.heap.size 23 _ (0, 0) _ _ rfl rfl (setRow_heap _ _ _ _ _ _ HB.out) Try.underlying23 rfl size23

/-- The eight numbers of 64 bytes. -/
def vals (bs : List Int) : List Int := (List.range 8).map fun i => wrap64 (numV ((bs.drop (8 * i)).take 8))
theorem vals_take_succ (bs : List Int) (k : Nat) (h : k < 8) : (vals bs).take (k + 1) = (vals bs).take k ++ [wrap64 (numV ((bs.drop (8 * k)).take 8))] := by
  rw [List.take_succ_eq_append_getElem (by simp [vals]; exact h)]
  simp [vals]
theorem take_set_succ {α : Type} (l : List α) (k : Nat) (y : α) (h : k < l.length) : (l.set k y).take (k + 1) = l.take k ++ [y] := by
  rw [List.set_eq_take_append_cons_drop, if_pos h, List.take_append]
  simp [show min k l.length = k from by omega, List.take_take]
/-- The array in the middle of its reading. -/
def Arr (w : World) (nb : Nat) (bs : List Int) (k : Nat) : Prop := ∃ cs : List Int, w.heap[nb]? = some (.cells (nums .i64 cs).toArray 52 (0, 0)) ∧ cs.length = 8 ∧ cs.take k = (vals bs).take k
theorem Arr.cell {w : World} {nb : Nat} {bs : List Int} {k : Nat} (h : Arr w nb bs k) (j : Nat) (hj : j < 8) : ∃ x, w.cell? ⟨nb, j, none⟩ = some (.int .i64 x) := by
  obtain ⟨cs, hb, hl, _⟩ := h
  refine ⟨cs[j]'(by omega), (blk_cell hb j).trans ?_⟩
  have hj' : j < cs.length := by omega
  simp [nums, hj']
theorem Arr.set {w : World} {nb : Nat} {bs : List Int} {k : Nat} (h : Arr w nb bs k) (hk : k < 8) : Arr (w.setCell ⟨nb, k, none⟩ (.int .i64 (wrap64 (numV ((bs.drop (8 * k)).take 8))))) nb bs (k + 1) := by
  obtain ⟨cs, hb, hl, ht⟩ := h
  refine ⟨cs.set k (wrap64 (numV ((bs.drop (8 * k)).take 8))), ?_, by simpa using hl, ?_⟩
  · rw [blk_set hb]
    congr 2
    simp [nums, List.map_set]
  · rw [vals_take_succ _ _ hk, ← ht, take_set_succ _ _ _ (by omega)]

def decAns (bs : List Int) : Array Value := if okL (vals bs) = true then #[.agg (nums .i64 (vals bs)).toArray, .int .i64 0] else #[Z8, .int .i64 2]

set_option maxHeartbeats 1600000 in
theorem decode_go (v : Value) (xs bs : List Int) (w : World) (h : Rc w v 66 1 (nums .u8 xs)) (hg : goodB xs = true) (hbs : bs = xs.take 64) :
    Calls Try.prog 10 #[v] w fun e w' => e = .returned (.tuple (decAns bs)) ∧ Kp No w w' := by
  have HR := Asd.mk h
  have HBS := Asd.mk hbs
  have HBL : Asd (bs.length = 64) := ⟨by rw [hbs]; simp; have := h.length; omega⟩
  obtain ⟨A, c, rfl, hnc⟩ : ∃ A c, v = .slice A 66 c ∧ 66 ≤ c := by obtain ⟨_, A, c, h, h2, _⟩ := h; exact ⟨A, c, h, h2⟩
  have HG := Asd.mk hg
  clear h hg hbs
  go_enter Try.func10, Try.ntmps10
  go_wp2_with fail
  refine (open_good _ 66 xs _ (HR.out.no ((Kp.refl _ _).alloc _)) (by decide) HG.out).mono ?_
  rintro e w1 ⟨v1, rfl, hk1, ho1⟩
  have HB1 := Asd.mk (hk1.blk (blk_new w _) (fun h => h))
  have HK1 := Asd.mk (((Kp.refl No w).alloc _).then_ hk1)
  have hs1 : w.heap.size < w1.heap.size := blk_lt HB1.out
  have HC1 : Asd (Rc w1 v1 64 1 (nums .u8 bs)) := ⟨by rw [HBS.out]; exact own_rc ho1⟩
  obtain ⟨A1, c1, rfl⟩ := own_slice ho1
  clear hk1 ho1
  go_wp2_with fail
  refine (newReader_ok _ 64 bs w1 HC1.out (by decide)).mono ?_
  rintro e w2 ⟨g, rfl, hk2, hr2⟩
  have HB2 := Asd.mk (hk2.blk HB1.out (fun h => h))
  have HK2 := Asd.mk (HK1.out.then_ hk2)
  have hs2 : w1.heap.size ≤ w2.heap.size := hk2.size
  have HR2 := Asd.mk hr2
  have HG2 : Asd (w1.heap.size ≤ g ∧ g < w2.heap.size) := ⟨by obtain ⟨_, _, _, h, _⟩ := hr2; exact h⟩
  clear hk2 hr2
  go_wp2_with fail
  obtain ⟨nb, hnb⟩ : ∃ nb, nb = w2.heap.size := ⟨_, rfl⟩
  have HNB := Asd.mk hnb
  have harr : Arr (w2.alloc (.cells #[.int .i64 0, .int .i64 0, .int .i64 0, .int .i64 0, .int .i64 0, .int .i64 0, .int .i64 0, .int .i64 0] 52)) nb bs 0 := ⟨[0, 0, 0, 0, 0, 0, 0, 0], by rw [hnb]; exact blk_new _ _, rfl, rfl⟩
  have HARR := Asd.mk harr
  obtain ⟨W, hW⟩ : ∃ W, W = w2.alloc (.cells #[.int .i64 0, .int .i64 0, .int .i64 0, .int .i64 0, .int .i64 0, .int .i64 0, .int .i64 0, .int .i64 0] 52) := ⟨_, rfl⟩
  have HKW : Asd (Kp No w2 W) := ⟨by rw [hW]; exact (Kp.refl _ _).alloc _⟩
  rw [← hW] at HARR ⊢
  rw [← hnb]
  clear hnb hW harr
  go_loopw [24] (fun i wr => ∃ k : Nat, k ≤ 8 ∧ i = .int .i64 k ∧ Asd (Kp (fun b => b = g ∨ b = nb) W wr ∧ IsRd wr (fun b => w1.heap.size ≤ b ∧ b < w2.heap.size) g (bs.drop (8 * k)) 0 ∧ Arr wr nb bs k)) (fun i _ => 8 - (intOf i).toNat)
  case atStart => exact ⟨0, Nat.zero_le _, rfl, ⟨Kp.refl _ _, HR2.out.kept HKW.out (fun _ _ h => h), HARR.out⟩⟩
  case round =>
    obtain ⟨k, hk, rfl, HL⟩ := hrel
    by_cases hlt : k < 8
    · have h0 : 0 ≤ (k : Int) := by omega
      have h8 : (k : Int) < 8 := by omega
      have hle : (bs.drop (8 * k)).length = 64 - 8 * k := by have := HBL.out; simp; omega
      have HLE := Asd.mk hle
      clear hle
      go_wp2_with fail
      refine (rint_ok _ g (bs.drop (8 * k)) wr HL.out.2.1 (by have := HLE.out; omega) (by have := HLE.out; omega)).mono ?_
      rintro e w3 ⟨rfl, hk3, hr3⟩
      have HK3 := Asd.mk hk3
      have HR3 := Asd.mk hr3
      have hgn : nb ≠ g := by have := HG2.out; have := HNB.out; omega
      have HGN := Asd.mk hgn
      have harr : Arr w3 nb bs k := by
        obtain ⟨cs, hb, h1, h2⟩ := HL.out.2.2
        exact ⟨cs, hk3.blk hb hgn, h1, h2⟩
      have HA3 := Asd.mk harr
      obtain ⟨x0, hx0⟩ := harr.cell k hlt
      have hf0 : w3.frozen? ⟨nb, k, none⟩ = false := by
        obtain ⟨cs, hb, h1, h2⟩ := harr
        exact blk_frozen hb k
      clear hk3 hr3 harr hgn
      go_wp2_with fail
      go_roundw
      case rel =>
        refine ⟨k + 1, by omega, by go_num, ⟨?_, ?_, HA3.out.set hlt⟩⟩
        · exact (HL.out.1.trans HK3.out (fun b hb => .inl (.inl hb))).setCell (.inl (.inr rfl)) _
        · rw [show 8 * (k + 1) = 8 * k + 8 from by omega, ← List.drop_drop]
          refine HR3.out.kept (T := Only nb) (Kp.setCell (S := Only nb) (p := ⟨nb, k, none⟩) (Kp.refl _ _) (.inl rfl) _) ?_
          intro b hb h
          have := HNB.out
          cases h
          omega
      case measure => simp [intOf]; omega
    · have hk8 : k = 8 := by omega
      subst hk8
      have hd : decide ((8 : Nat) < 8) = false := rfl
      obtain ⟨cs, hb, hcl, hct⟩ := HL.out.2.2
      have hcv : cs = vals bs := by
        rw [List.take_of_length_le (by omega), List.take_of_length_le (by simp [vals])] at hct
        exact hct
      subst hcv
      have HVL := Asd.mk hcl
      have HB := Asd.mk hb
      have hkr := HL.out.1
      have HR9 : Asd (IsRd wr (fun b => w1.heap.size ≤ b ∧ b < w2.heap.size) g [] 0) := ⟨by have h := HL.out.2.1; rw [List.drop_of_length_le (by have := HBL.out; omega)] at h; exact h⟩
      have HKr : Asd (Kp No w wr) := ⟨(HK2.out.then_ HKW.out).trans hkr (fun b hb => .inr (by have := HG2.out; have := HNB.out; rcases hb with h | h <;> omega))⟩
      have HB9 : Asd (wr.heap[w.heap.size]? = some (.cells #[.int .i64 0, .int .i64 0, .int .i64 0, .int .i64 0, .int .i64 0, .int .i64 0, .int .i64 0, .int .i64 0] 23 (0, 0))) := ⟨hkr.blk (HKW.out.blk HB2.out (fun h => h)) (by have := HG2.out; have := HNB.out; rintro (h | h) <;> omega)⟩
      have hsr : w.heap.size < wr.heap.size := blk_lt HB9.out
      obtain ⟨t, ht⟩ : ∃ t, okL (vals bs) = t := ⟨_, rfl⟩
      have HT := Asd.mk ht
      clear hb hct hcl hkr ht
      go_wp2_with (refine wpList_load_row rfl 52 (.tmp 7) rfl nb rfl 52 _ (0, 0) _ HB.out Try.underlying52 rfl (by rw [size52]; simp [nums, vals]) ?_)
      refine (of8L_ok (vals bs) HVL.out wr).mono ?_
      rintro e w3 ⟨rfl, hk3⟩
      have HK3 := Asd.mk (HKr.out.then_ hk3)
      have HB3 := Asd.mk (hk3.blk HB9.out (fun h => h))
      have HR3 := Asd.mk (HR9.out.kept hk3 (fun _ _ h => h))
      have hs3 : wr.heap.size ≤ w3.heap.size := hk3.size
      clear hk3
      go_wp2_with (refine wpList_store_row rfl 23 (.tmp 9) (.tmp 33) rfl w3.heap.size _ rfl rfl 23 _ (blk_new w3 _) (by rw [size23]; simp [nums, vals]) (by simp [nums, vals]) (numsOne _) ?_)
      obtain ⟨W4, hW4⟩ : ∃ W4, W4 = (w3.alloc (.cells #[.int .i64 0, .int .i64 0, .int .i64 0, .int .i64 0, .int .i64 0, .int .i64 0, .int .i64 0, .int .i64 0] 23)).setRow w3.heap.size (nums .i64 (vals bs)).toArray := ⟨_, rfl⟩
      have HK34 : Asd (Kp No w3 W4) := ⟨by rw [hW4]; exact ((Kp.refl _ _).alloc _).setRow (.inr (Nat.le_refl _)) _⟩
      have HB4 : Asd (W4.heap[w3.heap.size]? = some (.cells (nums .i64 (vals bs)).toArray 23 (0, 0))) := ⟨by rw [hW4]; exact setRow_heap _ _ _ _ _ _ (blk_new _ _)⟩
      rw [← hW4]
      clear hW4
      refine (rdone_ok _ g W4 (HR3.out.kept HK34.out (fun _ _ h => h))).mono ?_
      rintro e w4 ⟨rfl, rfl⟩
      go_wp2_with ((refine ungate (by kernel_rfl) (wpList_load_row rfl 23 (.tmp 9) rfl w3.heap.size rfl 23 _ (0, 0) _ HB4.out Try.underlying23 rfl (by rw [size23]; simp [nums, vals]) ?_)))
      refine (rightL_ok (vals bs) HVL.out W4).mono ?_
      rintro e w5 ⟨rfl, hk5⟩
      have HB5 := Asd.mk (hk5.blk (HK34.out.blk HB3.out (fun h => h)) (fun h => h))
      have HBN5 := Asd.mk (hk5.blk HB4.out (fun h => h))
      have HK5 := Asd.mk ((HK3.out.then_ HK34.out).then_ hk5)
      clear hk5
      rw [HT.out]
      cases t with
      | true =>
        have HD : Asd (decAns bs = #[.agg (nums .i64 (vals bs)).toArray, .int .i64 0]) := ⟨by rw [decAns, if_pos HT.out]⟩
        go_wp2_with (first | (refine wpList_load_row rfl 23 (.tmp 9) rfl w3.heap.size rfl 23 _ (0, 0) _ HBN5.out Try.underlying23 rfl (by rw [size23]; simp [nums, vals]) ?_) | (refine wpList_store_row rfl 23 (.tmp 2) (.tmp 43) rfl w.heap.size _ rfl rfl 23 _ HB5.out (by rw [size23]; simp [nums, vals]) (by simp [nums, vals]) (numsOne _) ?_))
        refine bodyPost_ret (v := .tuple #[.agg (nums .i64 (vals bs)).toArray, .int .i64 0]) ?_ rfl ⟨by rw [HD.out], HK5.out.setRow (.inr (Nat.le_refl _)) _⟩
        exact results_ct rfl _ _ w.heap.size 23 _ (0, 0) _ _ rfl rfl (setRow_heap _ _ _ _ _ _ HB5.out) Try.underlying23 rfl (by rw [size23]; simp [nums, vals])
      | false =>
        have HD : Asd (decAns bs = #[Z8, .int .i64 2]) := ⟨by rw [decAns, if_neg (by rw [HT.out]; simp)]⟩
        go_wp2_with (refine wpList_store_row rfl 23 (.tmp 2) (.tmp 42) rfl w.heap.size _ rfl rfl 23 _ HB5.out size23 rfl (by simp [Value.oneCell']) ?_)
        refine bodyPost_ret (v := .tuple #[.agg #[.int .i64 0, .int .i64 0, .int .i64 0, .int .i64 0, .int .i64 0, .int .i64 0, .int .i64 0, .int .i64 0], .int .i64 2]) ?_ rfl ⟨by rw [HD.out]; rfl, HK5.out.setRow (.inr (Nat.le_refl _)) _⟩
        exact results_ct rfl _ _ w.heap.size 23 _ (0, 0) _ _ rfl rfl (setRow_heap _ _ _ _ _ _ HB5.out) Try.underlying23 rfl size23

end Go.Proofs.Ytbenghpodfkdcaa
