/- The law's live question over this seat's translation. -/
import Derived.Test.YtbenghpodfkdcaaR7
namespace Go.Proofs.Ytbenghpodfkdcaa
open Go.RowKit

def L0 : List Int := [9, 1, 2, 3, 4, 5, 258, 300]
def L1 : List Int := [1, 1, 2, 3, 4, 5, 258, 300]
def BB : List Int := sealB (body L0)
set_option maxRecDepth 100000
theorem bb0 : okL L0 = true := by decide +kernel
theorem bb1 : BB.length = 66 := by decide +kernel
theorem bb2 : goodB BB = true := by decide +kernel
theorem bb3 : vals (BB.take 64) = L0 := by decide +kernel
theorem bb4 : goodB (BB.set 40 7) = false := by decide +kernel
theorem bb5 : (BB.set 40 7)[54]? = some 1 ∧ (BB.set 40 7)[55]? = some 2 := by decide +kernel
theorem bb6 : BB[40]? = some 0 := by decide +kernel
theorem bb7 : flags [L1] [300] 1 = [] := by decide +kernel
theorem bb8 : flags [L1] [301, 5] 1 = [1] := by decide +kernel
theorem bb9 : decAns (BB.take 64) = #[.agg #[.int .i64 9, .int .i64 1, .int .i64 2, .int .i64 3, .int .i64 4, .int .i64 5, .int .i64 258, .int .i64 300], .int .i64 0] := by
  rw [decAns, bb3, if_pos bb0]
  rfl
theorem size3 : (Try.prog.info? 3).map (·.size) = some 1 := by kernel_rfl
theorem size5 : (Try.prog.info? 5).map (·.size) = some 1 := by kernel_rfl
theorem bb10 : okL [0, 0, 0, 0, -1, 0, 0, 0] = false := by decide +kernel

theorem cert_at (S : Nat → Prop) (g : Nat) (ls : List (List Int)) (i : Nat) (id : Int) (hid : id = (i : Int) + 1) (w : World) (h : IsBk w S g ls) (hn : ls.length ≤ 100000) (hi : i < ls.length) :
    Calls Try.prog 17 #[.pointer (some ⟨g, 0, none⟩), .int .i64 id] w fun e w' => e = .returned (.tuple #[.agg (nums .i64 ls[i]).toArray, .int .i64 0]) ∧ Kp No w w' := by
  subst hid
  exact cert_ok S g ls i w h hn hi

set_option maxHeartbeats 4000000 in
theorem alive_ok (w : World) : Calls Try.prog 6 #[] w fun e w' => e = .returned (.bool true) ∧ Kp No w w' := by
  go_enter Try.func6, Try.ntmps6
  go_wp2_with (first | (refine wpList_store_rowA rfl 23 (.tmp 1) (.tmp 17) rfl #[.int .i64 9, .int .i64 1, .int .i64 2, .int .i64 3, .int .i64 4, .int .i64 5, .int .i64 258, .int .i64 300] rfl rfl size23 rfl (by simp [Value.oneCell']) ?_; intro w0 hk0 hc0) | (refine wpList_load_row rfl 23 (.tmp 1) rfl w.heap.size rfl 23 #[.int .i64 9, .int .i64 1, .int .i64 2, .int .i64 3, .int .i64 4, .int .i64 5, .int .i64 258, .int .i64 300] (0, 0) _ hc0 Try.underlying23 rfl size23 ?_))
  have HK := Asd.mk hk0
  have HC := Asd.mk hc0
  clear hk0 hc0
  refine (encode_good 9 1 2 3 4 5 258 300 w0 bb0).mono ?_
  rintro e w1 ⟨v1, rfl, hk1, ho1⟩
  have HB := Asd.mk (show w1.ownsRow w0.heap.size 5 1 v1 66 (nums .u8 BB) from ho1)
  obtain ⟨gb, cb, rfl, hcb, hgb1, hgb2⟩ := own_some ho1 (by decide)
  have hs0 : w.heap.size < w0.heap.size := blk_lt HC.out
  replace HK := Asd.mk (HK.out.trans hk1 (fun k hk => hk.elim))
  replace HC := Asd.mk (hk1.blk HC.out (fun h => h))
  clear hk1 ho1
  go_wp2_with fail
  refine (decode_go _ BB (BB.take 64) w1 (own_rc HB.out) bb2 rfl).mono ?_
  rintro e w2 ⟨rfl, hk2⟩
  rw [bb9]
  have hs2 : w1.heap.size ≤ w2.heap.size := hk2.size
  replace HK := Asd.mk (HK.out.trans hk2 (fun k hk => hk.elim))
  replace HC := Asd.mk (hk2.blk HC.out (fun h => h))
  replace HB := Asd.mk (hk2.own HB.out (fun _ _ h => h))
  clear hk2
  go_wp2_with (refine wpList_store_rowA rfl 23 (.tmp 4) (.tmp 26) rfl #[.int .i64 9, .int .i64 1, .int .i64 2, .int .i64 3, .int .i64 4, .int .i64 5, .int .i64 258, .int .i64 300] rfl rfl size23 rfl (by simp [Value.oneCell']) ?_; intro w3 hk3 hn3)
  have hs3 : w2.heap.size < w3.heap.size := blk_lt hn3
  replace HK := Asd.mk (HK.out.trans hk3 (fun k hk => hk.elim))
  replace HC := Asd.mk (hk3.blk HC.out (fun h => h))
  replace HB := Asd.mk (hk3.own HB.out (fun _ _ h => h))
  have HD := Asd.mk hn3
  clear hk3 hn3
  refine (encode_bad 0 0 0 0 (-1) 0 0 0 w3 bb10).mono ?_
  rintro e w4 ⟨rfl, hk4⟩
  have hs4 : w3.heap.size ≤ w4.heap.size := hk4.size
  replace HK := Asd.mk (HK.out.trans hk4 (fun k hk => hk.elim))
  replace HC := Asd.mk (hk4.blk HC.out (fun h => h))
  replace HB := Asd.mk (hk4.own HB.out (fun _ _ h => h))
  replace HD := Asd.mk (hk4.blk HD.out (fun h => h))
  clear hk4
  go_wp2_with fail
  refine (newBook_any w4).mono ?_
  rintro e w5 ⟨rfl, hk5, hbk5⟩
  have hs5 : w4.heap.size ≤ w5.heap.size := hk5.size
  replace HK := Asd.mk (HK.out.trans hk5 (fun k hk => hk.elim))
  replace HC := Asd.mk (hk5.blk HC.out (fun h => h))
  replace HB := Asd.mk (hk5.own HB.out (fun _ _ h => h))
  replace HD := Asd.mk (hk5.blk HD.out (fun h => h))
  have HBK := Asd.mk hbk5
  clear hk5 hbk5
  go_wp2_with (refine wpList_load_row rfl 23 (.tmp 1) rfl w.heap.size rfl 23 #[.int .i64 9, .int .i64 1, .int .i64 2, .int .i64 3, .int .i64 4, .int .i64 5, .int .i64 258, .int .i64 300] (0, 0) _ HC.out Try.underlying23 rfl size23 ?_)
  refine (issue_ok (Only w4.heap.size) w4.heap.size [] 9 1 2 3 4 5 258 300 w5 HBK.out (by decide) bb0).mono ?_
  rintro e w6 ⟨rfl, hk6, S6, hbk6, hS6⟩
  have HSK : Asd (∀ k, Only w4.heap.size k → w3.heap.size ≤ k) := ⟨fun k hk => by cases hk; exact hs4⟩
  have HS6 : Asd (∀ k, S6 k → w3.heap.size ≤ k) := ⟨fun k hk => (hS6 k hk).elim (HSK.out k) (fun h => by omega)⟩
  have hs6 : w5.heap.size ≤ w6.heap.size := hk6.size
  replace HK := Asd.mk (HK.out.trans hk6 (fun k hk => by right; have := HSK.out k hk; omega))
  replace HC := Asd.mk (hk6.blk HC.out (fun h => by have := HSK.out _ h; omega))
  replace HB := Asd.mk (hk6.own HB.out (fun k hk h => by cases hk; have : w3.heap.size ≤ gb := HSK.out _ h; omega))
  replace HD := Asd.mk (hk6.blk HD.out (fun h => by have := HSK.out _ h; omega))
  replace HBK := Asd.mk (show IsBk w6 S6 w4.heap.size [L1] from hbk6)
  clear hk6 hbk6 hS6
  go_wp2_with fail
  refine (cert_at S6 w4.heap.size [L1] 0 1 rfl w6 HBK.out (by decide) (by decide)).mono ?_
  rintro e w7 ⟨he, hk7⟩
  obtain rfl : e = .returned (.tuple #[.agg #[.int .i64 1, .int .i64 1, .int .i64 2, .int .i64 3, .int .i64 4, .int .i64 5, .int .i64 258, .int .i64 300], .int .i64 0]) := he
  have hs7 : w6.heap.size ≤ w7.heap.size := hk7.size
  replace HK := Asd.mk (HK.out.trans hk7 (fun k hk => hk.elim))
  replace HC := Asd.mk (hk7.blk HC.out (fun h => h))
  replace HB := Asd.mk (hk7.own HB.out (fun _ _ h => h))
  replace HD := Asd.mk (hk7.blk HD.out (fun h => h))
  replace HBK := Asd.mk (HBK.out.kept hk7 (fun _ _ h => h))
  clear hk7
  go_wp2_with (refine wpList_store_rowA rfl 23 (.tmp 11) (.tmp 43) rfl #[.int .i64 1, .int .i64 1, .int .i64 2, .int .i64 3, .int .i64 4, .int .i64 5, .int .i64 258, .int .i64 300] rfl rfl size23 rfl (by simp [Value.oneCell']) ?_; intro w8 hk8 hn8)
  have hs8 : w7.heap.size < w8.heap.size := blk_lt hn8
  replace HK := Asd.mk (HK.out.trans hk8 (fun k hk => hk.elim))
  replace HC := Asd.mk (hk8.blk HC.out (fun h => h))
  replace HB := Asd.mk (hk8.own HB.out (fun _ _ h => h))
  replace HD := Asd.mk (hk8.blk HD.out (fun h => h))
  replace HBK := Asd.mk (HBK.out.kept hk8 (fun _ _ h => h))
  have HX := Asd.mk hn8
  clear hk8 hn8
  refine (decode_len _ 65 (BB.take 65) w8 ((own_rc HB.out).take 65 (by decide)) (by decide)).mono ?_
  rintro e w9 ⟨he, hk9⟩
  obtain rfl : e = .returned (.tuple #[.agg #[.int .i64 0, .int .i64 0, .int .i64 0, .int .i64 0, .int .i64 0, .int .i64 0, .int .i64 0, .int .i64 0], .int .i64 2]) := he
  have hs9 : w8.heap.size ≤ w9.heap.size := hk9.size
  replace HK := Asd.mk (HK.out.trans hk9 (fun k hk => hk.elim))
  replace HC := Asd.mk (hk9.blk HC.out (fun h => h))
  replace HB := Asd.mk (hk9.own HB.out (fun _ _ h => h))
  replace HD := Asd.mk (hk9.blk HD.out (fun h => h))
  replace HBK := Asd.mk (HBK.out.kept hk9 (fun _ _ h => h))
  replace HX := Asd.mk (hk9.blk HX.out (fun h => h))
  clear hk9
  go_wp2_with (first | (refine wpList_store_rowA rfl 23 (.tmp 13) (.tmp 52) rfl #[.int .i64 0, .int .i64 0, .int .i64 0, .int .i64 0, .int .i64 0, .int .i64 0, .int .i64 0, .int .i64 0] rfl rfl size23 rfl (by simp [Value.oneCell']) ?_; intro wa hka hna; have HBA := Asd.mk (hka.own HB.out (fun _ _ h => h))) | (refine wpList_store_ownN rfl 5 (.tmp 55) (.const (.int .u8 7)) rfl w0.heap.size 5 gb 40 66 cb (nums .u8 BB) (.int .u8 7) rfl rfl rfl HBA.out (by decide) size5 ?_; intro wb hkb hob))
  have hsa : w9.heap.size ≤ wa.heap.size := hka.size
  replace HK := Asd.mk (HK.out.trans hka (fun k hk => hk.elim))
  replace HC := Asd.mk (hka.blk HC.out (fun h => h))
  replace HB := Asd.mk (hka.own HB.out (fun _ _ h => h))
  replace HD := Asd.mk (hka.blk HD.out (fun h => h))
  replace HBK := Asd.mk (HBK.out.kept hka (fun _ _ h => h))
  replace HX := Asd.mk (hka.blk HX.out (fun h => h))
  clear hka hna HBA
  have hsb : wa.heap.size ≤ wb.heap.size := hkb.size
  have HGB : Asd (w0.heap.size ≤ gb ∧ gb < w1.heap.size) := ⟨hgb1, hgb2⟩
  replace HC := Asd.mk (hkb.blk HC.out (fun h => by have : w.heap.size = gb := h; omega))
  replace HD := Asd.mk (hkb.blk HD.out (fun h => by have : w2.heap.size = gb := h; omega))
  replace HX := Asd.mk (hkb.blk HX.out (fun h => by have : w7.heap.size = gb := h; omega))
  replace HBK := Asd.mk (HBK.out.kept hkb (fun k hk h => by have := HS6.out k hk; have : k = gb := h; omega))
  replace HK := Asd.mk (HK.out.trans hkb (fun k hk => .inr (by have : k = gb := hk; omega)))
  replace HB := Asd.mk (show wb.ownsRow w0.heap.size 5 1 (.slice (some ⟨gb, 0, none⟩) 66 cb) 66 (nums .u8 (BB.set 40 7)) from hob)
  clear hkb hob
  refine (decode_sum _ (BB.set 40 7) wb (own_rc HB.out) bb4).mono ?_
  rintro e wc ⟨he, hkc⟩
  obtain rfl : e = .returned (.tuple #[.agg #[.int .i64 0, .int .i64 0, .int .i64 0, .int .i64 0, .int .i64 0, .int .i64 0, .int .i64 0, .int .i64 0], .int .i64 3]) := he
  have hsc : wb.heap.size ≤ wc.heap.size := hkc.size
  replace HK := Asd.mk (HK.out.trans hkc (fun k hk => hk.elim))
  replace HC := Asd.mk (hkc.blk HC.out (fun h => h))
  replace HB := Asd.mk (hkc.own HB.out (fun _ _ h => h))
  replace HD := Asd.mk (hkc.blk HD.out (fun h => h))
  replace HBK := Asd.mk (HBK.out.kept hkc (fun _ _ h => h))
  replace HX := Asd.mk (hkc.blk HX.out (fun h => h))
  clear hkc
  have heq := eq8
  have heqt : eqL [1, 1, 2, 3, 4, 5, 258, 300] [1, 1, 2, 3, 4, 5, 258, 300] = true := by decide
  go_wp2_with (first | (refine wpList_store_rowA rfl 23 (.tmp 15) (.tmp 59) rfl #[.int .i64 0, .int .i64 0, .int .i64 0, .int .i64 0, .int .i64 0, .int .i64 0, .int .i64 0, .int .i64 0] rfl rfl size23 rfl (by simp [Value.oneCell']) ?_; intro wd hkd hnd; have HCd := Asd.mk (hkd.blk HC.out (fun h => h))) | (refine wpList_store_fieldN rfl 3 (.tmp 61) (.const (.int .i64 1)) rfl w.heap.size 0 (.int .i64 1) rfl rfl rfl 23 #[.int .i64 9, .int .i64 1, .int .i64 2, .int .i64 3, .int .i64 4, .int .i64 5, .int .i64 258, .int .i64 300] HCd.out (by decide) size3 ?_; intro we hke hce; have HCe := Asd.mk (show we.heap[w.heap.size]? = some (.cells #[.int .i64 1, .int .i64 1, .int .i64 2, .int .i64 3, .int .i64 4, .int .i64 5, .int .i64 258, .int .i64 300] 23 (0, 0)) from hce); have HKE := Asd.mk ((hkd.mono (fun _ h => h.elim)).then_ hke); have HXe := Asd.mk (HKE.out.blk HX.out (fun h => by have : w7.heap.size = w.heap.size := h; omega)); have HDe := Asd.mk (HKE.out.blk HD.out (fun h => by have : w2.heap.size = w.heap.size := h; omega)); have HBe := Asd.mk (HKE.out.own HB.out (fun k hk h => by cases hk; have : gb = w.heap.size := h; omega)); obtain ⟨d0, _, _, _, _, _, d6, _⟩ := cells8 9 1 2 3 4 5 258 300 HDe.out; obtain ⟨x0, x1, x2, x3, x4, x5, x6, x7⟩ := cells8 1 1 2 3 4 5 258 300 HXe.out; obtain ⟨c0, c1, c2, c3, c4, c5, c6, c7⟩ := cells8 1 1 2 3 4 5 258 300 HCe.out; have b54 := (own_cell1 HBe.out 54 (.int .u8 1) (by rw [nums, List.getElem?_map, bb5.1]; rfl)).1; have b55 := (own_cell1 HBe.out 55 (.int .u8 2) (by rw [nums, List.getElem?_map, bb5.2]; rfl)).1; clear hkd hke hce hnd))
  have HKW : Asd (Kp No w we) := ⟨HK.out.trans HKE.out (fun k hk => .inr (by have : k = w.heap.size := hk; omega))⟩
  have HBW : Asd (IsBk we S6 w4.heap.size [L1]) := ⟨HBK.out.kept HKE.out (fun k hk h => by have := HS6.out k hk; have : k = w.heap.size := h; omega)⟩
  clear HK HC HB HD HX HBK HCd HCe HKE HXe HDe HBe d0 d6 x0 x1 x2 x3 x4 x5 x6 x7 c0 c1 c2 c3 c4 c5 c6 c7 b54 b55 heq heqt
  refine (flagged_ok S6 w4.heap.size [L1] _ 1 [300] _ (HBW.out.kept ((Kp.refl No _).alloc _) (fun _ _ h => h)) (by decide) (rc_block (cs := #[.int .i64 300]) (blk_new we _) rfl) (by decide)).mono ?_
  rintro e wf ⟨vf, rfl, hkf, hof⟩
  rw [show flags [L1] [300] [L1].length = [] from bb7] at hof
  obtain ⟨Af, cf, rfl⟩ := own_slice hof
  replace HKW := Asd.mk ((HKW.out.alloc _).then_ hkf)
  replace HBW := Asd.mk (HBW.out.kept (((Kp.refl No _).alloc _).then_ hkf) (fun _ _ h => h))
  clear hkf hof
  go_wp2_with fail
  refine (flagged_ok S6 w4.heap.size [L1] _ 2 [301, 5] _ (HBW.out.kept ((Kp.refl No _).alloc _) (fun _ _ h => h)) (by decide) (rc_block (cs := #[.int .i64 301, .int .i64 5]) (blk_new wf _) rfl) (by decide)).mono ?_
  rintro e wg ⟨vg, rfl, hkg, hog⟩
  rw [show flags [L1] [301, 5] [L1].length = [1] from bb8] at hog
  obtain ⟨Ag, cg, rfl⟩ := own_slice hog
  replace HKW := Asd.mk ((HKW.out.alloc _).then_ hkg)
  clear hkg hog HBW
  go_wp2_with fail
  go_ret
  exact ⟨rfl, HKW.out⟩

end Go.Proofs.Ytbenghpodfkdcaa
