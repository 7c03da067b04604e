/- The walk of CertTells: certificates and bytes, there and back, are as the document says. -/
import Derived.Test.YtbenghpodfkdcaaC2
namespace Go.Proofs.Ytbenghpodfkdcaa
open Go.RowKit

set_option maxRecDepth 100000
set_option maxHeartbeats 400000 in
theorem tells_long (a0 a1 a2 a3 a4 a5 a6 a7 : Int) (v : Value) (n : Nat) (xs : List Int) (w : World) (h : Rc w v n 1 (nums .u8 xs)) (hn : 200 < n) :
    Calls Try.prog 3 #[(.agg #[.int .i64 a0, .int .i64 a1, .int .i64 a2, .int .i64 a3, .int .i64 a4, .int .i64 a5, .int .i64 a6, .int .i64 a7]), v] w fun e w' => e = .returned (.bool true) ∧ Kp No w w' := by
  obtain ⟨_, A, c, rfl, _⟩ := h
  go_enter Try.func3, Try.ntmps3
  go_wp2_with fail
  refine (alive_ok _).mono ?_
  rintro e w1 ⟨rfl, hk1⟩
  have HK := Asd.mk (((Kp.refl No w).alloc _).then_ hk1)
  clear hk1
  go_wp2_with fail
  go_ret
  exact ⟨rfl, HK.out⟩

set_option maxHeartbeats 8000000 in
theorem tells_main (a0 a1 a2 a3 a4 a5 a6 a7 : Int) (v : Value) (n : Nat) (xs : List Int) (w : World) (h : Rc w v n 1 (nums .u8 xs)) (hn : n ≤ 200) (hby : Bytes xs) :
    Calls Try.prog 3 #[(.agg #[.int .i64 a0, .int .i64 a1, .int .i64 a2, .int .i64 a3, .int .i64 a4, .int .i64 a5, .int .i64 a6, .int .i64 a7]), v] w fun e w' => e = .returned (.bool true) ∧ Kp No w w' := by
  have HX := Asd.mk h
  have HBY := Asd.mk hby
  obtain ⟨_, A, c, rfl, _⟩ := h
  clear hby
  obtain ⟨X, hX⟩ : ∃ X, X = encB [a0, a1, a2, a3, a4, a5, a6, a7] := ⟨_, rfl⟩
  obtain ⟨m, hm⟩ : ∃ m, m = X.length := ⟨_, rfl⟩
  obtain ⟨x, hx⟩ : ∃ x, x = encE [a0, a1, a2, a3, a4, a5, a6, a7] := ⟨_, rfl⟩
  obtain ⟨g, hg⟩ : ∃ g, g = decE xs := ⟨_, rfl⟩
  obtain ⟨d0, d1, d2, d3, d4, d5, d6, d7, hd⟩ := list8 (decV xs) (decV_length xs)
  obtain ⟨r, hr⟩ : ∃ r, r = okL [a0, a1, a2, a3, a4, a5, a6, a7] := ⟨_, rfl⟩
  have hm66 : m ≤ 66 := by
    rw [hm, hX]
    unfold encB
    split
    · rw [seal_length, body_length]; exact Nat.le_refl _
    · decide
  have HEn : Asd (∀ w : World, Calls Try.prog 8 #[(.agg #[.int .i64 a0, .int .i64 a1, .int .i64 a2, .int .i64 a3, .int .i64 a4, .int .i64 a5, .int .i64 a6, .int .i64 a7])] w fun e w' => ∃ A c, e = .returned (.tuple #[.slice A m c, .int .i64 x]) ∧ Kp No w w' ∧ Rc w' (.slice A m c) m 1 (nums .u8 X)) := ⟨fun w => by rw [hm, hx, hX]; exact enc_any [a0, a1, a2, a3, a4, a5, a6, a7] rfl w⟩
  have HRn : Asd (∀ w : World, Calls Try.prog 9 #[(.agg #[.int .i64 a0, .int .i64 a1, .int .i64 a2, .int .i64 a3, .int .i64 a4, .int .i64 a5, .int .i64 a6, .int .i64 a7])] w fun e w' => ∃ A c, e = .returned (.tuple #[.slice A m c, .int .i64 x]) ∧ Kp No w w' ∧ Rc w' (.slice A m c) m 1 (nums .u8 X)) := ⟨fun w => by rw [hm, hx, hX]; exact refEnc_any [a0, a1, a2, a3, a4, a5, a6, a7] rfl w⟩
  have HDn : Asd (∀ w : World, Rc w (.slice A n c) n 1 (nums .u8 xs) → Calls Try.prog 10 #[.slice A n c] w fun e w' => e = .returned (.tuple #[(.agg #[.int .i64 d0, .int .i64 d1, .int .i64 d2, .int .i64 d3, .int .i64 d4, .int .i64 d5, .int .i64 d6, .int .i64 d7]), .int .i64 g]) ∧ Kp No w w') := ⟨fun w h => by have := dec_any _ n xs w h; rw [hd, ← hg] at this; exact this⟩
  have HSn : Asd (∀ w : World, Rc w (.slice A n c) n 1 (nums .u8 xs) → Calls Try.prog 11 #[.slice A n c] w fun e w' => e = .returned (.tuple #[(.agg #[.int .i64 d0, .int .i64 d1, .int .i64 d2, .int .i64 d3, .int .i64 d4, .int .i64 d5, .int .i64 d6, .int .i64 d7]), .int .i64 g]) ∧ Kp No w w') := ⟨fun w h => by have := refDec_any _ n xs w h HBY.out; rw [hd, ← hg] at this; exact this⟩
  have HBack : Asd (r = true → ∀ (w : World) (A : Option Addr) (c : Nat), Rc w (.slice A m c) m 1 (nums .u8 X) → Calls Try.prog 10 #[.slice A m c] w fun e w' => e = .returned (.tuple #[(.agg #[.int .i64 a0, .int .i64 a1, .int .i64 a2, .int .i64 a3, .int .i64 a4, .int .i64 a5, .int .i64 a6, .int .i64 a7]), .int .i64 0]) ∧ Kp No w w') := ⟨fun h w A c hrc => by
    have h1 := dec_any _ m X w hrc
    have h2 := enc_dec [a0, a1, a2, a3, a4, a5, a6, a7] rfl (by rw [← hr]; exact h)
    rw [hX, h2.1, h2.2] at h1
    exact h1⟩
  have HOwn : Asd (g = 0 → ∀ w : World, Calls Try.prog 8 #[(.agg #[.int .i64 d0, .int .i64 d1, .int .i64 d2, .int .i64 d3, .int .i64 d4, .int .i64 d5, .int .i64 d6, .int .i64 d7])] w fun e w' => ∃ A c, e = .returned (.tuple #[.slice A n c, .int .i64 0]) ∧ Kp No w w' ∧ Rc w' (.slice A n c) n 1 (nums .u8 xs)) := ⟨fun h w => by
    have h1 := dec_enc xs HBY.out (by rw [← hg]; exact h)
    have h2 := enc_any (decV xs) (decV_length xs) w
    rw [h1.1, h1.2.1, show xs.length = n from by have := HX.out.length; omega, hd] at h2
    exact h2⟩
  have HRt : Asd (∀ w : World, Calls Try.prog 7 #[(.agg #[.int .i64 a0, .int .i64 a1, .int .i64 a2, .int .i64 a3, .int .i64 a4, .int .i64 a5, .int .i64 a6, .int .i64 a7])] w fun e w' => e = .returned (.bool r) ∧ Kp No w w') := ⟨fun w => by rw [hr]; exact refRight_ok a0 a1 a2 a3 a4 a5 a6 a7 w⟩
  have HRi : Asd (∀ w : World, Calls Try.prog 13 #[(.agg #[.int .i64 a0, .int .i64 a1, .int .i64 a2, .int .i64 a3, .int .i64 a4, .int .i64 a5, .int .i64 a6, .int .i64 a7])] w fun e w' => e = .returned (.bool r) ∧ Kp No w w') := ⟨fun w => by rw [hr]; exact right_ok a0 a1 a2 a3 a4 a5 a6 a7 w⟩
  clear hX hm hx hg hd hr
  have hng : decide ((200 : Int) < (n : Int)) = false := by simp; omega
  go_enter Try.func3, Try.ntmps3
  go_wp2_with fail
  refine (HRt.out _).mono ?_
  rintro e w1 ⟨rfl, hk1⟩
  have HK := Asd.mk (((Kp.refl No w).alloc _).then_ hk1)
  have HC := Asd.mk (hk1.blk (blk_new w _) (fun h => h))
  clear hk1
  go_wp2_with (refine wpList_load_row rfl 23 (.tmp 2) rfl w.heap.size rfl 23 #[.int .i64 a0, .int .i64 a1, .int .i64 a2, .int .i64 a3, .int .i64 a4, .int .i64 a5, .int .i64 a6, .int .i64 a7] (0, 0) _ HC.out Try.underlying23 rfl size23 ?_)
  refine (HEn.out w1).mono ?_
  rintro e w2 ⟨A2, c2, rfl, hk2, hr2⟩
  have HX2 := Asd.mk hr2
  replace HK := Asd.mk (HK.out.then_ hk2)
  replace HC := Asd.mk (hk2.blk HC.out (fun h => h))
  clear hk2 hr2
  go_wp2_with (refine wpList_load_row rfl 23 (.tmp 2) rfl w.heap.size rfl 23 #[.int .i64 a0, .int .i64 a1, .int .i64 a2, .int .i64 a3, .int .i64 a4, .int .i64 a5, .int .i64 a6, .int .i64 a7] (0, 0) _ HC.out Try.underlying23 rfl size23 ?_)
  refine (HRn.out w2).mono ?_
  rintro e w3 ⟨A3, c3, rfl, hk3, hr3⟩
  have HX3 := Asd.mk hr3
  replace HX2 := Asd.mk (HX2.out.no hk3)
  replace HK := Asd.mk (HK.out.then_ hk3)
  replace HC := Asd.mk (hk3.blk HC.out (fun h => h))
  clear hk3 hr3
  go_wp2_with fail
  refine (HDn.out w3 (HX.out.no HK.out)).mono ?_
  rintro e w4 ⟨rfl, hk4⟩
  go_wp2_with (refine wpList_store_rowA rfl 23 (.tmp 10) (.tmp 39) rfl #[.int .i64 d0, .int .i64 d1, .int .i64 d2, .int .i64 d3, .int .i64 d4, .int .i64 d5, .int .i64 d6, .int .i64 d7] rfl rfl size23 rfl (by simp [Value.oneCell']) ?_; intro w5 hk5 hc5)
  have HD := Asd.mk hc5
  replace HX2 := Asd.mk ((HX2.out.no hk4).no hk5)
  replace HX3 := Asd.mk ((HX3.out.no hk4).no hk5)
  replace HK := Asd.mk ((HK.out.then_ hk4).then_ hk5)
  replace HC := Asd.mk (hk5.blk (hk4.blk HC.out (fun h => h)) (fun h => h))
  clear hk4 hk5 hc5
  refine (HSn.out w5 (HX.out.no HK.out)).mono ?_
  rintro e w6 ⟨rfl, hk6⟩
  go_wp2_with (refine wpList_store_rowA rfl 23 (.tmp 12) (.tmp 44) rfl #[.int .i64 d0, .int .i64 d1, .int .i64 d2, .int .i64 d3, .int .i64 d4, .int .i64 d5, .int .i64 d6, .int .i64 d7] rfl rfl size23 rfl (by simp [Value.oneCell']) ?_; intro w7 hk7 hc7)
  have HE := Asd.mk hc7
  replace HX2 := Asd.mk ((HX2.out.no hk6).no hk7)
  replace HX3 := Asd.mk ((HX3.out.no hk6).no hk7)
  replace HK := Asd.mk ((HK.out.then_ hk6).then_ hk7)
  replace HC := Asd.mk (hk7.blk (hk6.blk HC.out (fun h => h)) (fun h => h))
  replace HD := Asd.mk (hk7.blk (hk6.blk HD.out (fun h => h)) (fun h => h))
  clear hk6 hk7 hc7
  refine (refSame_ok _ _ m m X X w7 HX2.out HX3.out (by omega) (by omega)).mono ?_
  rintro e w8 ⟨he, hd8⟩
  obtain rfl : e = .returned (.bool true) := by rw [he]; simp
  have hk8 := hd8.kp
  replace HX2 := Asd.mk (HX2.out.no hk8)
  replace HK := Asd.mk (HK.out.then_ hk8)
  replace HC := Asd.mk (hk8.blk HC.out (fun h => h))
  replace HD := Asd.mk (hk8.blk HD.out (fun h => h))
  replace HE := Asd.mk (hk8.blk HE.out (fun h => h))
  clear he hd8 hk8 HX3
  go_wp2_with (refine wpList_load_row rfl 23 (.tmp 2) rfl w.heap.size rfl 23 #[.int .i64 a0, .int .i64 a1, .int .i64 a2, .int .i64 a3, .int .i64 a4, .int .i64 a5, .int .i64 a6, .int .i64 a7] (0, 0) _ HC.out Try.underlying23 rfl size23 ?_)
  refine (HRi.out w8).mono ?_
  rintro e w9 ⟨rfl, hk9⟩
  replace HX2 := Asd.mk (HX2.out.no hk9)
  replace HK := Asd.mk (HK.out.then_ hk9)
  replace HC := Asd.mk (hk9.blk HC.out (fun h => h))
  replace HD := Asd.mk (hk9.blk HD.out (fun h => h))
  replace HE := Asd.mk (hk9.blk HE.out (fun h => h))
  clear hk9
  have hne := neq8
  have heqd : eqL [d0, d1, d2, d3, d4, d5, d6, d7] [d0, d1, d2, d3, d4, d5, d6, d7] = true := by simp [eqL]
  obtain ⟨y0, y1, y2, y3, y4, y5, y6, y7⟩ := cells8 d0 d1 d2 d3 d4 d5 d6 d7 HD.out
  obtain ⟨z0, z1, z2, z3, z4, z5, z6, z7⟩ := cells8 d0 d1 d2 d3 d4 d5 d6 d7 HE.out
  cases r with
  | true =>
    go_wp2_with fail
    clear y0 y1 y2 y3 y4 y5 y6 y7 z0 z1 z2 z3 z4 z5 z6 z7 HE
    refine (HBack.out (by simp) w9 A2 c2 HX2.out).mono ?_
    rintro e w10 ⟨rfl, hk10⟩
    have heqa : eqL [a0, a1, a2, a3, a4, a5, a6, a7] [a0, a1, a2, a3, a4, a5, a6, a7] = true := by simp [eqL]
    replace HK := Asd.mk (HK.out.then_ hk10)
    replace HC := Asd.mk (hk10.blk HC.out (fun h => h))
    replace HD := Asd.mk (hk10.blk HD.out (fun h => h))
    clear hk10 HX2
    by_cases hg0 : g = 0
    · subst hg0
      go_wp2_with (first | (refine wpList_store_rowA rfl 23 (.tmp 15) (.tmp 76) rfl #[.int .i64 a0, .int .i64 a1, .int .i64 a2, .int .i64 a3, .int .i64 a4, .int .i64 a5, .int .i64 a6, .int .i64 a7] rfl rfl size23 rfl (by simp [Value.oneCell']) ?_; intro w11 hk11 hc11; obtain ⟨y0, y1, y2, y3, y4, y5, y6, y7⟩ := cells8 a0 a1 a2 a3 a4 a5 a6 a7 (hk11.blk HC.out (fun h => h)); obtain ⟨z0, z1, z2, z3, z4, z5, z6, z7⟩ := cells8 a0 a1 a2 a3 a4 a5 a6 a7 hc11; have HK11 := Asd.mk hk11; have HD11 := Asd.mk (hk11.blk HD.out (fun h => h)); clear hk11 hc11) | (refine wpList_load_row rfl 23 (.tmp 10) rfl w4.heap.size rfl 23 #[.int .i64 d0, .int .i64 d1, .int .i64 d2, .int .i64 d3, .int .i64 d4, .int .i64 d5, .int .i64 d6, .int .i64 d7] (0, 0) _ HD11.out Try.underlying23 rfl size23 ?_))
      replace HK := Asd.mk (HK.out.then_ HK11.out)
      refine (HOwn.out (by simp) _).mono ?_
      rintro e wa ⟨Aa, ca, rfl, hka, hra⟩
      have HXa := Asd.mk hra
      replace HK := Asd.mk (HK.out.then_ hka)
      clear hka hra
      go_wp2_with fail
      refine (refSame_ok _ _ n n xs xs wa HXa.out (HX.out.no HK.out) (by omega) (by omega)).mono ?_
      rintro e wb ⟨he, hdb⟩
      obtain rfl : e = .returned (.bool true) := by rw [he]; simp
      replace HK := Asd.mk (HK.out.then_ hdb.kp)
      clear he hdb
      go_wp2_with fail
      refine (alive_ok _).mono ?_
      rintro e wc ⟨rfl, hkc⟩
      replace HK := Asd.mk (HK.out.then_ hkc)
      clear hkc
      go_wp2_with fail
      go_ret
      exact ⟨rfl, HK.out⟩
    · have hgb : (g != 0) = true := by simpa using hg0
      clear hg0
      go_wp2_with (refine wpList_store_rowA rfl 23 (.tmp 15) (.tmp 76) rfl #[.int .i64 a0, .int .i64 a1, .int .i64 a2, .int .i64 a3, .int .i64 a4, .int .i64 a5, .int .i64 a6, .int .i64 a7] rfl rfl size23 rfl (by simp [Value.oneCell']) ?_; intro w11 hk11 hc11; obtain ⟨y0, y1, y2, y3, y4, y5, y6, y7⟩ := cells8 a0 a1 a2 a3 a4 a5 a6 a7 (hk11.blk HC.out (fun h => h)); obtain ⟨z0, z1, z2, z3, z4, z5, z6, z7⟩ := cells8 a0 a1 a2 a3 a4 a5 a6 a7 hc11; have HK11 := Asd.mk hk11; have HD11 := Asd.mk (hk11.blk HD.out (fun h => h)); clear hk11 hc11)
      replace HK := Asd.mk (HK.out.then_ HK11.out)
      refine (alive_ok _).mono ?_
      rintro e wa ⟨rfl, hka⟩
      replace HK := Asd.mk (HK.out.then_ hka)
      clear hka
      go_wp2_with fail
      go_ret
      exact ⟨rfl, HK.out⟩
  | false =>
    clear HX2 HE
    by_cases hg0 : g = 0
    · subst hg0
      go_wp2_with (refine wpList_load_row rfl 23 (.tmp 10) rfl w4.heap.size rfl 23 #[.int .i64 d0, .int .i64 d1, .int .i64 d2, .int .i64 d3, .int .i64 d4, .int .i64 d5, .int .i64 d6, .int .i64 d7] (0, 0) _ HD.out Try.underlying23 rfl size23 ?_)
      refine (HOwn.out (by simp) _).mono ?_
      rintro e wa ⟨Aa, ca, rfl, hka, hra⟩
      have HXa := Asd.mk hra
      replace HK := Asd.mk (HK.out.then_ hka)
      clear hka hra
      go_wp2_with fail
      refine (refSame_ok _ _ n n xs xs wa HXa.out (HX.out.no HK.out) (by omega) (by omega)).mono ?_
      rintro e wb ⟨he, hdb⟩
      obtain rfl : e = .returned (.bool true) := by rw [he]; simp
      replace HK := Asd.mk (HK.out.then_ hdb.kp)
      clear he hdb
      go_wp2_with fail
      refine (alive_ok _).mono ?_
      rintro e wc ⟨rfl, hkc⟩
      replace HK := Asd.mk (HK.out.then_ hkc)
      clear hkc
      go_wp2_with fail
      go_ret
      exact ⟨rfl, HK.out⟩
    · have hgb : (g != 0) = true := by simpa using hg0
      clear hg0
      go_wp2_with fail
      refine (alive_ok _).mono ?_
      rintro e wa ⟨rfl, hka⟩
      replace HK := Asd.mk (HK.out.then_ hka)
      clear hka
      go_wp2_with fail
      go_ret
      exact ⟨rfl, HK.out⟩

end Go.Proofs.Ytbenghpodfkdcaa
