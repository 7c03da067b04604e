/- The walk of CertBurst: a burst of bits turned in a sealed certificate is always found. -/
import Derived.Test.YtbenghpodfkdcaaL1
import Derived.Test.YtbenghpodfkdcaaP3
namespace Go.Proofs.Ytbenghpodfkdcaa
open Go.RowKit

set_option maxRecDepth 100000
set_option maxHeartbeats 800000 in
theorem burst_skip (a0 a1 a2 a3 a4 a5 a6 a7 : Int) (t u : Nat) (w : World) (h : okL [a0, a1, a2, a3, a4, a5, a6, a7] = false ∨ u = 0) :
    Calls Try.prog 5 #[(.agg #[.int .i64 a0, .int .i64 a1, .int .i64 a2, .int .i64 a3, .int .i64 a4, .int .i64 a5, .int .i64 a6, .int .i64 a7]), .int .u16 t, .int .u16 u] w fun e w' => e = .returned (.bool true) ∧ Kp No w w' := by
  have H := Asd.mk h
  clear h
  go_enter Try.func5, Try.ntmps5
  go_wp2_with fail
  refine (refRight_ok a0 a1 a2 a3 a4 a5 a6 a7 _).mono ?_
  rintro e w1 ⟨rfl, hk1⟩
  have HK := Asd.mk (((Kp.refl No w).alloc _).then_ hk1)
  clear hk1
  by_cases ho : okL [a0, a1, a2, a3, a4, a5, a6, a7] = true
  · have hu : u = 0 := H.out.elim (fun h => by rw [ho] at h; cases h) id
    subst hu
    rw [ho]
    go_wp2_with fail
    refine (alive_ok _).mono ?_
    rintro e w2 ⟨rfl, hk2⟩
    have HK2 := Asd.mk (HK.out.then_ hk2)
    clear hk2
    go_wp2_with fail
    go_ret
    exact ⟨rfl, HK2.out⟩
  · have ho2 : okL [a0, a1, a2, a3, a4, a5, a6, a7] = false := by simpa using ho
    rw [ho2]
    go_wp2_with fail
    refine (alive_ok _).mono ?_
    rintro e w2 ⟨rfl, hk2⟩
    have HK2 := Asd.mk (HK.out.then_ hk2)
    clear hk2
    go_wp2_with fail
    go_ret
    exact ⟨rfl, HK2.out⟩

theorem burstB_succ1 (l : List Int) (p u i : Nat) (h : u / 2 ^ i % 2 = 1) : burstB l p u (i + 1) = flipB (burstB l p u i) (p + i) := by rw [burstB, if_pos h]
theorem burstB_succ0 (l : List Int) (p u i : Nat) (h : ¬ u / 2 ^ i % 2 = 1) : burstB l p u (i + 1) = burstB l p u i := by rw [burstB, if_neg h]

set_option maxHeartbeats 4000000 in
theorem burst_main (a0 a1 a2 a3 a4 a5 a6 a7 : Int) (t u : Nat) (w : World) (ht : t < 65536) (hu : u < 65536) (hu0 : u ≠ 0) (h : okL [a0, a1, a2, a3, a4, a5, a6, a7] = true) (hby : Bytes (sealB (body [a0, a1, a2, a3, a4, a5, a6, a7]))) (hgd : goodB (sealB (body [a0, a1, a2, a3, a4, a5, a6, a7])) = true) (hln : (sealB (body [a0, a1, a2, a3, a4, a5, a6, a7])).length = 66) :
    Calls Try.prog 5 #[(.agg #[.int .i64 a0, .int .i64 a1, .int .i64 a2, .int .i64 a3, .int .i64 a4, .int .i64 a5, .int .i64 a6, .int .i64 a7]), .int .u16 t, .int .u16 u] w fun e w' => e = .returned (.bool true) ∧ Kp No w w' := by
  have HO := Asd.mk h
  have HBY := Asd.mk hby
  have HGD := Asd.mk hgd
  have HLN := Asd.mk hln
  clear h hby hgd hln
  have hu1 : ((u : Int) == 0) = false := by simpa using hu0
  go_enter Try.func5, Try.ntmps5
  go_wp2_with fail
  refine (refRight_ok a0 a1 a2 a3 a4 a5 a6 a7 _).mono ?_
  rintro e w1 ⟨rfl, hk1⟩
  rw [HO.out]
  have HK := Asd.mk (((Kp.refl No w).alloc _).then_ hk1)
  have HC := Asd.mk (hk1.blk (blk_new w _) (fun h => h))
  have hs1 : w.heap.size < w1.heap.size := blk_lt HC.out
  clear hk1
  go_wp2_with (refine wpList_load_row rfl 23 (.tmp 3) rfl w.heap.size rfl 23 #[.int .i64 a0, .int .i64 a1, .int .i64 a2, .int .i64 a3, .int .i64 a4, .int .i64 a5, .int .i64 a6, .int .i64 a7] (0, 0) _ HC.out Try.underlying23 rfl size23 ?_)
  refine (encode_good a0 a1 a2 a3 a4 a5 a6 a7 w1 HO.out).mono ?_
  rintro e w2 ⟨v2, rfl, hk2, ho2⟩
  obtain ⟨BB, hBB⟩ : ∃ BB, BB = sealB (body [a0, a1, a2, a3, a4, a5, a6, a7]) := ⟨_, rfl⟩
  rw [← hBB] at ho2 HBY HGD HLN
  clear hBB
  have HB := Asd.mk ho2
  obtain ⟨gb, cb, rfl, hcb, hgb1, hgb2⟩ := own_some ho2 (by decide)
  replace HK := Asd.mk (HK.out.trans hk2 (fun k hk => hk.elim))
  clear hk2 ho2 HC
  obtain ⟨p, hp⟩ : ∃ p, p = t % 513 := ⟨_, rfl⟩
  have c1 : (t : Int).tmod 513 = (p : Int) := by rw [Int.tmod_eq_emod_of_nonneg (by omega)]; omega
  have hpl : p + 15 < 528 := by omega
  clear hp
  go_wp2_with fail
  clear c1
  go_loopw [11, 12] (fun b i wr => ∃ k x : Nat, k ≤ 16 ∧ i = .int .i64 k ∧ b = .int .i64 x ∧ x < 65536 ∧ Asd (x = u / 2 ^ k) ∧ Asd (Kp No w wr ∧ w2.heap.size ≤ wr.heap.size ∧ wr.ownsRow w1.heap.size 5 1 (.slice (some ⟨gb, 0, none⟩) 66 cb) 66 (nums .u8 (burstB BB p u k)))) (fun _ i _ => 16 - (intOf i).toNat)
  case atStart => exact ⟨0, u, by decide, rfl, rfl, hu, ⟨by simp⟩, ⟨HK.out, Nat.le_refl _, HB.out⟩⟩
  case round =>
    obtain ⟨k, x, hk, rfl, rfl, hx, HX, HR⟩ := hrel
    have hx2 : (x : Int).tdiv 2 = ((x / 2 : Nat) : Int) := by rw [Int.tdiv_eq_ediv_of_nonneg (by omega)]; omega
    have HX2 : Asd (x / 2 = u / 2 ^ (k + 1)) := ⟨by rw [HX.out, Nat.div_div_eq_div_mul, Nat.pow_succ]⟩
    by_cases hlt : k < 16
    · by_cases hodd : x % 2 = 1
      · have c2 : (x : Int).tmod 2 = 1 := by rw [Int.tmod_eq_emod_of_nonneg (by omega)]; omega
        have HS := Asd.mk (burstB_succ1 BB p u k (by rw [← HX.out]; exact hodd))
        obtain ⟨q, hq⟩ : ∃ q, q = p + k := ⟨_, rfl⟩
        have c3 : IntKind.i64.wrap ((p : Int) + (k : Int)) = (q : Int) := by rw [IntWalk.i64_in _ (by omega)]; omega
        have hql : q < 528 := by omega
        have hqe : (q : Int) = p + k := by omega
        rw [← hq] at HS
        clear hq hqe
        obtain ⟨r, hr⟩ : ∃ r, r = q % 8 := ⟨_, rfl⟩
        obtain ⟨sh, hsh⟩ : ∃ sh, sh = 7 - r := ⟨_, rfl⟩
        have c4 : (q : Int).tmod 8 = (r : Int) := by rw [Int.tmod_eq_emod_of_nonneg (by omega)]; omega
        have c5 : IntKind.i64.wrap (7 - (r : Int)) = (sh : Int) := by rw [IntWalk.i64_in _ (by omega)]; omega
        have hshl : sh ≤ 7 := by omega
        have HBV : Asd (bitV q = ((2 ^ sh : Nat) : Int)) := ⟨by rw [bitV, hsh, hr]⟩
        clear hr hsh
        go_wp2_with fail
        go_loopw [14, 15] (fun b i w' => w' = wr ∧ ∃ n m : Nat, n ≤ sh ∧ i = .int .i64 n ∧ b = .int .u8 m ∧ Asd (m = 2 ^ n)) (fun _ i _ => sh - (intOf i).toNat)
        case atStart => exact ⟨rfl, 0, 1, by omega, rfl, rfl, ⟨rfl⟩⟩
        case round =>
          obtain ⟨rfl, n, m, hn, rfl, rfl, HM⟩ := hrel
          by_cases hns : n < sh
          · have hm : m < 128 := by rw [HM.out]; exact Nat.lt_of_le_of_lt (Nat.pow_le_pow_right (by decide) (show n ≤ 6 by omega)) (by decide)
            have c6 : IntKind.u8.wrap (2 * (m : Int)) = ((2 * m : Nat) : Int) := by rw [wrap_u8]; omega
            go_wp2_with fail
            go_roundw
            case rel => exact ⟨trivial, n + 1, 2 * m, by omega, by go_num, rfl, ⟨by rw [HM.out, Nat.pow_succ, Nat.mul_comm]⟩⟩
            case measure => simp [intOf]; omega
          · have hn2 : n = sh := by omega
            subst hn2
            have hd : decide (n < n) = false := by simp
            have hm : m < 256 := by rw [HM.out]; exact Nat.lt_of_le_of_lt (Nat.pow_le_pow_right (by decide) (show n ≤ 7 by omega)) (by decide)
            have hm0 : m ≠ 0 := by rw [HM.out]; exact Nat.ne_of_gt (Nat.two_pow_pos n)
            rw [← HM.out] at HBV
            clear HM
            obtain ⟨j, hj⟩ : ∃ j, j = q / 8 := ⟨_, rfl⟩
            have c7 : (q : Int).tdiv 8 = (j : Int) := by rw [Int.tdiv_eq_ediv_of_nonneg (by omega)]; omega
            have hjl : j < 66 := by omega
            have hLL : (burstB BB p u k).length = 66 := by rw [burstB_length]; exact HLN.out
            have hy := (burstB_bytes BB p u k HBY.out).get j
            obtain ⟨y, hye⟩ : ∃ y : Nat, (burstB BB p u k)[j]?.getD 0 = (y : Int) := ⟨((burstB BB p u k)[j]?.getD 0).toNat, by omega⟩
            have hyl : y < 256 := by rw [hye] at hy; omega
            have HF : Asd (burstB BB p u (k + 1) = (burstB BB p u k).set j (flipV (y : Int) (m : Int))) := ⟨by rw [HS.out, flipB, ← hj, hye, HBV.out]⟩
            have hcs : (nums .u8 (burstB BB p u k))[j]? = some (.int .u8 (y : Int)) := by
              rw [nums, List.getElem?_map, List.getElem?_eq_getElem (by omega)]
              rw [List.getElem?_eq_getElem (by omega)] at hye
              simp only [Option.getD_some] at hye
              rw [hye]
              rfl
            have hcc := (own_cell1 HR.out.2.2 j _ hcs).1
            clear hy hye hcs hLL hj hd
            obtain ⟨z, hz⟩ : ∃ z, z = y / m := ⟨_, rfl⟩
            have c8 : (y : Int).tdiv (m : Int) = (z : Int) := by rw [Int.tdiv_eq_ediv_of_nonneg (by omega), hz]; simp
            have hml : z < 256 := by rw [hz]; exact Nat.lt_of_le_of_lt (Nat.div_le_self ..) hyl
            have hml2 : (y : Int) / (m : Int) = (z : Int) := by rw [hz]; simp
            by_cases hbit : z % 2 = 1
            · have HFV : Asd (flipV (y : Int) (m : Int) = IntKind.u8.wrap ((y : Int) - (m : Int))) := ⟨by
                have hmy : m ≤ y := by
                  rcases Nat.lt_or_ge y m with h | h
                  · rw [hz, Nat.div_eq_of_lt h] at hbit; cases hbit
                  · exact h
                rw [flipV, hml2, if_pos (by omega), wrap_u8]; omega⟩
              have c9 : (z : Int).tmod 2 = 1 := by rw [Int.tmod_eq_emod_of_nonneg (by omega)]; omega
              clear hml2 hz
              go_wp2_with (refine wpList_store_ownN rfl 5 (.tmp 82) (.tmp 81) rfl w1.heap.size 5 gb j 66 cb (nums .u8 (burstB BB p u k)) (.int .u8 (IntKind.u8.wrap ((y : Int) - (m : Int)))) rfl rfl rfl HR.out.2.2 hjl size5 ?_; intro w3 hk3 ho3)
              go_roundw
              case rel => exact ⟨k + 1, x / 2, by omega, by go_num, by go_num, by omega, HX2, ⟨HR.out.1.trans hk3 (fun b hb => .inr (by have : b = gb := hb; have := HK.out.size; omega)), Nat.le_trans HR.out.2.1 hk3.size, by rw [HF.out, HFV.out, nums_set]; exact ho3⟩⟩
              case measure => simp [intOf]; omega
            · have HFV : Asd (flipV (y : Int) (m : Int) = IntKind.u8.wrap ((y : Int) + (m : Int))) := ⟨by
                have hyt := flip_range (y : Int) q (by omega) (by omega)
                rw [HBV.out, flipV, hml2, if_neg (by omega)] at hyt
                rw [flipV, hml2, if_neg (by omega), wrap_u8]; omega⟩
              have c9 : (z : Int).tmod 2 = 0 := by rw [Int.tmod_eq_emod_of_nonneg (by omega)]; omega
              clear hml2 hz
              go_wp2_with (refine wpList_store_ownN rfl 5 (.tmp 93) (.tmp 92) rfl w1.heap.size 5 gb j 66 cb (nums .u8 (burstB BB p u k)) (.int .u8 (IntKind.u8.wrap ((y : Int) + (m : Int)))) rfl rfl rfl HR.out.2.2 hjl size5 ?_; intro w3 hk3 ho3)
              go_roundw
              case rel => exact ⟨k + 1, x / 2, by omega, by go_num, by go_num, by omega, HX2, ⟨HR.out.1.trans hk3 (fun b hb => .inr (by have : b = gb := hb; have := HK.out.size; omega)), Nat.le_trans HR.out.2.1 hk3.size, by rw [HF.out, HFV.out, nums_set]; exact ho3⟩⟩
              case measure => simp [intOf]; omega
      · have c2 : (x : Int).tmod 2 = 0 := by rw [Int.tmod_eq_emod_of_nonneg (by omega)]; omega
        have HS := Asd.mk (burstB_succ0 BB p u k (by rw [← HX.out]; exact hodd))
        go_wp2_with fail
        go_roundw
        case rel => exact ⟨k + 1, x / 2, by omega, by go_num, by go_num, by omega, HX2, ⟨HR.out.1, HR.out.2.1, by rw [HS.out]; exact HR.out.2.2⟩⟩
        case measure => simp [intOf]; omega
    · have hk16 : k = 16 := by omega
      subst hk16
      have hd : decide ((16 : Nat) < 16) = false := rfl
      have HG : Asd (goodB (burstB BB p u 16) = false) := ⟨burst_bad BB p u HBY.out HLN.out HGD.out hpl hu0 hu⟩
      go_wp2_with fail
      refine (decode_sum _ (burstB BB p u 16) wr (own_rc HR.out.2.2) HG.out).mono ?_
      rintro e w3 ⟨he, hk3⟩
      obtain rfl : e = .returned (.tuple #[.agg #[.int .i64 0, .int .i64 0, .int .i64 0, .int .i64 0, .int .i64 0, .int .i64 0, .int .i64 0, .int .i64 0], .int .i64 3]) := he
      have HK3 := Asd.mk (HR.out.1.then_ hk3)
      clear hk3 HR
      go_wp2_with (refine wpList_store_rowA rfl 23 (.tmp 16) (.tmp 99) rfl #[.int .i64 0, .int .i64 0, .int .i64 0, .int .i64 0, .int .i64 0, .int .i64 0, .int .i64 0, .int .i64 0] rfl rfl size23 rfl (by simp [Value.oneCell']) ?_; intro w4 hk4 hc4)
      replace HK3 := Asd.mk (HK3.out.then_ hk4)
      have HC4 := Asd.mk hc4
      clear hk4 hc4
      refine (alive_ok _).mono ?_
      rintro e w5 ⟨rfl, hk5⟩
      replace HK3 := Asd.mk (HK3.out.then_ hk5)
      replace HC4 := Asd.mk (hk5.blk HC4.out (fun h => h))
      clear hk5
      have heq := eq8
      obtain ⟨z0, z1, z2, z3, z4, z5, z6, z7⟩ := cells8 0 0 0 0 0 0 0 0 HC4.out
      have heqt : eqL [0, 0, 0, 0, 0, 0, 0, 0] [0, 0, 0, 0, 0, 0, 0, 0] = true := by decide
      go_wp2_with fail
      go_ret
      exact ⟨rfl, HK3.out⟩

end Go.Proofs.Ytbenghpodfkdcaa
