/- Contracts of the references: Seal, Good, Value, number, over this seat's translation. -/
import Derived.Test.YtbenghpodfkdcaaR2
namespace Go.Proofs.Ytbenghpodfkdcaa
open Go.RowKit

set_option maxHeartbeats 800000 in
theorem refSeal_ok (v : Value) (n : Nat) (xs : List Int) (w : World) (h : Rc w v n 1 (nums .u8 xs)) (hb : Bytes xs) (hn : n ≤ 999990) :
    Calls Try.prog 28 #[v] w fun e w' => ∃ v', e = .returned v' ∧ Kp No w w' ∧ w'.ownsRow w.heap.size 5 1 v' (n + 2) (nums .u8 (sealB xs)) := by
  have HX := Asd.mk h
  obtain ⟨A, c, rfl⟩ : ∃ A c, v = .slice A n c := by obtain ⟨_, A, c, h, _⟩ := h; exact ⟨A, c, h⟩
  have hcr := crc_range xs hb
  have HS : Asd (sealB xs = xs ++ [crc xs / 256, crc xs % 256]) := ⟨by rw [sealB, wrap_u8, wrap_u8, Int.emod_eq_of_lt (by omega) (by omega)]⟩
  go_enter Try.func28, Try.ntmps28
  go_wp2_with fail
  refine (refOf_ok _ n xs w HX.out hb (by omega)).mono ?_
  clear h hb
  rintro e w1 ⟨rfl, hk1⟩
  have HK1 := Asd.mk hk1.kp
  have HR1 := Asd.mk (HX.out.no hk1.kp)
  have hs1 : w.heap.size ≤ w1.heap.size := hk1.kp.size
  clear hk1
  obtain ⟨s, hs⟩ : ∃ s, s = crc xs := ⟨_, rfl⟩
  rw [← hs] at HS hcr ⊢
  clear hs
  obtain ⟨hcr0, hcr1⟩ := hcr
  go_wp2_with (at_builtin; first | (refine wp_append_rc rfl (.tmp 6) (.tmp 7) 24 5 (.int .u8 0) 1 1 rfl Try.underlying24 info5 rfl (by decide) (by decide) w1.heap.size (.slice (some ⟨w1.heap.size, 0, none⟩) 0 0) 0 [] n A c (nums .u8 xs) rfl rfl (HR1.out.no ((Kp.refl _ _).alloc _)) (nums_one _ _) (World.ownsRow_made w1 #[] 0 (Nat.le_refl _) (by decide) rfl) (by simp) (by omega) ?_; intro v1 w2 ho1 hg1 hat1 hsh1; obtain ⟨A1, c1, rfl⟩ := hsh1; simp only [Nat.zero_add, List.nil_append] at ho1; have HO1 := Asd.mk ho1; have HG1 := Asd.mk hg1; clear ho1 hg1 hat1; have hs2 : w1.heap.size ≤ w2.heap.size := by have := HG1.out.size; simp at this; omega) | (refine wp_append_lit rfl (.tmp 8) (.tmp 15) 24 5 (.int .u8 0) 1 1 rfl Try.underlying24 info5 rfl (by decide) (by decide) w1.heap.size _ n (nums .u8 xs) 2 w2.heap.size _ rfl rfl (blk_new _ _) rfl (by simp [Value.oneCell']) (HO1.out.alloc _) (by simp; omega) (by omega) ?_; intro v3 w3 ho3 hg3 hat3 hsh3; obtain ⟨A3, c3, rfl⟩ := hsh3; have HO3 := Asd.mk ho3; have HG3 := Asd.mk hg3; clear ho3 hg3 hat3))
  go_ret
  refine ⟨_, rfl, ?_, ?_⟩
  · have k1 := ((HK1.out.alloc (.cells #[] 5)).grown HG1.out (fun k hk => by cases hk; exact .inr hs1))
    exact (k1.alloc _).grown HG3.out (fun k hk => .inr (by have := (HO1.out.lt k hk).1; omega))
  · have h := HO3.out
    rw [HS.out, nums_append]
    exact own_low h hs1


theorem goodB_iff (xs : List Int) (hb : Bytes xs) (m : Nat) (hm : xs.length = m + 2) :
    goodB xs = (crc (xs.take m) == 256 * (xs[m]?.getD 0) + xs[m + 1]?.getD 0) := by
  have hcr := crc_range (xs.take m) (hb.take m)
  have h0 := hb.get m
  have h1 := hb.get (m + 1)
  have hx : xs = xs.take m ++ [xs[m]?.getD 0, xs[m + 1]?.getD 0] := by
    conv => lhs; rw [← List.take_append_drop m xs]
    congr 1
    rw [List.drop_eq_getElem_cons (by omega), List.drop_eq_getElem_cons (by omega), List.drop_of_length_le (by omega)]
    simp [show m < xs.length from by omega, show m + 1 < xs.length from by omega]
  rw [Bool.eq_iff_iff]
  unfold goodB
  rw [decide_eq_true_eq, hm, show m + 2 - 2 = m from by omega, beq_iff_eq]
  unfold sealB
  rw [wrap_u8, wrap_u8, Int.emod_eq_of_lt (show 0 ≤ crc (xs.take m) / 256 by omega) (by omega)]
  constructor
  · rintro ⟨_, h⟩
    conv at h => rhs; rw [hx]
    have h2 := List.append_cancel_left h
    simp only [List.cons.injEq, and_true] at h2
    omega
  · intro h
    refine ⟨by omega, ?_⟩
    conv => rhs; rw [hx]
    congr 1
    simp only [List.cons.injEq, and_true]
    omega

set_option maxHeartbeats 1600000 in
theorem refGood_ok (v : Value) (n : Nat) (xs : List Int) (w : World) (h : Rc w v n 1 (nums .u8 xs)) (hb : Bytes xs) (hn : n ≤ 1000000) :
    Calls Try.prog 34 #[v] w fun e w' => e = .returned (.bool (goodB xs)) ∧ Dr w w' := by
  have hlen := h.length
  by_cases h2 : n < 2
  · have HG : Asd (goodB xs = false) := ⟨by unfold goodB; rw [decide_eq_false]; omega⟩
    obtain ⟨_, A, c, rfl, _⟩ := h
    clear hb hlen
    go_enter Try.func34, Try.ntmps34
    go_wp2_with fail
    go_ret
    exact ⟨by rw [HG.out]; rfl, Dr.refl _⟩
  · obtain ⟨m, hnm⟩ : ∃ m, n = m + 2 := ⟨n - 2, by omega⟩
    have HG := Asd.mk (goodB_iff xs hb m (by omega))
    have HR := Asd.mk h
    have HB := Asd.mk hb
    have hb0 := hb.get m
    have hb1 := hb.get (m + 1)
    have b1 : (n : Int) - 2 = (m : Int) := by omega
    obtain ⟨_, A, c, rfl, hnc, hnil, _⟩ := h
    have HL := Asd.mk hlen
    clear hb hlen
    cases A with
    | none => have := hnil rfl; omega
    | some ad =>
      clear hnil
      have k0 : ∀ q, (w.drewN q).cell? (ad.add m) = some (.int .u8 (xs[m]?.getD 0)) := fun q => HR.out.num_at m (by omega)
      have k1 : ∀ q, (w.drewN q).cell? { ad with off := ad.off + (m + 1), spot := none } = some (.int .u8 (xs[m + 1]?.getD 0)) := fun q => by rw [← Addr.add_succ']; exact HR.out.num_at (m + 1) (by omega)
      obtain ⟨x, hx⟩ : ∃ x, xs[m]?.getD 0 = x := ⟨_, rfl⟩
      obtain ⟨y, hy⟩ : ∃ y, xs[m + 1]?.getD 0 = y := ⟨_, rfl⟩
      rw [hx, hy] at HG
      rw [hx] at hb0 k0
      rw [hy] at hb1 k1
      clear hx hy
      obtain ⟨hx0, hx1⟩ := hb0
      obtain ⟨hy0, hy1⟩ := hb1
      have e1 : IntKind.i64.wrap ((m : Int) + 1) = (m : Int) + 1 := IntWalk.i64_in _ (by omega)
      have e2 : ((m : Int) + 1).toNat = m + 1 := by omega
      have e3 : IntKind.i64.wrap (256 * x) = 256 * x := IntWalk.i64_in _ (by omega)
      have e4 : IntKind.i64.wrap (256 * x + y) = 256 * x + y := IntWalk.i64_in _ (by omega)
      have e5 : 0 ≤ (m : Int) + 1 := by omega
      have e6 : (m : Int) + 1 < (n : Int) := by omega
      have e7 : (m : Int) < (n : Int) := by omega
      have e8 : (m : Int) ≤ (n : Int) := by omega
      have f1 : m ≤ c := by omega
      have f2 : (m : Int) ≤ (c : Int) := by omega
      have f3 : 0 ≤ (m : Int) := by omega
      have HNM := Asd.mk hnm
      clear hnm
      have e9 : IntKind.i64.wrap x = x := IntWalk.i64_in _ (by omega)
      have e10 : IntKind.i64.wrap y = y := IntWalk.i64_in _ (by omega)
      go_enter Try.func34, Try.ntmps34
      go_wp2_with fail
      go_quiet ((go_at_call 41; go_must (exact Calls.quiet_of (refOf_ok _ m (xs.take m) _ ((HR.out.take m (by have := HNM.out; omega)).no ((Kp.refl _ _).drewN _)) (HB.out.take m) (by omega)))))
      go_wp2
      go_ret
      exact ⟨by rw [HG.out]; rfl, ⟨_, rfl⟩⟩

theorem valueV_take_succ (l : List Int) (k : Nat) (h : k < l.length) : valueV (l.take (k + 1)) = 256 * valueV (l.take k) + l[k]?.getD 0 := by
  rw [List.take_succ_eq_append_getElem h, valueV_snoc]
  simp [h]
  omega

set_option maxHeartbeats 800000 in
theorem refValue_ok (v : Value) (n : Nat) (xs : List Int) (w : World) (h : Rc w v n 1 (nums .u8 xs)) (hb : Bytes xs) (hn : n ≤ 8) :
    Calls Try.prog 45 #[v] w fun e w' => e = .returned (.int .u64 (valueV xs)) ∧ Dr w w' := by
  have HR := Asd.mk h
  have HL := Asd.mk h.length
  have HB := Asd.mk hb
  obtain ⟨_, A, c, rfl, _⟩ := h
  clear hb
  go_enter Try.func45, Try.ntmps45
  go_wp2
  go_loopw [3, 4] (fun s i wr => ∃ k : Nat, k ≤ n ∧ i = .int .i64 k ∧ s = .int .u64 (valueV (xs.take k)) ∧ Asd (Dr w wr)) (fun _ i _ => n - (intOf i).toNat)
  case atStart => exact ⟨0, Nat.zero_le _, rfl, rfl, ⟨Dr.refl _⟩⟩
  case round =>
    obtain ⟨k, hk, rfl, rfl, HK⟩ := hrel
    by_cases hlt : k < n
    · cases A with
      | none => obtain ⟨_, _, _, h, _, h2, _⟩ := HR.out; cases h; have := h2 rfl; omega
      | some ad =>
        have hc := (HR.out.no HK.out.kp).num_at k hlt
        have HVS := Asd.mk (valueV_take_succ xs k (by have := HL.out; omega))
        have hvr := valueV_range (xs.take k) (HB.out.take k)
        have hxr := HB.out.get k
        have hv2 := valueV_small (xs.take k) (HB.out.take k) (by simp; omega)
        obtain ⟨hv0, _⟩ := hvr
        have HV2 := Asd.mk hv2
        clear hv2
        obtain ⟨s, hs⟩ : ∃ s, s = valueV (xs.take k) := ⟨_, rfl⟩
        obtain ⟨x, hx⟩ : ∃ x, xs[k]?.getD 0 = x := ⟨_, rfl⟩
        rw [List.getD_eq_getElem?_getD, hx] at hc
        rw [hx] at hxr
        rw [hx, ← hs] at HVS
        rw [← hs] at hv0 HV2 ⊢
        clear hs hx
        obtain ⟨hx0, hx1⟩ := hxr
        go_wp2
        go_roundw
        case rel =>
          refine ⟨k + 1, by omega, by go_num, ?_, HK⟩
          rw [u64_step s x hv0 HV2.out hx0 hx1, HVS.out]
        case measure => simp [intOf]; omega
    · have hd : decide (k < n) = false := by simpa using hlt
      go_wp2
      go_ret
      exact ⟨by rw [List.take_of_length_le (by have := HL.out; omega)]; rfl, HK.out⟩

set_option maxHeartbeats 800000 in
theorem refNumber_ok (v : Value) (xs : List Int) (i : Nat) (w : World) (h : Rc w v 66 1 (nums .u8 xs)) (hb : Bytes xs) (hi : i < 8) :
    Calls Try.prog 35 #[v, .int .i64 i] w fun e w' => e = .returned (.int .i64 (wrap64 (numV ((xs.drop (8 * i)).take 8)))) ∧ Dr w w' := by
  have HR := Asd.mk h
  have HB := Asd.mk hb
  have HL := Asd.mk h.length
  obtain ⟨_, A, c, rfl, hnc, _⟩ := h
  have HN : Asd (numV ((xs.drop (8 * i)).take 8) = valueV ((xs.drop (8 * i)).take 8)) := ⟨numV_eq _ ((hb.drop _).take _) (by simp; omega)⟩
  clear hb
  have hcut : cutA A c (8 * i) = A.map (·.add (8 * i)) := by unfold cutA; rw [if_neg (by omega)]
  have hrd := HR.out.drop (8 * i) (by omega) rfl
  rw [hcut, ← nums_drop] at hrd
  have hrt := hrd.take 8 (by omega)
  have HRT := Asd.mk hrt
  clear hcut hrd hrt
  go_enter Try.func35, Try.ntmps35
  go_wp2_with fail
  refine (refValue_ok _ 8 ((xs.drop (8 * i)).take 8) w HRT.out ((HB.out.drop _).take _) (by decide)).mono ?_
  rintro e w1 ⟨rfl, hd1⟩
  have HD := Asd.mk hd1
  clear hd1
  rw [← HN.out]
  go_wp2_with fail
  go_ret
  exact ⟨rfl, HD.out⟩

end Go.Proofs.Ytbenghpodfkdcaa
