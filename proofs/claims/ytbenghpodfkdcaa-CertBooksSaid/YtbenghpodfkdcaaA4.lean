/- Contracts of slices.Equal, check.Seal, check.Open over this seat's translation. -/
import Derived.Test.YtbenghpodfkdcaaA3
namespace Go.Proofs.Ytbenghpodfkdcaa
open Go.RowKit

/-- The world is the old one, some orders having been drawn, blocks having been laid. -/
theorem Rc.take {w : World} {A : Option Addr} {n c : Nat} {k : IntKind} {xs : List Int} (h : Rc w (.slice A n c) n 1 (nums k xs)) (m : Nat) (hm : m ≤ n) : Rc w (.slice A m c) m 1 (nums k (xs.take m)) := by
  have hl := h.length
  obtain ⟨h1, A', c', hv, h2, h3, h4⟩ := h
  cases hv
  refine ⟨by rw [nums_length]; simp; omega, A, c, rfl, by omega, fun h => by have := h3 h; omega, ?_⟩
  intro ad had j u hu
  refine h4 ad had j u ?_
  simp only [nums, List.getElem?_map, List.getElem?_take] at hu ⊢
  split at hu
  · exact hu
  · simp at hu

set_option maxHeartbeats 800000 in
theorem equal_ok (v v' : Value) (n m : Nat) (xs ys : List Int) (w : World) (h : Rc w v n 1 (nums .u8 xs)) (h' : Rc w v' m 1 (nums .u8 ys)) (hn : n ≤ 1000000) (hm : m ≤ 1000000) :
    Calls Try.prog 42 #[v, v'] w fun e w' => e = .returned (.bool (decide (xs = ys))) ∧ Kp No w w' := by
  have HX := Asd.mk h
  have HY := Asd.mk h'
  have HLX := Asd.mk h.length
  have HLY := Asd.mk h'.length
  obtain ⟨h1, A, c, rfl, h2, h3, h4⟩ := h
  obtain ⟨h1', A', c', rfl, h2', h3', h4'⟩ := h'
  have H3 := Asd.mk h3
  have H3' := Asd.mk h3'
  clear h1 h3 h4 h1' h3' h4'
  by_cases hnm : n = m
  · subst hnm
    go_enter Try.func42, Try.ntmps42
    go_wp2
    go_loopw [13] (fun i wr => ∃ k : Nat, k ≤ n ∧ i = .int .i64 k ∧ Asd (xs.take k = ys.take k) ∧ Asd (Kp No w wr)) (fun i _ => n - (intOf i).toNat)
    case atStart => exact ⟨0, Nat.zero_le _, rfl, ⟨rfl⟩, ⟨Kp.refl _ _⟩⟩
    case round =>
      obtain ⟨k, hk, rfl, HE, HK⟩ := hrel
      by_cases hlt : k < n
      · cases A with
        | none => have := H3.out rfl; omega
        | some ad =>
          cases A' with
          | none => have := H3'.out rfl; omega
          | some ad' =>
            have hc := (HX.out.no HK.out).num_at k hlt
            have hc' := (HY.out.no HK.out).num_at k hlt
            have hkl : 0 ≤ (k : Int) := by omega
            have hkl2 : (k : Int) < n := by omega
            obtain ⟨x, hx⟩ : ∃ x, xs[k]?.getD 0 = x := ⟨_, rfl⟩
            obtain ⟨y, hy⟩ : ∃ y, ys[k]?.getD 0 = y := ⟨_, rfl⟩
            simp only [List.getD_eq_getElem?_getD, hx, hy] at hc hc'
            have HXk := Asd.mk hx
            have HYk := Asd.mk hy
            clear hx hy
            by_cases hxy : x = y
            · subst hxy
              go_wp2
              go_quiet (fail)
              go_wp2
              go_roundw
              case rel =>
                refine ⟨k + 1, by omega, by go_num, ⟨?_⟩, ⟨(HK.out.drewN _)⟩⟩
                rw [List.take_succ_eq_append_getElem (by have := HLX.out; omega), List.take_succ_eq_append_getElem (by have := HLY.out; omega), HE.out]
                congr 2
                have e1 := HXk.out
                have e2 := HYk.out
                rw [List.getElem?_eq_getElem (by have := HLX.out; omega)] at e1
                rw [List.getElem?_eq_getElem (by have := HLY.out; omega)] at e2
                simp only [Option.getD_some] at e1 e2
                rw [e1, e2]
              case measure => simp [intOf]; omega
            · have hb : (x != y) = true := by simpa using hxy
              have HN := Asd.mk hxy
              clear hxy
              go_wp2
              go_quiet (fail)
              go_wp2
              go_ret
              refine ⟨?_, HK.out.drewN _⟩
              have : xs ≠ ys := by
                rintro rfl
                exact HN.out (HXk.out.symm.trans HYk.out)
              simp [this]
      · have hd : decide (k < n) = false := by simpa using hlt
        go_wp2
        go_ret
        refine ⟨?_, HK.out⟩
        have h := HE.out
        rw [List.take_of_length_le (by have := HLX.out; omega), List.take_of_length_le (by have := HLY.out; omega)] at h
        simp [h]
  · have hb : ((n : Int) != (m : Int)) = true := by simpa using (by omega : ¬ (n : Int) = m)
    have hb2 : (n != m) = true := by simpa using hnm
    have hne : xs ≠ ys := by
      rintro rfl
      have := HLX.out; have := HLY.out; omega
    have HNE := Asd.mk hne
    clear hne hnm
    go_enter Try.func42, Try.ntmps42
    go_wp2
    go_ret
    exact ⟨by simp [HNE.out], Kp.refl _ _⟩

def sealB (xs : List Int) : List Int := xs ++ [IntKind.u8.wrap (crc xs / 256), IntKind.u8.wrap (crc xs)]

set_option maxHeartbeats 800000 in
theorem seal_ok (v : Value) (n : Nat) (xs : List Int) (w : World) (h : Rc w v n 1 (nums .u8 xs)) (hn : n ≤ 999990) :
    Calls Try.prog 26 #[v] w fun e w' => ∃ v', e = .returned v' ∧ Kp No w w' ∧ w'.ownsRow w.heap.size 5 1 v' (n + 2) (nums .u8 (sealB xs)) := by
  have HX := Asd.mk h
  obtain ⟨A, c, rfl⟩ : ∃ A c, v = .slice A n c := by obtain ⟨_, A, c, h, _⟩ := h; exact ⟨A, c, h⟩
  clear h
  go_enter Try.func26, Try.ntmps26
  go_wp2_with fail
  refine (of_ok _ n xs w HX.out (by omega)).mono ?_
  rintro e w' ⟨rfl, rfl⟩
  go_wp2_with fail
  refine (clone_bytes _ n xs w HX.out (by omega)).mono ?_
  rintro e w1 ⟨v1, rfl, hk1, ho1⟩
  have HK := Asd.mk hk1
  have HO := Asd.mk ho1
  have HSZ : w.heap.size ≤ w1.heap.size := hk1.size
  clear hk1 ho1
  obtain ⟨A1, c1, rfl⟩ := own_slice HO.out
  go_wp2_with (at_builtin; go_loud (refine wp_append_lit rfl (.tmp 7) (.tmp 13) 24 5 (.int .u8 0) 1 1 rfl Try.underlying24 info5 rfl (by decide) (by decide) w.heap.size _ n (nums .u8 xs) 2 w1.heap.size _ rfl rfl (blk_new _ _) rfl (by simp [Value.oneCell']) (HO.out.alloc _) (by simp; omega) (by omega) ?_); intro v2 w2 ho2 hg2 hat2 hsh2; obtain ⟨A2, c2, rfl⟩ := hsh2; have HO2 := Asd.mk ho2; have HG2 := Asd.mk hg2; clear ho2 hg2 hat2)
  go_ret
  refine ⟨_, rfl, (HK.out.alloc _).grown HG2.out (fun k hk => .inr ?_), ?_⟩
  · exact (HO.out.lt k hk).1
  · rw [sealB, nums_append]
    exact HO2.out
end Go.Proofs.Ytbenghpodfkdcaa
