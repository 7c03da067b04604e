/- Contracts of the references: Num, the writer, over this seat's translation. -/
import Derived.Test.YtbenghpodfkdcaaR3
namespace Go.Proofs.Ytbenghpodfkdcaa
open Go.RowKit

/-- The bytes of a number in the middle of their writing: those from j on stand. -/
def Low (w : World) (g : Nat) (n : Int) (j : Nat) : Prop := ∃ cs : List Int, w.heap[g]? = some (.cells (nums .u8 cs).toArray 5 (0, 0)) ∧ cs.length = 8 ∧ cs.drop j = (be n 8).drop j
theorem Low.cell {w : World} {g : Nat} {n : Int} {j : Nat} (h : Low w g n j) (k : Nat) (hk : k < 8) : (∃ x, w.cell? ⟨g, k, none⟩ = some (.int .u8 x)) ∧ w.frozen? ⟨g, k, none⟩ = false := by
  obtain ⟨cs, hb, hl, _⟩ := h
  have hk' : k < cs.length := by omega
  exact ⟨⟨cs[k], (blk_cell hb k).trans (by simp [nums, hk'])⟩, blk_frozen hb k⟩
theorem Low.set {w : World} {g : Nat} {n : Int} {j : Nat} (h : Low w g n (j + 1)) (hj : j < 8) (x : Int) (hx : x = n / 256 ^ (7 - j) % 256) : Low (w.setCell ⟨g, j, none⟩ (.int .u8 x)) g n j := by
  obtain ⟨cs, hb, hl, hd⟩ := h
  refine ⟨cs.set j x, ?_, by simpa using hl, ?_⟩
  · rw [blk_set hb]
    congr 2
    simp [nums, List.map_set]
  · have h1 : j < (cs.set j x).length := by simp; omega
    have h2 : j < (be n 8).length := by rw [be_length]; exact hj
    rw [List.drop_eq_getElem_cons h1, List.drop_eq_getElem_cons h2, List.drop_set]
    simp only [show j < j + 1 from by omega, if_true, List.getElem_set_self, hd]
    congr 1
    rw [hx]
    simp [be]

theorem div_pow_succ (n : Int) (k : Nat) : n / 256 ^ (k + 1) = n / 256 ^ k / 256 := by
  rw [Int.pow_succ, Int.ediv_ediv, if_neg (fun h => absurd h.1 (Int.not_lt.2 (Int.le_of_lt (Int.pow_pos (by decide))))), Int.sub_zero]
theorem u64_div (m : Int) (h0 : 0 ≤ m) (h1 : m < 18446744073709551616) : IntKind.u64.wrap (m.tdiv 256) = m / 256 := by
  rw [Int.tdiv_eq_ediv_of_nonneg h0, wrap_u64]
  omega

set_option maxHeartbeats 800000 in
theorem refNum_ok (n : Int) (w : World) (h0 : 0 ≤ n) (h1 : n / 256 ^ 8 = 0) (hlt : Asd (n < 18446744073709551616)) :
    Calls Try.prog 47 #[.int .u64 n, .int .i64 8] w fun e w' => ∃ v', e = .returned (.tuple #[v', .bool true]) ∧ Kp No w w' ∧ w'.ownsRow w.heap.size 5 1 v' 8 (nums .u8 (be n 8)) := by
  have hmk : ∀ w : World, (Instr.makeSlice 24 (.int .i64 8) (.int .i64 8)).run Try.prog w = .ok (.slice (some ⟨w.heap.size, 0, none⟩) 8 8) (w.alloc (.cells (nums .u8 [0, 0, 0, 0, 0, 0, 0, 0]).toArray 5)) := fun _ => by kernel_rfl
  have HN := Asd.mk h1
  clear h1
  go_enter Try.func47, Try.ntmps47
  go_wp2_with fail
  have hlow : Low (w.alloc (.cells (nums .u8 [0, 0, 0, 0, 0, 0, 0, 0]).toArray 5)) w.heap.size n 8 := ⟨[0, 0, 0, 0, 0, 0, 0, 0], blk_new _ _, rfl, by rw [List.drop_of_length_le (by decide), List.drop_of_length_le (by rw [be_length]; decide)]⟩
  obtain ⟨W, hW⟩ : ∃ W, W = w.alloc (.cells (nums .u8 [0, 0, 0, 0, 0, 0, 0, 0]).toArray 5) := ⟨_, rfl⟩
  have HKW : Asd (Kp No w W) := ⟨by rw [hW]; exact (Kp.refl _ _).alloc _⟩
  rw [← hW] at hlow ⊢
  have HLOW := Asd.mk hlow
  clear hW hlow hmk
  go_loopw [7, 8] (fun u i wr => ∃ (j : Nat) (m : Int), j ≤ 8 ∧ i = .int .i64 ((j : Int) - 1) ∧ u = .int .u64 m ∧ 0 ≤ m ∧ Asd ((m = n / 256 ^ (8 - j) ∧ m < 18446744073709551616) ∧ Kp No w wr ∧ Low wr w.heap.size n j)) (fun _ i _ => (intOf i + 1).toNat)
  case atStart => exact ⟨8, n, by decide, rfl, rfl, h0, ⟨⟨by simp, hlt.out⟩, HKW.out, HLOW.out⟩⟩
  case round =>
    obtain ⟨j, m, hj, hi, rfl, hm, HR⟩ := hrel
    cases j with
    | succ j =>
      obtain rfl := (hi.trans (by rw [show ((j + 1 : Nat) : Int) - 1 = (j : Int) from by omega]) : _ = Value.int .i64 (j : Int))
      clear hi
      have hge : decide ((0 : Int) ≤ (j : Int)) = true := by simp
      have hj0 : 0 ≤ (j : Int) := by omega
      have hj8 : (j : Int) < 8 := by omega
      obtain ⟨⟨x0, hc⟩, hf⟩ := HR.out.2.2.cell j (by omega)
      have hx : m % 256 = n / 256 ^ (7 - j) % 256 := by rw [HR.out.1.1, show 8 - (j + 1) = 7 - j from by omega]
      have HX := Asd.mk hx
      clear hx
      go_wp2_with fail
      go_roundw
      case rel =>
        refine ⟨j, m / 256, by omega, rfl, by rw [u64_div m hm HR.out.1.2], by omega, ⟨⟨?_, by have := HR.out.1.2; omega⟩, HR.out.2.1.setCell (.inr (Nat.le_refl _)) _, HR.out.2.2.set (by omega) _ HX.out⟩⟩
        rw [HR.out.1.1, show 8 - j = 8 - (j + 1) + 1 from by omega, div_pow_succ, show 8 - (j + 1) = 8 - (j + 1) from rfl]
      case measure => simp [intOf]
    | zero =>
      obtain rfl := hi
      have hm0 : m = 0 := by rw [HR.out.1.1, Nat.sub_zero]; exact HN.out
      subst hm0
      go_wp2
      go_ret2
      refine ⟨_, rfl, HR.out.2.1, ?_⟩
      obtain ⟨cs, hb, hl, hd⟩ := HR.out.2.2
      have hcs : cs = be n 8 := by simpa using hd
      rw [← hcs]
      exact ⟨by rw [nums_length, hl], .inr ⟨w.heap.size, 8, _, rfl, Nat.le_refl _, hb, by decide, by decide, by simp [nums, hl], by rw [List.take_of_length_le (by simp [nums, hl])]⟩⟩

/-- The reference's writer. -/
def IsW2 (w : World) (S : Nat → Prop) (g : Nat) (bs : List Int) : Prop := Own1 w S g 59 (fun v => #[v, .int .i64 0]) 5 1 bs.length (nums .u8 bs)
def Wrote2 (S : Nat → Prop) (g : Nat) (bs : List Int) (w w' : World) : Prop := Upd S w w' (fun S' => IsW2 w' S' g bs)

set_option maxHeartbeats 800000 in
theorem w2num_ok (S : Nat → Prop) (g : Nat) (bs : List Int) (n : Int) (w : World) (hw : IsW2 w S g bs) (h0 : 0 ≤ n) (h1 : n / 256 ^ 8 = 0) (hlt : Asd (n < 18446744073709551616)) (hbs : bs.length ≤ 1000000) :
    Calls Try.prog 40 #[.pointer (some ⟨g, 0, none⟩), .int .u64 n, .int .i64 8] w fun e w' => e = .returned (.tuple #[]) ∧ Wrote2 S g (bs ++ be n 8) w w' := by
  obtain ⟨v, hg, ho, hSg, hSv, hSl⟩ := hw
  have c1 : w.cell? ⟨g, 1, none⟩ = some (.int .i64 0) := (blk_cell hg 1).trans rfl
  have HG := Asd.mk hg
  have HO := Asd.mk ho
  have HSG := Asd.mk hSg
  have HSV := Asd.mk hSv
  have HSL := Asd.mk hSl
  have HN := Asd.mk h1
  clear hg ho hSg hSv hSl h1
  go_enter Try.func40, Try.ntmps40
  go_wp2_with fail
  refine (refNum_ok n w h0 HN.out hlt).mono ?_
  rintro e w1 ⟨v1, rfl, hk1, ho1⟩
  have HK := Asd.mk hk1
  have HR := Asd.mk (own_rc ho1)
  have hg1 := hk1.blk HG.out (fun h => h)
  have k0 : w1.cell? ⟨g, 0, none⟩ = some v := (blk_cell hg1 0).trans rfl
  have k1 : w1.frozen? ⟨g, 0, none⟩ = false := blk_frozen hg1 0
  have HG1 := Asd.mk hg1
  have HO1 := Asd.mk (hk1.own HO.out (fun _ _ h => h))
  obtain ⟨A1, c1', rfl⟩ := own_slice ho1
  obtain ⟨A0, c0', rfl⟩ := own_slice HO.out
  clear hk1 ho1 hg1
  go_wp2_with (at_builtin; refine wp_append_rc rfl (.tmp 28) (.tmp 29) 24 5 (.int .u8 0) 1 1 rfl Try.underlying24 info5 rfl (by decide) (by decide) 0 _ bs.length (nums .u8 bs) 8 A1 c1' (nums .u8 (be n 8)) rfl rfl HR.out (nums_one _ _) HO1.out (Nat.zero_le _) (by omega) ?_; intro v2 w2 ho2 hg2 hat2 hsh2; obtain ⟨A2, c2, rfl⟩ := hsh2; have hb2 := (hg2.block g (blk_lt HG1.out) (fun h => (HSV.out g h.symm).2 rfl)).trans HG1.out; have k01 := (blk_cell hb2 0).trans rfl; have k11 := blk_frozen hb2 0; have HO2 := Asd.mk ho2; have HG2 := Asd.mk hg2; have HAT := Asd.mk hat2; clear hb2 ho2 hg2 hat2)
  go_end0
  refine ⟨rfl, ?_⟩
  have h := Own1.stored (mk := fun v => #[v, .int .i64 0]) (t := 59) (i := 0) HG.out HSG.out HSV.out HSL.out HK.out HO2.out HG2.out HAT.out (fun u => rfl)
  refine h.imp fun S1 h1 => ?_
  show Own1 _ S1 g 59 _ 5 1 (bs ++ be n 8).length (nums .u8 (bs ++ be n 8))
  rw [List.length_append, nums_append, be_length]
  exact h1

set_option maxHeartbeats 400000 in
theorem w2int_ok (S : Nat → Prop) (g : Nat) (bs : List Int) (n : Int) (w : World) (hw : IsW2 w S g bs) (hbs : bs.length ≤ 1000000) :
    Calls Try.prog 27 #[.pointer (some ⟨g, 0, none⟩), .int .i64 n] w fun e w' => e = .returned (.tuple #[]) ∧ Wrote2 S g (bs ++ be (IntKind.u64.wrap n) 8) w w' := by
  have HW := Asd.mk hw
  clear hw
  have h0 : 0 ≤ IntKind.u64.wrap n := by rw [wrap_u64]; omega
  have h1 : IntKind.u64.wrap n / 256 ^ 8 = 0 := by
    have h2 : IntKind.u64.wrap n < 256 ^ 8 := by rw [wrap_u64]; have := Int.emod_lt_of_pos n (show (0 : Int) < 18446744073709551616 by decide); simpa using this
    exact Int.ediv_eq_zero_of_lt h0 h2
  have H1 := Asd.mk h1
  have H2 : Asd (IntKind.u64.wrap n < 18446744073709551616) := ⟨by rw [wrap_u64]; exact Int.emod_lt_of_pos n (by decide)⟩
  clear h1
  go_enter Try.func27, Try.ntmps27
  go_wp2_with fail
  refine (w2num_ok S g bs _ w HW.out h0 H1.out H2 hbs).mono ?_
  rintro e w' ⟨rfl, h⟩
  have H := Asd.mk h
  clear h
  go_wp2
  go_end0
  exact ⟨rfl, H.out⟩

end Go.Proofs.Ytbenghpodfkdcaa
