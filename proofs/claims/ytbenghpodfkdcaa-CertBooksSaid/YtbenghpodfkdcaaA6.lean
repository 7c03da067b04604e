/- Contracts of package octets' reader over this seat's translation. -/
import Derived.Test.YtbenghpodfkdcaaA5
namespace Go.Proofs.Ytbenghpodfkdcaa
open Go.RowKit

/-- A reader at block g: what is left of its bytes, its error; S: what belongs to it. -/
def IsRd (w : World) (S : Nat → Prop) (g : Nat) (bs : List Int) (err : Int) : Prop :=
  ∃ v, w.heap[g]? = some (.cells #[v, .int .i64 err] 81 (0, 0)) ∧ Rc w v bs.length 1 (nums .u8 bs) ∧ S g ∧ (∀ k, v.ownBlock = some k → S k ∧ k ≠ g) ∧ ∀ k, S k → k < w.heap.size

theorem IsRd.kept {w w1 : World} {S T : Nat → Prop} {g : Nat} {bs : List Int} {err : Int} (h : IsRd w S g bs err) (hk : Kp T w w1) (hd : ∀ k, S k → ¬ T k) : IsRd w1 S g bs err := by
  obtain ⟨v, hg, ho, hs, hv, hl⟩ := h
  exact ⟨v, hk.blk hg (hd g hs), ho.kept hk (fun k h => hd k (hv k h).1), hs, hv, fun k h => Nat.lt_of_lt_of_le (hl k h) hk.size⟩

set_option maxHeartbeats 800000 in
theorem done_ok (S : Nat → Prop) (g : Nat) (bs : List Int) (w : World) (hw : IsWr w S g bs) (hbs : bs.length ≤ 1000000) :
    Calls Try.prog 25 #[.pointer (some ⟨g, 0, none⟩)] w fun e w' => ∃ v', e = .returned (.tuple #[v', .int .i64 0]) ∧ Kp No w w' ∧ w'.ownsRow w.heap.size 5 1 v' bs.length (nums .u8 bs) := by
  obtain ⟨v, hg, ho, _, _, _⟩ := hw
  have c0 : w.cell? ⟨g, 0, none⟩ = some v := (blk_cell hg 0).trans rfl
  have c1 : w.cell? ⟨g, 1, none⟩ = some (.int .i64 0) := (blk_cell hg 1).trans rfl
  have HR := Asd.mk (own_rc ho)
  clear ho hg
  go_enter Try.func25, Try.ntmps25
  go_wp2_with fail
  refine (clone_bytes v bs.length bs w HR.out hbs).mono ?_
  rintro e w1 ⟨v1, rfl, hk1, ho1⟩
  have HK := Asd.mk hk1
  have HO := Asd.mk ho1
  clear hk1 ho1
  obtain ⟨A1, n1, rfl⟩ := own_slice HO.out
  go_wp2_with fail
  go_ret2
  exact ⟨_, rfl, HK.out, HO.out⟩

set_option maxHeartbeats 800000 in
theorem newReader_ok (v : Value) (n : Nat) (xs : List Int) (w : World) (h : Rc w v n 1 (nums .u8 xs)) (hn : n ≤ 1000000) :
    Calls Try.prog 30 #[v] w fun e w' => ∃ g, e = .returned (.pointer (some ⟨g, 0, none⟩)) ∧ Kp No w w' ∧ IsRd w' (fun k => w.heap.size ≤ k ∧ k < w'.heap.size) g xs 0 := by
  have HR := Asd.mk h
  have HL := Asd.mk h.length
  clear h
  go_enter Try.func30, Try.ntmps30
  go_wp2_with fail
  refine (clone_bytes v n xs w HR.out hn).mono ?_
  rintro e w1 ⟨v1, rfl, hk1, ho1⟩
  have HK := Asd.mk hk1
  have HO := Asd.mk ho1
  have hsz : w.heap.size ≤ w1.heap.size := hk1.size
  clear hk1 ho1
  obtain ⟨A1, n1, rfl⟩ := own_slice HO.out
  go_wp2_with fail
  go_ret
  refine ⟨_, rfl, HK.out.alloc _, .slice A1 n n1, blk_new _ _, ?_, ?_, ?_, ?_⟩
  · rw [HL.out]
    exact own_rc (HO.out.alloc _)
  · simp; omega
  · intro k hk
    have := HO.out.lt k hk
    simp
    omega
  · intro k hk
    exact hk.2

set_option maxHeartbeats 800000 in
theorem take_ok (S : Nat → Prop) (g : Nat) (bs : List Int) (n : Nat) (w : World) (hw : IsRd w S g bs 0) (hn : n ≤ bs.length) (hbs : bs.length ≤ 1000000) :
    Calls Try.prog 49 #[.pointer (some ⟨g, 0, none⟩), .int .i64 n] w fun e w' => ∃ v', e = .returned v' ∧ Kp (Only g) w w' ∧ w'.ownsRow w.heap.size 5 1 v' n (nums .u8 (bs.take n)) ∧ IsRd w' S g (bs.drop n) 0 := by
  obtain ⟨v, hg, ho, hS, hv, hl⟩ := hw
  have c0 : w.cell? ⟨g, 0, none⟩ = some v := (blk_cell hg 0).trans rfl
  have c1 : w.cell? ⟨g, 1, none⟩ = some (.int .i64 0) := (blk_cell hg 1).trans rfl
  have f0 : w.frozen? ⟨g, 0, none⟩ = false := blk_frozen hg 0
  have HG := Asd.mk hg
  have HR := Asd.mk ho
  obtain ⟨A, c, rfl, hnc⟩ : ∃ A c, v = .slice A bs.length c ∧ bs.length ≤ c := by obtain ⟨_, A, c, h, h2, _⟩ := ho; exact ⟨A, c, h, h2⟩
  have HV := Asd.mk hv
  have HS := Asd.mk hS
  have HSL := Asd.mk hl
  clear hv hS hl ho hg
  have hK : ∀ u, Kp (Only g) w (w.setCell ⟨g, 0, none⟩ u) := fun u => Kp.setCell (S := Only g) (p := ⟨g, 0, none⟩) (Kp.refl _ _) (.inl rfl) u
  have HKP := Asd.mk hK
  clear hK
  have hst : ∀ w2 : World, Kp No (w.setCell ⟨g, 0, none⟩ (.slice (cutA A c n) (bs.length - n) (c - n))) w2 → IsRd w2 S g (bs.drop n) 0 := by
    intro w2 hk
    have hd := HR.out.drop n hn rfl
    refine IsRd.kept (T := No) ⟨_, (blk_set HG.out 0 _), ?_, HS.out, ?_, ?_⟩ hk (fun _ _ h => h)
    · rw [nums_drop, List.length_drop]
      refine hd.kept (HKP.out _) ?_
      intro k hk h
      rw [cutA_block A bs.length] at hk
      exact (HV.out k hk).2 h
    · intro k hk
      rw [cutA_block A bs.length] at hk
      exact HV.out k hk
    · intro k hk
      simpa [World.setCell] using HSL.out k hk
  have HST := Asd.mk hst
  clear hst
  by_cases hcn : c = n
  · have hbn : bs.length = n := by omega
    subst hcn
    have hA : cutA A c c = A := by simp [cutA]
    rw [hA, hbn, Nat.sub_self] at HST
    clear hA
    have HBN := Asd.mk hbn
    clear hbn
    go_enter Try.func49, Try.ntmps49
    go_wp2_with fail
    refine (clone_bytes _ c (bs.take c) _ ((HR.out.take c hn).kept (HKP.out _) (fun k hk h => (HV.out k (by rw [← hk]; exact own_len _ _ _ _ _)).2 h)) (by omega)).mono ?_
    rintro e w1 ⟨v1, rfl, hk1, ho1⟩
    have HK := Asd.mk hk1
    have HO := Asd.mk ho1
    clear hk1 ho1
    obtain ⟨A1, n1, rfl⟩ := own_slice HO.out
    go_wp2_with fail
    go_ret
    refine ⟨_, rfl, (HKP.out _).trans HK.out (fun _ h => h.elim), ?_, HST.out _ HK.out⟩
    simpa [World.setCell] using HO.out
  · have hA : cutA A c n = A.map (·.add n) := by simp [cutA, hcn]
    rw [hA] at HST
    clear hA
    go_enter Try.func49, Try.ntmps49
    go_wp2_with fail
    refine (clone_bytes _ n (bs.take n) _ ((HR.out.take n hn).kept (HKP.out _) (fun k hk h => (HV.out k (by rw [← hk]; exact own_len _ _ _ _ _)).2 h)) (by omega)).mono ?_
    rintro e w1 ⟨v1, rfl, hk1, ho1⟩
    have HK := Asd.mk hk1
    have HO := Asd.mk ho1
    clear hk1 ho1
    obtain ⟨A1, n1, rfl⟩ := own_slice HO.out
    go_wp2_with fail
    go_ret
    refine ⟨_, rfl, (HKP.out _).trans HK.out (fun _ h => h.elim), ?_, HST.out _ HK.out⟩
    simpa [World.setCell] using HO.out
end Go.Proofs.Ytbenghpodfkdcaa
