/- Contracts of the references: Issue, Same, over this seat's translation. -/
import Derived.Test.YtbenghpodfkdcaaR5
import Derived.Deep.RegionHeld3
namespace Go.Proofs.Ytbenghpodfkdcaa
open Go.RowKit

set_option maxHeartbeats 800000 in
theorem refIssue_bad (v : Value) (ls : List (List Int)) (a0 a1 a2 a3 a4 a5 a6 a7 : Int) (w : World) (h : Rc w v ls.length 8 (flat ls)) (hb : okL [a0, a1, a2, a3, a4, a5, a6, a7] = false) :
    Calls Try.prog 16 #[v, (.agg #[.int .i64 a0, .int .i64 a1, .int .i64 a2, .int .i64 a3, .int .i64 a4, .int .i64 a5, .int .i64 a6, .int .i64 a7])] w fun e w' => e = .returned (.tuple #[v, .int .i64 0, .int .i64 1]) ∧ Kp No w w' := by
  have HB := Asd.mk hb
  obtain ⟨_, A, c, rfl, _⟩ := h
  clear hb
  go_enter Try.func16, Try.ntmps16
  go_wp2_with fail
  refine (refRight_ok a0 a1 a2 a3 a4 a5 a6 a7 _).mono ?_
  rintro e w1 ⟨rfl, hk1⟩
  rw [HB.out]
  have HK := Asd.mk (((Kp.refl No w).alloc _).then_ hk1)
  clear hk1
  go_wp2_with fail
  go_ret3
  exact ⟨rfl, HK.out⟩

set_option maxHeartbeats 1600000 in
theorem refIssue_ok (v : Value) (ls : List (List Int)) (a0 a1 a2 a3 a4 a5 a6 a7 : Int) (w : World) (h : Rc w v ls.length 8 (flat ls)) (hn : ls.length ≤ 100000) (hb : okL [a0, a1, a2, a3, a4, a5, a6, a7] = true) :
    Calls Try.prog 16 #[v, (.agg #[.int .i64 a0, .int .i64 a1, .int .i64 a2, .int .i64 a3, .int .i64 a4, .int .i64 a5, .int .i64 a6, .int .i64 a7])] w fun e w' => ∃ v', e = .returned (.tuple #[v', .int .i64 ((ls.length : Int) + 1), .int .i64 0]) ∧ Kp No w w' ∧
      w'.ownsRow w.heap.size 23 8 v' (ls.length + 1) (flat (ls ++ [[(ls.length : Int) + 1, a1, a2, a3, a4, a5, a6, a7]])) := by
  have HR := Asd.mk h
  have HB := Asd.mk hb
  obtain ⟨_, A, c, rfl, _⟩ := h
  clear hb
  go_enter Try.func16, Try.ntmps16
  go_wp2_with fail
  refine (refRight_ok a0 a1 a2 a3 a4 a5 a6 a7 _).mono ?_
  rintro e w1 ⟨rfl, hk1⟩
  rw [HB.out]
  have HK := Asd.mk (((Kp.refl No w).alloc _).then_ hk1)
  have hb1 := hk1.blk (blk_new w _) (fun h => h)
  have c1 : w1.cell? ⟨w.heap.size, 0, none⟩ = some (.int .i64 a0) := (blk_cell hb1 0).trans rfl
  have c2 : w1.frozen? ⟨w.heap.size, 0, none⟩ = false := blk_frozen hb1 0
  have HB1 := Asd.mk hb1
  clear hk1 hb1
  go_wp2_with fail
  obtain ⟨W2, hW2⟩ : ∃ W2, W2 = w1.setCell ⟨w.heap.size, 0, none⟩ (.int .i64 ((ls.length : Int) + 1)) := ⟨_, rfl⟩
  have HK2 : Asd (Kp No w W2) := ⟨by rw [hW2]; exact HK.out.setCell (.inr (Nat.le_refl _)) _⟩
  have HB2 : Asd (W2.heap[w.heap.size]? = some (.cells #[.int .i64 ((ls.length : Int) + 1), .int .i64 a1, .int .i64 a2, .int .i64 a3, .int .i64 a4, .int .i64 a5, .int .i64 a6, .int .i64 a7] 23 (0, 0))) := ⟨by rw [hW2, blk_set HB1.out]; rfl⟩
  rw [← hW2]
  clear hW2 c1 c2
  have SF : ∀ W : World, Kp No W2 W → Asd (Kp No W2 W) ∧ W.cell? ⟨w.heap.size, 0, none⟩ = some (.int .i64 ((ls.length : Int) + 1)) ∧ W.cell? ⟨w.heap.size, 1, none⟩ = some (.int .i64 a1) ∧ W.cell? ⟨w.heap.size, 2, none⟩ = some (.int .i64 a2) ∧ W.cell? ⟨w.heap.size, 3, none⟩ = some (.int .i64 a3) ∧ W.cell? ⟨w.heap.size, 4, none⟩ = some (.int .i64 a4) ∧ W.cell? ⟨w.heap.size, 5, none⟩ = some (.int .i64 a5) ∧ W.cell? ⟨w.heap.size, 6, none⟩ = some (.int .i64 a6) ∧ W.cell? ⟨w.heap.size, 7, none⟩ = some (.int .i64 a7) :=
    fun W hk => ⟨⟨hk⟩, cells8 _ a1 a2 a3 a4 a5 a6 a7 (hk.blk HB2.out (fun h => h))⟩
  have HSF := Asd.mk SF
  clear SF
  go_region_held3 (fun W => Asd (Kp No W2 W) ∧ W.cell? ⟨w.heap.size, 0, none⟩ = some (.int .i64 ((ls.length : Int) + 1)) ∧ W.cell? ⟨w.heap.size, 1, none⟩ = some (.int .i64 a1) ∧ W.cell? ⟨w.heap.size, 2, none⟩ = some (.int .i64 a2) ∧ W.cell? ⟨w.heap.size, 3, none⟩ = some (.int .i64 a3) ∧ W.cell? ⟨w.heap.size, 4, none⟩ = some (.int .i64 a4) ∧ W.cell? ⟨w.heap.size, 5, none⟩ = some (.int .i64 a5) ∧ W.cell? ⟨w.heap.size, 6, none⟩ = some (.int .i64 a6) ∧ W.cell? ⟨w.heap.size, 7, none⟩ = some (.int .i64 a7))
    ((refine HSF.out _ ?_; first | ((repeat (first | (with_reducible exact Kp.refl _ _) | (with_reducible refine Kp.drew ?_) | (with_reducible refine Kp.alloc ?_ _))); done) | exact HK22.out | ((with_reducible refine Kp.alloc ?_ _); exact HK19.out) | exact HK19.out))
    (first
      | ((first
          | refine step_append_first (by rfl) (.tmp 17) (.tmp 18) 34 23 Z8 8 64 (by rfl) Try.underlying34 info23 rfl (by decide) (by decide) W2.heap.size ls.length A c (flat ls) (by rfl) (by rfl) ?hr (flat_one _) ?hb (by omega) ?_
          | refine step_append_first (by rfl) (.tmp 17) (.tmp 18) 34 23 Z8 8 64 (by rfl) Try.underlying34 info23 rfl (by decide) (by decide) (W2.heap.size + 1) ls.length A c (flat ls) (by rfl) (by rfl) ?hr (flat_one _) ?hb (by omega) ?_)
         case hr => go_must (refine HR.out.no (HK2.out.then_ ?_); repeat (first | (with_reducible exact Kp.refl _ _) | (with_reducible refine Kp.drew ?_) | (with_reducible refine Kp.alloc ?_ _)))
         case hb => go_must (first | exact blk_new W2 _ | exact heap_alloc2_new W2 _ _ | exact heap_alloc2_old W2 _ _)
         intro A3 c3 w3 ho3 hg3
         have HK19 : Asd (Kp No W2 w3) := ⟨Kp.grown (by repeat (first | (with_reducible exact Kp.refl _ _) | (with_reducible refine Kp.drew ?_) | (with_reducible refine Kp.alloc ?_ _))) hg3 (fun k hk => by cases hk; exact .inr (by omega))⟩
         have HO3 := Asd.mk ho3
         have HG3 := Asd.mk hg3
         clear ho3 hg3)
      | (refine step_append_rc (by rfl) (.tmp 19) (.tmp 21) 34 23 Z8 8 64 (by rfl) Try.underlying34 info23 rfl (by decide) (by decide) W2.heap.size (.slice A3 ls.length c3) ls.length (flat ls) 1 _ 1 [.int .i64 ((ls.length : Int) + 1), .int .i64 a1, .int .i64 a2, .int .i64 a3, .int .i64 a4, .int .i64 a5, .int .i64 a6, .int .i64 a7] (by rfl) (by rfl) ?hr ?h1 ?HO ?hbase (by omega) ?_
         case hr => go_must (refine rc_block (e := 23) (cs := #[.int .i64 ((ls.length : Int) + 1), .int .i64 a1, .int .i64 a2, .int .i64 a3, .int .i64 a4, .int .i64 a5, .int .i64 a6, .int .i64 a7]) ?_ rfl; first | exact blk_new _ _ | exact grown_blk HG3.out (heap_alloc2_new W2 _ _) (by simp) | exact grown_blk HG3.out (heap_alloc2_old W2 _ _) (by simp))
         case h1 => go_must (simp [Value.oneCell'])
         case HO => go_must (first | exact own_low HO3.out (by omega) | exact own_low (HO3.out.alloc _) (by omega))
         case hbase => go_must (have := HK19.out.size; simp; try omega)
         intro v4 w4 ho4 hg4 hat4 hsh4
         obtain ⟨A4, c4, rfl⟩ := hsh4
         have HK22 : Asd (Kp No W2 w4) := ⟨Kp.grown (by first | exact HK19.out | ((with_reducible refine Kp.alloc ?_ _); exact HK19.out)) hg4 (fun k hk => .inr (by have := (HO3.out.lt k hk).1; omega))⟩
         have HO4 := Asd.mk ho4
         clear ho4 hg4 hat4))
  all_goals
    have hs2 : w.heap.size ≤ W2.heap.size := HK2.out.size
    go_wp2
    go_ret3
    refine ⟨_, rfl, HK2.out.then_ HK22.out, ?_⟩
    rw [flat_append]
    exact own_low HO4.out hs2

end Go.Proofs.Ytbenghpodfkdcaa
