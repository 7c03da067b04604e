/- Contracts of cert.Book over this seat's translation. -/
import Derived.Test.YtbenghpodfkdcaaB3
namespace Go.Proofs.Ytbenghpodfkdcaa
open Go.RowKit

def All8 (ls : List (List Int)) : Prop := ∀ l ∈ ls, l.length = 8
theorem info23 : (Try.prog.info? 23).map (fun i => (i.zero, i.size, i.bytes)) = some (some Z8, 8, 64) := by kernel_rfl
theorem info3 : (Try.prog.info? 3).map (fun i => (i.zero, i.size, i.bytes)) = some (some (.int .i64 0), 1, 8) := by kernel_rfl

/-- A book at block g. -/
def IsBk (w : World) (S : Nat → Prop) (g : Nat) (ls : List (List Int)) : Prop := Own1 w S g 70 (fun v => #[v]) 23 8 ls.length (flat ls) ∧ All8 ls
theorem IsBk.kept {w w1 : World} {S T : Nat → Prop} {g : Nat} {ls : List (List Int)} (h : IsBk w S g ls) (hk : Kp T w w1) (hd : ∀ k, S k → ¬ T k) : IsBk w1 S g ls := ⟨h.1.kept hk hd, h.2⟩

set_option maxHeartbeats 400000 in
theorem newBook_any (w : World) :
    Calls Try.prog 14 #[] w fun e w' => e = .returned (.pointer (some ⟨w.heap.size, 0, none⟩)) ∧ Kp No w w' ∧ IsBk w' (Only w.heap.size) w.heap.size [] := by
  go_enter Try.func14, Try.ntmps14
  go_wp2
  go_ret
  refine ⟨rfl, (Kp.refl _ _).alloc _, ⟨.slice none 0 0, blk_new _ _, World.ownsRow_nil _ _ _ _, rfl, ?_, ?_⟩, ?_⟩
  · intro k h
    cases h
  · intro k h
    cases h
    simp
  · intro l h
    cases h

theorem nil34 (w : World) (a : Option Addr) (n c n' c' : Nat) : (binOp .eql 34 (.slice a n c) (.slice none n' c')).run Try.prog w = .ok (.bool a.isNone) w :=
  Lib.run_eql_slice_nil w _ _ a n c n' c' Try.underlying34

set_option maxHeartbeats 400000 in
theorem clone_certs (v : Value) (ls : List (List Int)) (w : World) (h : Rc w v ls.length 8 (flat ls)) (hn : ls.length ≤ 100000) :
    Calls Try.prog 36 #[v] w fun e w' => ∃ v', e = .returned v' ∧ Kp No w w' ∧ w'.ownsRow w.heap.size 23 8 v' ls.length (flat ls) := by
  have h0 := h
  have q := nil34
  obtain ⟨h1, A, c, rfl, h2, h3, h4⟩ := h
  cases A with
  | none =>
    obtain ⟨hn0, rfl⟩ := h3 rfl
    have hx : ls = [] := List.eq_nil_of_length_eq_zero hn0
    subst hx
    clear h1 h3 h4 h0 hn
    go_enter Try.func36, Try.ntmps36
    go_wp2
    go_ret
    exact ⟨_, rfl, Kp.refl _ _, World.ownsRow_nil _ _ _ _⟩
  | some ad =>
    have HR := Asd.mk h0
    clear h1 h3 h4 h0
    go_enter Try.func36, Try.ntmps36
    go_wp2_with (at_builtin; refine wp_append_rc rfl (.tmp 5) (.tmp 6) 34 23 Z8 8 64 rfl Try.underlying34 info23 rfl (by decide) (by decide) w.heap.size (.slice (some ⟨w.heap.size, 0, none⟩) 0 0) 0 [] ls.length (some ad) c (flat ls) rfl rfl (HR.out.no ((Kp.refl _ _).alloc _)) (flat_one _) (World.ownsRow_made w #[] 0 (Nat.le_refl _) (by decide) rfl) (by simp) (by omega) ?_; intro v1 w1 ho1 hg1 hat1 hsh1; obtain ⟨A1, c1, rfl⟩ := hsh1; have HO1 := Asd.mk ho1; have HG1 := Asd.mk hg1; clear ho1 hg1 hat1)
    go_ret
    refine ⟨_, rfl, ((Kp.refl No w).alloc _).grown HG1.out (fun k hk => ?_), ?_⟩
    · cases hk
      exact .inr (Nat.le_refl _)
    · have h := HO1.out
      rw [Nat.zero_add] at h
      exact h

set_option maxHeartbeats 400000 in
theorem all_nil (w : World) : Calls Try.prog 19 #[.pointer none] w fun e w' => e = .returned (.slice none 0 0) ∧ w = w' := by
  go_enter Try.func19, Try.ntmps19
  go_wp2
  go_ret
  exact ⟨rfl, rfl⟩

set_option maxHeartbeats 400000 in
theorem all_ok (S : Nat → Prop) (g : Nat) (ls : List (List Int)) (w : World) (h : IsBk w S g ls) (hn : ls.length ≤ 100000) :
    Calls Try.prog 19 #[.pointer (some ⟨g, 0, none⟩)] w fun e w' => ∃ v', e = .returned v' ∧ Kp No w w' ∧ w'.ownsRow w.heap.size 23 8 v' ls.length (flat ls) := by
  obtain ⟨v, hg, ho, _⟩ := h.1
  have c0 : w.cell? ⟨g, 0, none⟩ = some v := (blk_cell hg 0).trans rfl
  have HR := Asd.mk (own_rc ho)
  obtain ⟨A, c, rfl⟩ := own_slice ho
  clear hg ho h
  go_enter Try.func19, Try.ntmps19
  go_wp2_with fail
  refine (clone_certs _ ls w HR.out hn).mono ?_
  rintro e w1 ⟨v1, rfl, hk1, ho1⟩
  have HK := Asd.mk hk1
  have HO := Asd.mk ho1
  clear hk1 ho1
  obtain ⟨A1, n1, rfl⟩ := own_slice HO.out
  go_wp2_with fail
  go_ret
  exact ⟨_, rfl, HK.out, HO.out⟩

set_option maxHeartbeats 400000 in
theorem cert_nil (i : Int) (w : World) : Calls Try.prog 17 #[.pointer none, .int .i64 i] w fun e w' => e = .returned (.tuple #[Z8, .int .i64 1]) ∧ Kp No w w' := by
  go_enter Try.func17, Try.ntmps17
  go_wp2_with (refine wpList_store_row rfl 23 (.tmp 4) (.tmp 9) rfl w.heap.size _ rfl rfl 23 _ (blk_new _ _) size23 rfl (by simp [Value.oneCell']) ?_)
  refine bodyPost_ret (v := .tuple #[.agg #[.int .i64 0, .int .i64 0, .int .i64 0, .int .i64 0, .int .i64 0, .int .i64 0, .int .i64 0, .int .i64 0], .int .i64 1]) ?_ rfl ⟨rfl, ((Kp.refl _ _).alloc _).setRow (.inr (Nat.le_refl _)) _⟩
  exact results_ct rfl _ _ w.heap.size 23 _ (0, 0) _ _ rfl rfl (setRow_heap _ _ _ _ _ _ (blk_new _ _)) Try.underlying23 rfl size23

set_option maxHeartbeats 400000 in
theorem cert_none (S : Nat → Prop) (g : Nat) (ls : List (List Int)) (i : Int) (w : World) (h : IsBk w S g ls) (hn : ls.length ≤ 100000) (hi : i < 1 ∨ ls.length < i) :
    Calls Try.prog 17 #[.pointer (some ⟨g, 0, none⟩), .int .i64 i] w fun e w' => e = .returned (.tuple #[Z8, .int .i64 5]) ∧ Kp No w w' := by
  obtain ⟨v, hg, ho, _⟩ := h.1
  have c0 : ∀ o, (w.alloc o).cell? ⟨g, 0, none⟩ = some v := fun o => (blk_cell (blk_alloc hg o) 0).trans rfl
  obtain ⟨A, c, rfl⟩ := own_slice ho
  clear hg ho h
  by_cases h1 : i < 1
  all_goals
    go_enter Try.func17, Try.ntmps17
    go_wp2_with (refine wpList_store_row rfl 23 (.tmp 4) (.tmp 22) rfl w.heap.size _ rfl rfl 23 _ (blk_new _ _) size23 rfl (by simp [Value.oneCell']) ?_)
    refine bodyPost_ret (v := .tuple #[.agg #[.int .i64 0, .int .i64 0, .int .i64 0, .int .i64 0, .int .i64 0, .int .i64 0, .int .i64 0, .int .i64 0], .int .i64 5]) ?_ rfl ⟨rfl, ((Kp.refl _ _).alloc _).setRow (.inr (Nat.le_refl _)) _⟩
    exact results_ct rfl _ _ w.heap.size 23 _ (0, 0) _ _ rfl rfl (setRow_heap _ _ _ _ _ _ (blk_new _ _)) Try.underlying23 rfl size23

set_option maxHeartbeats 400000 in
theorem cert_ok (S : Nat → Prop) (g : Nat) (ls : List (List Int)) (i : Nat) (w : World) (h : IsBk w S g ls) (hn : ls.length ≤ 100000) (hi : i < ls.length) :
    Calls Try.prog 17 #[.pointer (some ⟨g, 0, none⟩), .int .i64 ((i : Int) + 1)] w fun e w' => e = .returned (.tuple #[.agg (nums .i64 ls[i]).toArray, .int .i64 0]) ∧ Kp No w w' := by
  obtain ⟨v, hg, ho, _⟩ := h.1
  have c0 : ∀ o, (w.alloc o).cell? ⟨g, 0, none⟩ = some v := fun o => (blk_cell (blk_alloc hg o) 0).trans rfl
  have HR := Asd.mk (own_rc ho)
  have H8 := Asd.mk h.2
  obtain ⟨A, c, rfl⟩ := own_slice ho
  clear hg ho h
  cases A with
  | none => obtain ⟨_, _, _, h, _, h2, _⟩ := HR.out; cases h; have := h2 rfl; omega
  | some ad =>
    go_enter Try.func17, Try.ntmps17
    go_wp2_with (first | (refine wpList_load_at rfl 23 (.tmp 29) rfl (ad.add (i * 8)) rfl (nums .i64 ls[i]) _ ((HR.out.no ((Kp.refl No w).alloc _)).flat_at H8.out i hi) Try.underlying23 rfl (by rw [size23, nums_length, H8.out _ (List.getElem_mem hi)]) ?_) | (refine wpList_store_row rfl 23 (.tmp 4) (.tmp 30) rfl w.heap.size _ rfl rfl 23 _ (blk_new _ _) (by rw [size23]; simp [nums, H8.out _ (List.getElem_mem hi)]) (by simp [nums, H8.out _ (List.getElem_mem hi)]) (numsOne _) ?_))
    refine bodyPost_ret (v := .tuple #[.agg (nums .i64 ls[i]).toArray, .int .i64 0]) ?_ rfl ⟨rfl, ((Kp.refl _ _).alloc _).setRow (.inr (Nat.le_refl _)) _⟩
    exact results_ct rfl _ _ w.heap.size 23 _ (0, 0) _ _ rfl rfl (setRow_heap _ _ _ _ _ _ (blk_new _ _)) Try.underlying23 rfl (by rw [size23]; simp [nums, H8.out _ (List.getElem_mem hi)])

set_option maxHeartbeats 400000 in
theorem issue_nil (l : List Int) (hl : l.length = 8) (w : World) : Calls Try.prog 15 #[.pointer none, .agg (nums .i64 l).toArray] w fun e w' => e = .returned (.tuple #[.int .i64 0, .int .i64 1]) ∧ Kp No w w' := by
  go_enter Try.func15, Try.ntmps15
  go_wp2_with fail
  go_ret2
  exact ⟨rfl, (Kp.refl _ _).alloc _⟩

set_option maxHeartbeats 400000 in
theorem issue_bad (S : Nat → Prop) (g : Nat) (ls : List (List Int)) (l : List Int) (hl : l.length = 8) (w : World) (h : IsBk w S g ls) (hn : ls.length ≤ 100000) (hb : okL l = false) :
    Calls Try.prog 15 #[.pointer (some ⟨g, 0, none⟩), .agg (nums .i64 l).toArray] w fun e w' => e = .returned (.tuple #[.int .i64 0, .int .i64 1]) ∧ Kp No w w' := by
  have HB := Asd.mk hb
  have HL := Asd.mk hl
  clear hb h hl
  go_enter Try.func15, Try.ntmps15
  go_wp2_with (refine ungate (by kernel_rfl) (wpList_load_row rfl 23 (.tmp 3) rfl w.heap.size rfl 23 _ (0, 0) _ (blk_new _ _) Try.underlying23 rfl (by rw [size23]; simp [nums, HL.out]) ?_))
  refine (rightL_ok l HL.out _).mono ?_
  rintro e w1 ⟨rfl, hk1⟩
  rw [HB.out]
  have HK := Asd.mk (((Kp.refl No w).alloc _).then_ hk1)
  clear hk1
  go_wp2_with fail
  go_ret2
  exact ⟨rfl, HK.out⟩

set_option maxHeartbeats 800000 in
theorem issue_ok (S : Nat → Prop) (g : Nat) (ls : List (List Int)) (a0 a1 a2 a3 a4 a5 a6 a7 : Int) (w : World) (h : IsBk w S g ls) (hn : ls.length ≤ 100000) (hb : okL [a0, a1, a2, a3, a4, a5, a6, a7] = true) :
    Calls Try.prog 15 #[.pointer (some ⟨g, 0, none⟩), (.agg #[.int .i64 a0, .int .i64 a1, .int .i64 a2, .int .i64 a3, .int .i64 a4, .int .i64 a5, .int .i64 a6, .int .i64 a7])] w fun e w' => e = .returned (.tuple #[.int .i64 ((ls.length : Int) + 1), .int .i64 0]) ∧
      Upd S w w' (fun S' => IsBk w' S' g (ls ++ [[(ls.length : Int) + 1, a1, a2, a3, a4, a5, a6, a7]])) := by
  obtain ⟨⟨v, hg, ho, hS, hv, hl⟩, h8⟩ := h
  have HB := Asd.mk hb
  obtain ⟨A, c, rfl⟩ := own_slice ho
  have HG := Asd.mk hg
  have HO := Asd.mk ho
  have HS := Asd.mk hS
  have HV := Asd.mk hv
  have HL := Asd.mk hl
  have H8 := Asd.mk h8
  clear hb hg ho hS hv hl h8
  go_enter Try.func15, Try.ntmps15
  go_wp2_with fail
  refine (right_ok a0 a1 a2 a3 a4 a5 a6 a7 _).mono ?_
  rintro e w1 ⟨rfl, hk1⟩
  rw [HB.out]
  have HK := Asd.mk (((Kp.refl No w).alloc _).then_ hk1)
  have hb1 := hk1.blk (blk_new w _) (fun h => h)
  have hg1 := HK.out.blk HG.out (fun h => h)
  have c0 : w1.cell? ⟨g, 0, none⟩ = some (.slice A ls.length c) := (blk_cell hg1 0).trans rfl
  have c1 : w1.cell? ⟨w.heap.size, 0, none⟩ = some (.int .i64 a0) := (blk_cell hb1 0).trans rfl
  have c2 : w1.frozen? ⟨w.heap.size, 0, none⟩ = false := blk_frozen hb1 0
  clear hk1
  have hgs : g ≠ w.heap.size := by have := HL.out g HS.out; omega
  have HB1 := Asd.mk hb1
  have HG1 := Asd.mk hg1
  clear hb1 hg1
  go_wp2_with fail
  obtain ⟨W2, hW2⟩ : ∃ W2, W2 = w1.setCell ⟨w.heap.size, 0, none⟩ (.int .i64 ((ls.length : Int) + 1)) := ⟨_, rfl⟩
  have HK2 : Asd (Kp No w W2) := ⟨by rw [hW2]; exact HK.out.setCell (.inr (Nat.le_refl _)) _⟩
  have HB2 : Asd (W2.heap[w.heap.size]? = some (.cells #[.int .i64 ((ls.length : Int) + 1), .int .i64 a1, .int .i64 a2, .int .i64 a3, .int .i64 a4, .int .i64 a5, .int .i64 a6, .int .i64 a7] 23 (0, 0))) := ⟨by rw [hW2, blk_set HB1.out]; rfl⟩
  have HG2 := Asd.mk (HK2.out.blk HG.out (fun h => h))
  rw [← hW2]
  clear hW2 c0 c1 c2
  obtain ⟨k0, k1, k2, k3, k4, k5, k6, k7⟩ := cells8 _ a1 a2 a3 a4 a5 a6 a7 HB2.out
  have c0 : W2.cell? ⟨g, 0, none⟩ = some (.slice A ls.length c) := (blk_cell HG2.out 0).trans rfl
  have c0' : ∀ o, (W2.alloc o).cell? ⟨g, 0, none⟩ = some (.slice A ls.length c) := fun o => (blk_cell (blk_alloc HG2.out o) 0).trans rfl
  have hbn := fun (x : Value) => blk_new W2 (.cells #[.int .i64 ((ls.length : Int) + 1), .int .i64 a1, .int .i64 a2, .int .i64 a3, .int .i64 a4, .int .i64 a5, .int .i64 a6, .int .i64 a7] 23)
  have HBN := Asd.mk hbn
  clear hbn
  go_region_law (refine step_append_new rfl (.tmp 24) (.tmp 26) 34 23 Z8 8 64 rfl Try.underlying34 info23 rfl (by decide) (by decide) (.slice A ls.length c) ls.length (flat ls) W2.heap.size 1 1 [.int .i64 ((ls.length : Int) + 1), .int .i64 a1, .int .i64 a2, .int .i64 a3, .int .i64 a4, .int .i64 a5, .int .i64 a6, .int .i64 a7] ?hs ?hx ?hb rfl ?h1 ?ho ?hl (by decide) ?_; (case hs => simp [Act.eval, Act.put]); (case hx => simp [Act.eval, Act.put]); (case hb => exact HBN.out (.int .i64 0)); (case h1 => simp [Value.oneCell']); (case ho => exact (HK2.out.own HO.out (fun _ _ h => h)).alloc _); (case hl => omega); intro v1 w4 ho1 hg1 hat1 hsh1; obtain ⟨A1, cp1, rfl⟩ := hsh1; have hb1 := (hg1.block g (by have := blk_lt HG2.out; simp; omega) (fun h => (HV.out g h.symm).2 rfl)).trans (blk_alloc HG2.out _); have k01 := (blk_cell hb1 0).trans rfl; have k11 := blk_frozen hb1 0; have HO1 := Asd.mk ho1; have HG1 := Asd.mk hg1; have HAT := Asd.mk hat1; clear hb1 ho1 hg1 hat1)
  all_goals
    have hs2 : w.heap.size < W2.heap.size := blk_lt HB2.out
    have hbz : w4.heap[w.heap.size]? = some (.cells #[.int .i64 ((ls.length : Int) + 1), .int .i64 a1, .int .i64 a2, .int .i64 a3, .int .i64 a4, .int .i64 a5, .int .i64 a6, .int .i64 a7] 23 (0, 0)) :=
      (HG1.out.block w.heap.size (by simp; omega) (fun h => by have := HL.out _ (HV.out _ h.symm).1; omega)).trans (blk_alloc HB2.out _)
    have kz : ∀ u, (w4.setCell ⟨g, 0, none⟩ u).cell? ⟨w.heap.size, 0, none⟩ = some (.int .i64 ((ls.length : Int) + 1)) := fun u => (blk_cell (blk_far hbz (Ne.symm hgs) u) 0).trans rfl
    clear hbz
    go_wp2
    go_ret2
    refine ⟨rfl, ?_⟩
    have h := Own1.stored (mk := fun v => #[v]) (t := 70) (i := 0) HG.out HS.out HV.out HL.out ((HK2.out.alloc _).drew) HO1.out HG1.out HAT.out (fun u => rfl)
    refine h.imp fun S1 h1 => ⟨?_, ?_⟩
    · rw [flat_append, List.length_append]
      exact h1
    · intro l hl
      rw [List.mem_append] at hl
      rcases hl with hl | hl
      · exact H8.out l hl
      · simp at hl
        rw [hl]
        rfl

/-- Which certificates are flagged. -/
def flags (ls : List (List Int)) (now : List Int) (k : Nat) : List Int :=
  ((List.range k).filter fun i => decide (i < now.length) && decide ((ls[i]?.getD [])[7]?.getD 0 < now[i]?.getD 0)).map fun i => (ls[i]?.getD [])[0]?.getD 0
theorem flags_succ (ls : List (List Int)) (now : List Int) (k : Nat) : flags ls now (k + 1) = flags ls now k ++ if k < now.length ∧ (ls[k]?.getD [])[7]?.getD 0 < now[k]?.getD 0 then [(ls[k]?.getD [])[0]?.getD 0] else [] := by
  unfold flags
  rw [List.range_succ, List.filter_append, List.map_append, List.filter_cons]
  congr 1
  by_cases h : k < now.length ∧ (ls[k]?.getD [])[7]?.getD 0 < now[k]?.getD 0
  · rw [if_pos h, if_pos (by rw [Bool.and_eq_true, decide_eq_true_eq, decide_eq_true_eq]; exact h)]
    rfl
  · rw [if_neg h, if_neg (by rw [Bool.and_eq_true, decide_eq_true_eq, decide_eq_true_eq]; exact h)]
    rfl
theorem flags_length (ls : List (List Int)) (now : List Int) (k : Nat) : (flags ls now k).length ≤ k := by
  unfold flags
  rw [List.length_map]
  exact Nat.le_trans (List.length_filter_le _ _) (by simp)

set_option maxHeartbeats 400000 in
theorem flagged_nil (v : Value) (m : Nat) (now : List Int) (w : World) (h : Rc w v m 1 (nums .i64 now)) : Calls Try.prog 20 #[.pointer none, v] w fun e w' => e = .returned (.slice none 0 0) ∧ Kp No w w' := by
  obtain ⟨_, A, c, rfl, _⟩ := h
  go_enter Try.func20, Try.ntmps20
  go_wp2_with fail
  refine (all_nil w).mono ?_
  rintro e w1 ⟨rfl, rfl⟩
  go_wp2_with fail
  go_loop [5, 11] (fun o i => i = .int .i64 0 ∧ o = .slice none 0 0) (fun _ _ => 0)
  case atStart => exact ⟨rfl, rfl⟩
  case round =>
    obtain ⟨rfl, rfl⟩ := hrel
    go_wp2
    go_ret
    exact ⟨rfl, Kp.refl _ _⟩

set_option maxHeartbeats 1600000 in
theorem flagged_ok (S : Nat → Prop) (g : Nat) (ls : List (List Int)) (v : Value) (m : Nat) (now : List Int) (w : World) (h : IsBk w S g ls) (hn : ls.length ≤ 100000) (hr : Rc w v m 1 (nums .i64 now)) (hm : m ≤ 100000) :
    Calls Try.prog 20 #[.pointer (some ⟨g, 0, none⟩), v] w fun e w' => ∃ v', e = .returned v' ∧ Kp No w w' ∧ w'.ownsRow w.heap.size 3 1 v' (flags ls now ls.length).length (nums .i64 (flags ls now ls.length)) := by
  have HN := Asd.mk hr
  have HML := Asd.mk hr.length
  obtain ⟨_, A, c, rfl, _⟩ := hr
  have H8 := Asd.mk h.2
  go_enter Try.func20, Try.ntmps20
  go_wp2_with fail
  refine (all_ok S g ls w h hn).mono ?_
  clear h
  rintro e w1 ⟨v1, rfl, hk1, ho1⟩
  have HK := Asd.mk hk1
  have HO := Asd.mk ho1
  have HC := Asd.mk (own_rc ho1)
  have hs1 : w.heap.size ≤ w1.heap.size := hk1.size
  clear hk1 ho1
  obtain ⟨A1, n1, rfl⟩ := own_slice HO.out
  go_wp2_with fail
  go_loopw [5, 11] (fun o i wr => ∃ k : Nat, k ≤ ls.length ∧ i = .int .i64 k ∧ Asd (Kp No w1 wr ∧ wr.ownsRow w1.heap.size 3 1 o (flags ls now k).length (nums .i64 (flags ls now k)))) (fun _ i _ => ls.length - (intOf i).toNat)
  case atStart => exact ⟨0, Nat.zero_le _, rfl, ⟨Kp.refl _ _, World.ownsRow_nil _ _ _ _⟩⟩
  case round =>
    obtain ⟨k, hk, rfl, HR⟩ := hrel
    by_cases hlt : k < ls.length
    · cases A1 with
      | none => obtain ⟨_, _, _, h, _, h2, _⟩ := HC.out; cases h; have := h2 rfl; omega
      | some ad =>
        have hl8 := H8.out _ (List.getElem_mem hlt)
        have hcl := (HC.out.no HR.out.1).flat_at H8.out k hlt
        obtain ⟨l, hll⟩ : ∃ l, l = ls[k] := ⟨_, rfl⟩
        rw [← hll] at hl8 hcl
        have hlk : ls[k]?.getD [] = l := by rw [List.getElem?_eq_getElem hlt, hll]; rfl
        clear hll
        obtain ⟨b0, b1, b2, b3, b4, b5, b6, b7, rfl⟩ := list8 l hl8
        have HFS := Asd.mk (flags_succ ls now k)
        have HCL := Asd.mk hcl
        rw [hlk, HML.out] at HFS
        clear hlk hcl hl8
        have h0k : 0 ≤ (k : Int) := by omega
        go_wp2_with (first | (refine wpList_load_at rfl 23 (.tmp 14) rfl (ad.add (k * 8)) rfl (nums .i64 [b0, b1, b2, b3, b4, b5, b6, b7]) _ HCL.out Try.underlying23 rfl (by rw [size23]; rfl) ?_) | (refine wpList_store_row rfl 23 (.tmp 7) (.tmp 15) rfl wr.heap.size (nums .i64 [b0, b1, b2, b3, b4, b5, b6, b7]).toArray rfl rfl 23 _ (blk_new _ _) (by rw [size23]; rfl) rfl (numsOne _) ?_))
        obtain ⟨W1, hW1⟩ : ∃ W1, W1 = (wr.alloc (.cells #[.int .i64 0, .int .i64 0, .int .i64 0, .int .i64 0, .int .i64 0, .int .i64 0, .int .i64 0, .int .i64 0] 23)).setRow wr.heap.size (nums .i64 [b0, b1, b2, b3, b4, b5, b6, b7]).toArray := ⟨_, rfl⟩
        have HK1 : Asd (Kp No wr W1) := ⟨by rw [hW1]; exact ((Kp.refl _ _).alloc _).setRow (.inr (Nat.le_refl _)) _⟩
        have HB1 : Asd (W1.heap[wr.heap.size]? = some (.cells #[.int .i64 b0, .int .i64 b1, .int .i64 b2, .int .i64 b3, .int .i64 b4, .int .i64 b5, .int .i64 b6, .int .i64 b7] 23 (0, 0))) := ⟨by rw [hW1]; exact setRow_heap _ _ _ _ _ _ (blk_new _ _)⟩
        rw [← hW1]
        clear hW1
        obtain ⟨k0, k1, k2, k3, k4, k5, k6, k7⟩ := cells8 b0 b1 b2 b3 b4 b5 b6 b7 HB1.out
        clear k1 k2 k3 k4 k5 k6
        have HKW := Asd.mk (HR.out.1.then_ HK1.out)
        have HOW := Asd.mk (HK1.out.own HR.out.2 (fun _ _ h => h))
        have hsw : w1.heap.size ≤ W1.heap.size := HKW.out.size
        have hfl : (flags ls now k).length ≤ 100000 := by have := flags_length ls now k; omega
        by_cases hkm : k < m
        · have hcn : ∃ adn, A = some adn ∧ W1.cell? (adn.add k) = some (.int .i64 (now[k]?.getD 0)) := by
            have h := HN.out.no (HK.out.then_ HKW.out)
            cases A with
            | none => obtain ⟨_, _, _, h, _, h2, _⟩ := h; cases h; have := h2 rfl; omega
            | some adn =>
              refine ⟨adn, rfl, ?_⟩
              have := h.num_at k hkm
              simpa using this
          obtain ⟨adn, rfl, hcn⟩ := hcn
          obtain ⟨y, hy⟩ : ∃ y, now[k]?.getD 0 = y := ⟨_, rfl⟩
          rw [hy] at hcn HFS
          clear hy
          have hkm' : (k : Int) < (m : Int) := by omega
          by_cases hb : b7 < y
          · have HF2 : Asd (flags ls now (k + 1) = flags ls now k ++ [b0]) := ⟨by rw [HFS.out, if_pos ⟨hkm, hb⟩]; rfl⟩
            go_quiet (fail)
            obtain ⟨A5, c5, rfl⟩ := own_slice HOW.out
            go_wp2_with (at_builtin; refine wp_append_lit rfl (.tmp 29) (.tmp 32) 35 3 (.int .i64 0) 1 8 rfl Try.underlying35 info3 rfl (by decide) (by decide) w1.heap.size _ _ (nums .i64 (flags ls now k)) 1 W1.heap.size _ rfl rfl (blk_new _ _) rfl (by simp [Value.oneCell']) (HOW.out.alloc _) (by simp; omega) (by omega) ?_; intro v2 w2 ho2 hg2 hat2 hsh2; obtain ⟨A2, c2, rfl⟩ := hsh2; have HO2 := Asd.mk ho2; have HG2 := Asd.mk hg2; clear ho2 hg2 hat2)
            go_roundw
            case rel =>
              refine ⟨k + 1, by omega, by go_num, ⟨?_, ?_⟩⟩
              · exact ((HKW.out.drewN _).alloc _).grown HG2.out (fun b hb => .inr (HOW.out.lt b hb).1)
              · rw [HF2.out, List.length_append, nums_append]
                exact HO2.out
            case measure => simp [intOf]; omega
          · have HF2 : Asd (flags ls now (k + 1) = flags ls now k) := ⟨by rw [HFS.out, if_neg (fun h => hb h.2)]; simp⟩
            go_quiet (fail)
            go_wp2
            go_roundw
            case rel =>
              refine ⟨k + 1, by omega, by go_num, ⟨HKW.out.drewN _, ?_⟩⟩
              rw [HF2.out]
              exact HOW.out
            case measure => simp [intOf]; omega
        · have HF2 : Asd (flags ls now (k + 1) = flags ls now k) := ⟨by rw [HFS.out, if_neg (fun h => hkm h.1)]; simp⟩
          have hkm' : decide (k < m) = false := by simpa using hkm
          go_quiet (fail)
          go_wp2
          go_roundw
          case rel =>
            refine ⟨k + 1, by omega, by go_num, ⟨HKW.out.drewN _, ?_⟩⟩
            rw [HF2.out]
            exact HOW.out
          case measure => simp [intOf]; omega
    · have hd : decide (k < ls.length) = false := by simpa using hlt
      have hke : k = ls.length := by omega
      subst hke
      obtain ⟨A2, c2, rfl⟩ := own_slice HR.out.2
      go_wp2
      go_ret
      exact ⟨_, rfl, HK.out.then_ HR.out.1, own_low HR.out.2 hs1⟩

end Go.Proofs.Ytbenghpodfkdcaa
