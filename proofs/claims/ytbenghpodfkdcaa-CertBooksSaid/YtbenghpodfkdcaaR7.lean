/- Contracts of the references: Same; '==' of certificates, over this seat's translation. -/
import Derived.Test.YtbenghpodfkdcaaR6
import Derived.Laws.StructEq
namespace Go.Proofs.Ytbenghpodfkdcaa
open Go.RowKit

section
variable {P : Program} {d : Nat} {xs ys : Array Value} {f : Field} {fs : List Field} {a b : Value} {r s : Bool} {w : World}
theorem eqf_cons (hn : (f.name == "_") = false) (ha : (part f.type xs f.offset).run P w = .ok a w) (hb : (part f.type ys f.offset).run P w = .ok b w) (he : (Op.equalIn d f.type a b).run P w = .ok r w) (hr : (Op.eqFields d xs ys fs).run P w = .ok s w) : (Op.eqFields d xs ys (f :: fs)).run P w = .ok (r && s) w := by
  have hn' : f.name ≠ "_" := by simpa using hn
  rw [Op.eqFields]
  simp only [if_pos hn', Sem.run_bind, ha, hb, he, Result.andThen_ok]
  cases r
  · simp
  · simpa using hr
theorem eqf_nil : (Op.eqFields d xs ys []).run P w = .ok true w := by simp [Op.eqFields]
theorem eqA_of {t : TypeId} {fs : Array Field} (hu : P.underlying t = some (.struct fs)) (hp : P.stoodInHeld t = false) (h : (Op.eqFields d xs ys fs.toList).run P w = .ok r w) : (Op.equalIn (d + 1) t (.agg xs) (.agg ys)).run P w = .ok r w := by
  have hf : P.fieldsOf t = fs := by simp [Program.fieldsOf, hu]
  rw [run_equalIn_struct (P := P) w d t xs ys (by rw [hf]; exact hu) hp, hf]
  exact h
end

theorem eqInt (d : Nat) (x y : Int) (w : World) : (Op.equalIn (d + 1) 3 (.int .i64 x) (.int .i64 y)).run Try.prog w = .ok (x == y) w := by
  simp [Op.equalIn, run_underlying Try.underlying3]

def eqL (a b : List Int) : Bool := decide (a = b)
theorem beq8 (a0 a1 a2 a3 a4 a5 a6 a7 b0 b1 b2 b3 b4 b5 b6 b7 : Int) : (a0 == b0 && (a1 == b1 && (a2 == b2 && (a3 == b3 && (a4 == b4 && (a5 == b5 && (a6 == b6 && (a7 == b7 && true)))))))) = eqL [a0, a1, a2, a3, a4, a5, a6, a7] [b0, b1, b2, b3, b4, b5, b6, b7] := by
  unfold eqL
  rw [Bool.eq_iff_iff]
  simp
theorem eq8raw (a0 a1 a2 a3 a4 a5 a6 a7 b0 b1 b2 b3 b4 b5 b6 b7 : Int) (w : World) : (Op.equalIn 10000 23 (.agg #[.int .i64 a0, .int .i64 a1, .int .i64 a2, .int .i64 a3, .int .i64 a4, .int .i64 a5, .int .i64 a6, .int .i64 a7]) (.agg #[.int .i64 b0, .int .i64 b1, .int .i64 b2, .int .i64 b3, .int .i64 b4, .int .i64 b5, .int .i64 b6, .int .i64 b7])).run Try.prog w = .ok (a0 == b0 && (a1 == b1 && (a2 == b2 && (a3 == b3 && (a4 == b4 && (a5 == b5 && (a6 == b6 && (a7 == b7 && true)))))))) w := by
    refine eqA_of Try.underlying23 (by kernel_rfl) ?_
    refine eqf_cons rfl (a := .int .i64 a0) (b := .int .i64 b0) rfl rfl (eqInt 9998 _ _ _) ?_
    refine eqf_cons rfl (a := .int .i64 a1) (b := .int .i64 b1) rfl rfl (eqInt 9998 _ _ _) ?_
    refine eqf_cons rfl (a := .int .i64 a2) (b := .int .i64 b2) rfl rfl (eqInt 9998 _ _ _) ?_
    refine eqf_cons rfl (a := .int .i64 a3) (b := .int .i64 b3) rfl rfl (eqInt 9998 _ _ _) ?_
    refine eqf_cons rfl (a := .int .i64 a4) (b := .int .i64 b4) rfl rfl (eqInt 9998 _ _ _) ?_
    refine eqf_cons rfl (a := .int .i64 a5) (b := .int .i64 b5) rfl rfl (eqInt 9998 _ _ _) ?_
    refine eqf_cons rfl (a := .int .i64 a6) (b := .int .i64 b6) rfl rfl (eqInt 9998 _ _ _) ?_
    refine eqf_cons rfl (a := .int .i64 a7) (b := .int .i64 b7) rfl rfl (eqInt 9998 _ _ _) ?_
    exact eqf_nil
theorem eq8 (a0 a1 a2 a3 a4 a5 a6 a7 b0 b1 b2 b3 b4 b5 b6 b7 : Int) (w : World) : (binOp .eql 23 (.agg #[.int .i64 a0, .int .i64 a1, .int .i64 a2, .int .i64 a3, .int .i64 a4, .int .i64 a5, .int .i64 a6, .int .i64 a7]) (.agg #[.int .i64 b0, .int .i64 b1, .int .i64 b2, .int .i64 b3, .int .i64 b4, .int .i64 b5, .int .i64 b6, .int .i64 b7])).run Try.prog w = .ok (.bool (eqL [a0, a1, a2, a3, a4, a5, a6, a7] [b0, b1, b2, b3, b4, b5, b6, b7])) w := by
  have h := eq8raw a0 a1 a2 a3 a4 a5 a6 a7 b0 b1 b2 b3 b4 b5 b6 b7 w
  rw [beq8] at h
  simp only [binOp]
  simp [Op.equal, Op.maxDepth, h]
theorem neq8 (a0 a1 a2 a3 a4 a5 a6 a7 b0 b1 b2 b3 b4 b5 b6 b7 : Int) (w : World) : (binOp .neq 23 (.agg #[.int .i64 a0, .int .i64 a1, .int .i64 a2, .int .i64 a3, .int .i64 a4, .int .i64 a5, .int .i64 a6, .int .i64 a7]) (.agg #[.int .i64 b0, .int .i64 b1, .int .i64 b2, .int .i64 b3, .int .i64 b4, .int .i64 b5, .int .i64 b6, .int .i64 b7])).run Try.prog w = .ok (.bool (!eqL [a0, a1, a2, a3, a4, a5, a6, a7] [b0, b1, b2, b3, b4, b5, b6, b7])) w := by
  have h : (Op.equalIn 10000 23 (.agg #[.int .i64 a0, .int .i64 a1, .int .i64 a2, .int .i64 a3, .int .i64 a4, .int .i64 a5, .int .i64 a6, .int .i64 a7]) (.agg #[.int .i64 b0, .int .i64 b1, .int .i64 b2, .int .i64 b3, .int .i64 b4, .int .i64 b5, .int .i64 b6, .int .i64 b7])).run Try.prog w = .ok (eqL [a0, a1, a2, a3, a4, a5, a6, a7] [b0, b1, b2, b3, b4, b5, b6, b7]) w := by
    have h := eq8raw a0 a1 a2 a3 a4 a5 a6 a7 b0 b1 b2 b3 b4 b5 b6 b7 w
    rw [beq8] at h
    exact h
  simp only [binOp]
  simp [Op.equal, Op.maxDepth, h]

set_option maxHeartbeats 800000 in
theorem refSame_ok (v v' : Value) (n m : Nat) (xs ys : List Int) (w : World) (h : Rc w v n 1 (nums .u8 xs)) (h' : Rc w v' m 1 (nums .u8 ys)) (hn : n ≤ 1000000) (hm : m ≤ 1000000) :
    Calls Try.prog 12 #[v, v'] w fun e w' => e = .returned (.bool (decide (xs = ys))) ∧ Dr w w' := by
  have HX := Asd.mk h
  have HY := Asd.mk h'
  have HLX := Asd.mk h.length
  have HLY := Asd.mk h'.length
  obtain ⟨h1, A, c, rfl, h2, h3, h4⟩ := h
  obtain ⟨h1', A', c', rfl, h2', h3', h4'⟩ := h'
  have H3 := Asd.mk h3
  have H3' := Asd.mk h3'
  clear h1 h3 h4 h1' h3' h4'
  by_cases hnm : n = m
  · subst hnm
    go_enter Try.func12, Try.ntmps12
    go_wp2
    go_loopw [5] (fun i wr => ∃ k : Nat, k ≤ n ∧ i = .int .i64 k ∧ Asd (xs.take k = ys.take k) ∧ Asd (Dr w wr)) (fun i _ => n - (intOf i).toNat)
    case atStart => exact ⟨0, Nat.zero_le _, rfl, ⟨rfl⟩, ⟨Dr.refl _⟩⟩
    case round =>
      obtain ⟨k, hk, rfl, HE, HK⟩ := hrel
      by_cases hlt : k < n
      · cases A with
        | none => have := H3.out rfl; omega
        | some ad =>
          cases A' with
          | none => have := H3'.out rfl; omega
          | some ad' =>
            have hc := (HX.out.no HK.out.kp).num_at k hlt
            have hc' := (HY.out.no HK.out.kp).num_at k hlt
            have hkl : 0 ≤ (k : Int) := by omega
            have hkl2 : (k : Int) < n := by omega
            obtain ⟨x, hx⟩ : ∃ x, xs[k]?.getD 0 = x := ⟨_, rfl⟩
            obtain ⟨y, hy⟩ : ∃ y, ys[k]?.getD 0 = y := ⟨_, rfl⟩
            simp only [List.getD_eq_getElem?_getD, hx, hy] at hc hc'
            have HXk := Asd.mk hx
            have HYk := Asd.mk hy
            clear hx hy
            by_cases hxy : x = y
            · subst hxy
              go_wp2
              go_quiet (fail)
              go_wp2
              go_roundw
              case rel =>
                refine ⟨k + 1, by omega, by go_num, ⟨?_⟩, ⟨(HK.out.drewN _)⟩⟩
                rw [List.take_succ_eq_append_getElem (by have := HLX.out; omega), List.take_succ_eq_append_getElem (by have := HLY.out; omega), HE.out]
                congr 2
                have e1 := HXk.out
                have e2 := HYk.out
                rw [List.getElem?_eq_getElem (by have := HLX.out; omega)] at e1
                rw [List.getElem?_eq_getElem (by have := HLY.out; omega)] at e2
                simp only [Option.getD_some] at e1 e2
                rw [e1, e2]
              case measure => simp [intOf]; omega
            · have hb : (x != y) = true := by simpa using hxy
              have HN := Asd.mk hxy
              clear hxy
              go_wp2
              go_quiet (fail)
              go_wp2
              go_ret
              refine ⟨?_, HK.out.drewN _⟩
              have : xs ≠ ys := by
                rintro rfl
                exact HN.out (HXk.out.symm.trans HYk.out)
              simp [this]
      · have hd : decide (k < n) = false := by simpa using hlt
        go_wp2
        go_ret
        refine ⟨?_, HK.out⟩
        have h := HE.out
        rw [List.take_of_length_le (by have := HLX.out; omega), List.take_of_length_le (by have := HLY.out; omega)] at h
        simp [h]
  · have hb : ((n : Int) != (m : Int)) = true := by simpa using (by omega : ¬ (n : Int) = m)
    have hb2 : (n != m) = true := by simpa using hnm
    have hne : xs ≠ ys := by
      rintro rfl
      have := HLX.out; have := HLY.out; omega
    have HNE := Asd.mk hne
    clear hne hnm
    go_enter Try.func12, Try.ntmps12
    go_wp2
    go_ret
    exact ⟨by simp [HNE.out], Dr.refl _⟩

set_option maxHeartbeats 1600000 in
theorem refSameC_ok (v v' : Value) (ls ks : List (List Int)) (w : World) (h : Rc w v ls.length 8 (flat ls)) (h' : Rc w v' ks.length 8 (flat ks)) (hl : All8 ls) (hk : All8 ks) (hn : ls.length ≤ 100000) (hm : ks.length ≤ 100000) :
    Calls Try.prog 18 #[v, v'] w fun e w' => e = .returned (.bool (decide (ls = ks))) ∧ Dr w w' := by
  have HX := Asd.mk h
  have HY := Asd.mk h'
  have HL := Asd.mk hl
  have HKL := Asd.mk hk
  obtain ⟨h1, A, c, rfl, h2, h3, h4⟩ := h
  obtain ⟨h1', A', c', rfl, h2', h3', h4'⟩ := h'
  have H3 := Asd.mk h3
  have H3' := Asd.mk h3'
  clear h1 h3 h4 h1' h3' h4' hl hk
  obtain ⟨n, hnn⟩ : ∃ n, ls.length = n := ⟨_, rfl⟩
  obtain ⟨m, hmm⟩ : ∃ m, ks.length = m := ⟨_, rfl⟩
  rw [hnn] at HX h2 H3 hn ⊢
  rw [hmm] at HY h2' H3' hm ⊢
  have HLN := Asd.mk hnn
  have HLM := Asd.mk hmm
  clear hnn hmm
  have hneq := neq8
  by_cases hnm : n = m
  · subst hnm
    go_enter Try.func18, Try.ntmps18
    go_wp2
    go_loopw [5] (fun i wr => ∃ k : Nat, k ≤ n ∧ i = .int .i64 k ∧ Asd (ls.take k = ks.take k) ∧ Asd (Dr w wr)) (fun i _ => n - (intOf i).toNat)
    case atStart => exact ⟨0, Nat.zero_le _, rfl, ⟨rfl⟩, ⟨Dr.refl _⟩⟩
    case round =>
      obtain ⟨k, hk, rfl, HE, HK⟩ := hrel
      by_cases hlt : k < n
      · cases A with
        | none => have := H3.out rfl; omega
        | some ad =>
          cases A' with
          | none => have := H3'.out rfl; omega
          | some ad' =>
            have hcl := (HX.out.no HK.out.kp).flat_at HL.out k (by have := HLN.out; omega)
            have hcl' := (HY.out.no HK.out.kp).flat_at HKL.out k (by have := HLM.out; omega)
            obtain ⟨x, hx⟩ : ∃ x, ls[k]'(by have := HLN.out; omega) = x := ⟨_, rfl⟩
            obtain ⟨y, hy⟩ : ∃ y, ks[k]'(by have := HLM.out; omega) = y := ⟨_, rfl⟩
            have hx8 : x.length = 8 := by rw [← hx]; exact HL.out _ (List.getElem_mem _)
            have hy8 : y.length = 8 := by rw [← hy]; exact HKL.out _ (List.getElem_mem _)
            rw [hx] at hcl
            rw [hy] at hcl'
            have HXk := Asd.mk hx
            have HYk := Asd.mk hy
            clear hx hy
            obtain ⟨a0, a1, a2, a3, a4, a5, a6, a7, rfl⟩ := list8 x hx8
            obtain ⟨b0, b1, b2, b3, b4, b5, b6, b7, rfl⟩ := list8 y hy8
            clear hx8 hy8
            have p0 := hcl 0 _ rfl
            have p1 := hcl 1 _ rfl
            have p2 := hcl 2 _ rfl
            have p3 := hcl 3 _ rfl
            have p4 := hcl 4 _ rfl
            have p5 := hcl 5 _ rfl
            have p6 := hcl 6 _ rfl
            have p7 := hcl 7 _ rfl
            have q0 := hcl' 0 _ rfl
            have q1 := hcl' 1 _ rfl
            have q2 := hcl' 2 _ rfl
            have q3 := hcl' 3 _ rfl
            have q4 := hcl' 4 _ rfl
            have q5 := hcl' 5 _ rfl
            have q6 := hcl' 6 _ rfl
            have q7 := hcl' 7 _ rfl
            simp only [Addr.add_zero', Addr.add_succ'] at p0 p1 p2 p3 p4 p5 p6 p7 q0 q1 q2 q3 q4 q5 q6 q7
            have hkl : 0 ≤ (k : Int) := by omega
            have hkl2 : (k : Int) < n := by omega
            clear hcl hcl'
            obtain ⟨t, ht⟩ : ∃ t, eqL [a0, a1, a2, a3, a4, a5, a6, a7] [b0, b1, b2, b3, b4, b5, b6, b7] = t := ⟨_, rfl⟩
            have HT := Asd.mk ht
            cases t with
            | true =>
              go_wp2
              go_quiet (fail)
              go_wp2
              go_roundw
              case rel =>
                refine ⟨k + 1, by omega, by go_num, ⟨?_⟩, ⟨(HK.out.drewN _)⟩⟩
                rw [List.take_succ_eq_append_getElem (by have := HLN.out; omega), List.take_succ_eq_append_getElem (by have := HLM.out; omega), HE.out, HXk.out, HYk.out]
                have h := HT.out
                simp only [eqL, decide_eq_true_eq] at h
                rw [h]
              case measure => simp [intOf]; omega
            | false =>
              go_wp2
              go_quiet (fail)
              go_wp2
              go_ret
              refine ⟨?_, HK.out.drewN _⟩
              have : ls ≠ ks := by
                rintro rfl
                have h := HT.out
                rw [← HXk.out, HYk.out] at h
                simp [eqL] at h
              simp [this]
      · have hd : decide (k < n) = false := by simpa using hlt
        go_wp2
        go_ret
        refine ⟨?_, HK.out⟩
        have h := HE.out
        rw [List.take_of_length_le (by have := HLN.out; omega), List.take_of_length_le (by have := HLM.out; omega)] at h
        simp [h]
  · have hb : ((n : Int) != (m : Int)) = true := by simpa using (by omega : ¬ (n : Int) = m)
    have hb2 : (n != m) = true := by simpa using hnm
    have hne : ls ≠ ks := by
      rintro rfl
      have := HLN.out; have := HLM.out; omega
    have HNE := Asd.mk hne
    clear hne hnm
    go_enter Try.func18, Try.ntmps18
    go_wp2
    go_ret
    exact ⟨by simp [HNE.out], Dr.refl _⟩

end Go.Proofs.Ytbenghpodfkdcaa
