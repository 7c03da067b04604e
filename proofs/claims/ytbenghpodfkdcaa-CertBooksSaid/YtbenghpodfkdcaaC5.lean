/- The walk of CertBooks: certificates issued, and what the book tells of them, are as the document says. -/
import Derived.Test.YtbenghpodfkdcaaC4
namespace Go.Proofs.Ytbenghpodfkdcaa
open Go.RowKit

set_option maxRecDepth 100000
set_option maxHeartbeats 400000 in
theorem books_long (A : Option Addr) (n c : Nat) (id : Int) (A2 : Option Addr) (m c2 : Nat) (w : World) (h : 60 < n ∨ 60 < m) :
    Calls Try.prog 4 #[.slice A n c, .int .i64 id, .slice A2 m c2] w fun e w' => e = .returned (.bool true) ∧ Kp No w w' := by
  by_cases hn : 60 < n
  · clear h
    go_enter Try.func4, Try.ntmps4
    go_wp2_with fail
    refine (alive_ok _).mono ?_
    rintro e w1 ⟨rfl, hk1⟩
    have HK := Asd.mk hk1
    clear hk1
    go_wp2_with fail
    go_ret
    exact ⟨rfl, HK.out⟩
  · have hm : 60 < m := by omega
    have hn2 : decide ((60 : Int) < (n : Int)) = false := decide_eq_false (by omega)
    have hm2 : decide ((60 : Int) < (m : Int)) = true := decide_eq_true (by omega)
    clear h hn hm
    go_enter Try.func4, Try.ntmps4
    go_wp2_with fail
    refine (alive_ok _).mono ?_
    rintro e w1 ⟨rfl, hk1⟩
    have HK := Asd.mk hk1
    clear hk1
    go_wp2_with fail
    go_ret
    exact ⟨rfl, HK.out⟩

set_option maxHeartbeats 8000000 in
theorem books_main (v0 : Value) (ls : List (List Int)) (id : Int) (v2 : Value) (m : Nat) (now : List Int) (w : World) (h : Rc w v0 ls.length 8 (flat ls)) (h8 : All8 ls) (h2 : Rc w v2 m 1 (nums .i64 now)) (hn : ls.length ≤ 60) (hm : m ≤ 60) :
    Calls Try.prog 4 #[v0, .int .i64 id, v2] w fun e w' => e = .returned (.bool true) ∧ Kp No w w' := by
  have HL := Asd.mk h
  have H8 := Asd.mk h8
  have HN := Asd.mk h2
  have HML := Asd.mk h2.length
  obtain ⟨n, hnn⟩ : ∃ n, ls.length = n := ⟨_, rfl⟩
  rw [hnn] at HL hn h
  have HLN := Asd.mk hnn
  clear hnn
  obtain ⟨_, A, c, rfl, _⟩ := h
  obtain ⟨_, A2, c2, rfl, _⟩ := h2
  clear h8
  have hn2 : decide ((60 : Int) < (n : Int)) = false := decide_eq_false (by omega)
  have hm2 : decide ((60 : Int) < (m : Int)) = false := decide_eq_false (by omega)
  go_enter Try.func4, Try.ntmps4
  go_wp2_with fail
  refine (newBook_any w).mono ?_
  rintro e w1 ⟨rfl, hk1, hbk1⟩
  obtain ⟨g, hg⟩ : ∃ g, g = w.heap.size := ⟨_, rfl⟩
  rw [← hg] at hbk1 ⊢
  have HB : Asd (Both w w1 g (booked ls 0) (.slice none 0 0)) := ⟨hk1, Only g, by rw [booked_zero]; exact hbk1, by rw [booked_zero]; exact own_rc (World.ownsRow_nil w1 w1.heap.size 23 8), (fun b hb => by cases hb), (fun b hb => by cases hb; omega)⟩
  clear hk1 hbk1 hn2 hm2
  have HG := Asd.mk hg
  clear hg
  go_wp2_with fail
  go_loopw [8, 9] (fun v8 i wr => ∃ k : Nat, k ≤ n ∧ i = .int .i64 k ∧ (∃ A m c, v8 = .slice A m c) ∧ Asd (Both w wr g (booked ls k) v8)) (fun _ i _ => n - (intOf i).toNat)
  case atStart => exact ⟨0, Nat.zero_le _, rfl, ⟨none, 0, 0, rfl⟩, HB⟩
  case round =>
    obtain ⟨k, hk, rfl, ⟨A8, n8, c8, rfl⟩, HR⟩ := hrel
    by_cases hlt : k < n
    · cases A with
      | none => obtain ⟨_, _, _, h, _, h2, _⟩ := HL.out; cases h; have := h2 rfl; omega
      | some ad =>
        obtain ⟨l, hl⟩ : ∃ l, l = ls[k]'(by have := HLN.out; omega) := ⟨_, rfl⟩
        have hl8 : l.length = 8 := by rw [hl]; exact H8.out _ (List.getElem_mem _)
        have HSU : Asd (booked ls (k + 1) = isu (booked ls k) l) := ⟨by rw [hl]; exact booked_succ ls k _⟩
        have HCL : Asd (∀ wr, Kp No w wr → ∀ (j : Nat) (u : Value), (nums .i64 l)[j]? = some u → wr.cell? ((ad.add (k * 8)).add j) = some u) := ⟨fun wr hk => by rw [hl]; exact (HL.out.no hk).flat_at H8.out k _⟩
        have HKL : Asd ((booked ls k).length ≤ 60) := ⟨by have := booked_length ls k (by have := HLN.out; omega); omega⟩
        clear hl
        have HL8 := Asd.mk hl8
        clear hl8
        obtain ⟨x, hx⟩ : ∃ x, x = isuN (booked ls k) l := ⟨_, rfl⟩
        obtain ⟨er, her⟩ : ∃ er, er = encE l := ⟨_, rfl⟩
        obtain ⟨hkr, S, hbk, hrc, hdis, hS⟩ := HR.out
        have h0k : 0 ≤ (k : Int) := by omega
        have hcl := HCL.out wr hkr
        have HCW := Asd.mk hcl
        have HIs := Asd.mk (issue_any S g (booked ls k) l HL8.out wr hbk (by have := HKL.out; omega))
        rw [← hx, ← her] at HIs
        have HKR := Asd.mk hkr
        have HBK := Asd.mk hbk
        have HRC := Asd.mk hrc
        have HDI := Asd.mk hdis
        have HSW := Asd.mk hS
        clear hkr hbk hrc hdis hS hcl HR
        have HX := Asd.mk hx
        have HER := Asd.mk her
        clear hx her
        go_wp2_with (refine wpList_load_at rfl 23 (.tmp 48) rfl (ad.add (k * 8)) rfl (nums .i64 l) _ HCW.out Try.underlying23 rfl (by rw [size23, nums_length, HL8.out]) ?_)
        refine HIs.out.mono ?_
        rintro e w3 ⟨rfl, hu3⟩
        have HU3 := Asd.mk hu3
        have HC3 := Asd.mk (HCL.out w3 (HKR.out.trans hu3.1 (fun b hb => .inr (HSW.out b hb))))
        have HRC3 := Asd.mk (HRC.out.kept hu3.1 (fun b hb => (HDI.out b hb).1))
        have HRI := Asd.mk (refIssue_any _ (booked ls k) l HL8.out w3 HRC3.out (by have := HKL.out; omega))
        rw [← HX.out, ← HER.out] at HRI
        clear hu3 HIs
        go_wp2_with (refine wpList_load_at rfl 23 (.tmp 57) rfl (ad.add (k * 8)) rfl (nums .i64 l) _ HC3.out Try.underlying23 rfl (by rw [size23, nums_length, HL8.out]) ?_)
        refine HRI.out.mono ?_
        rintro e w4 ⟨v4, rfl, hk4, hrc4, hv4⟩
        have HB4 : Asd (Both w w4 g (booked ls (k + 1)) v4) := ⟨by
          rw [HSU.out]
          exact Both.next HKR.out HDI.out HSW.out HU3.out hk4 hrc4 hv4⟩
        obtain ⟨A4, c4, rfl⟩ : ∃ A c, v4 = .slice A (isu (booked ls k) l).length c := by obtain ⟨_, A, c, h, _⟩ := hrc4; exact ⟨A, c, h⟩
        clear hk4 hrc4 hv4 HRI HX HER
        go_wp2_with fail
        go_roundw
        case rel => exact ⟨k + 1, by omega, by go_num, ⟨_, _, _, rfl⟩, HB4⟩
        case measure => simp [intOf]; omega
    · have hkn : k = n := by omega
      subst hkn
      have hd : decide (k < k) = false := by simp
      obtain ⟨wA, hwA⟩ : ∃ x, x = wr := ⟨_, rfl⟩
      subst hwA
      obtain ⟨ks, hks⟩ : ∃ ks, ks = booked ls k := ⟨_, rfl⟩
      have HKSL : Asd (ks.length ≤ 60) := ⟨by rw [hks]; have := booked_length ls k (by have := HLN.out; omega); omega⟩
      rw [← hks] at HR
      clear hks
      obtain ⟨hkr, S, hbk, hrc, hdis, hS⟩ := HR.out
      obtain rfl : n8 = ks.length := by obtain ⟨_, A, c, h, _⟩ := hrc; cases h; rfl
      have K8 : Asd (All8 ks) := ⟨hbk.2⟩
      have HKR := Asd.mk hkr
      have HBK := Asd.mk hbk
      have HRC := Asd.mk hrc
      have HSW := Asd.mk hS
      clear hkr hbk hrc hdis hS HR
      go_wp2_with fail
      go_loopw [15, 16] (fun o i wr => ∃ j : Nat, j ≤ ks.length ∧ i = .int .i64 j ∧ (∃ A m c, o = .slice A m c) ∧ Asd (Kp No wA wr ∧ wr.ownsRow wA.heap.size 3 1 o (flags ks now j).length (nums .i64 (flags ks now j)))) (fun _ i _ => ks.length - (intOf i).toNat)
      case atStart => exact ⟨0, Nat.zero_le _, rfl, ⟨_, _, _, rfl⟩, ⟨Kp.refl _ _, World.ownsRow_nil _ _ _ _⟩⟩
      case round =>
        obtain ⟨j, hj, rfl, ⟨A5, n5, c5, rfl⟩, HF⟩ := hrel
        by_cases hlt2 : j < ks.length
        · cases A8 with
          | none => obtain ⟨_, _, _, h, _, h2, _⟩ := HRC.out; cases h; have := h2 rfl; omega
          | some ad8 =>
            have hl8 := K8.out _ (List.getElem_mem hlt2)
            have hcl := (HRC.out.no HF.out.1).flat_at K8.out j hlt2
            obtain ⟨l, hll⟩ : ∃ l, l = ks[j] := ⟨_, rfl⟩
            rw [← hll] at hl8 hcl
            have hlk : ks[j]?.getD [] = l := by rw [List.getElem?_eq_getElem hlt2, hll]; rfl
            clear hll
            obtain ⟨b0, b1, b2, b3, b4, b5, b6, b7, rfl⟩ := list8 l hl8
            have HFS := Asd.mk (flags_succ ks now j)
            rw [hlk, HML.out] at HFS
            have p0 := hcl 0 _ rfl
            have p7 := hcl 7 _ rfl
            simp only [Addr.add_zero', Addr.add_succ'] at p0 p7
            clear hlk hcl hl8
            have h0j : 0 ≤ (j : Int) := by omega
            have hks60 : ks.length ≤ 60 := HKSL.out
            have hswr : wA.heap.size ≤ wr.heap.size := HF.out.1.size
            have h1j : (j : Int) < (ks.length : Int) := by omega
            obtain rfl : n5 = (flags ks now j).length := by obtain ⟨_, _, h⟩ := own_slice HF.out.2; cases h; rfl
            have hfl : (flags ks now j).length ≤ 100000 := by have := flags_length ks now j; have := HKSL.out; omega
            by_cases hjm : j < m
            · have hcn : ∃ adn, A2 = some adn ∧ wr.cell? (adn.add j) = some (.int .i64 (now[j]?.getD 0)) := by
                have h := HN.out.no (HKR.out.then_ HF.out.1)
                cases A2 with
                | none => obtain ⟨_, _, _, h, _, h2, _⟩ := h; cases h; have := h2 rfl; omega
                | some adn =>
                  refine ⟨adn, rfl, ?_⟩
                  have := h.num_at j hjm
                  simpa using this
              obtain ⟨adn, rfl, hcn⟩ := hcn
              obtain ⟨y, hy⟩ : ∃ y, now[j]?.getD 0 = y := ⟨_, rfl⟩
              rw [hy] at hcn HFS
              clear hy
              have hjm' : (j : Int) < (m : Int) := by omega
              by_cases hb : b7 < y
              · have HF2 : Asd (flags ks now (j + 1) = flags ks now j ++ [b0]) := ⟨by rw [HFS.out, if_pos ⟨hjm, hb⟩]; rfl⟩
                go_wp2_with fail
                go_quiet (fail)
                go_wp2_with (at_builtin; go_loud (refine wp_append_lit rfl (.tmp 94) (.tmp 100) 35 3 (.int .i64 0) 1 8 rfl Try.underlying35 info3 rfl (by decide) (by decide) wA.heap.size _ _ (nums .i64 (flags ks now j)) 1 wr.heap.size _ rfl rfl (blk_new _ _) rfl (by simp [Value.oneCell']) (HF.out.2.alloc _) (by simp; omega) (by omega) ?_); intro v2 w2 ho2 hg2 hat2 hsh2; obtain ⟨A2, c2, rfl⟩ := hsh2; have HO2 := Asd.mk ho2; have HG2 := Asd.mk hg2; clear ho2 hg2 hat2)
                go_roundw
                case rel =>
                  refine ⟨j + 1, by omega, by go_num, ⟨_, _, _, rfl⟩, ⟨?_, ?_⟩⟩
                  · exact ((HF.out.1.drewN _).alloc _).grown HG2.out (fun b hb => .inr (HF.out.2.lt b hb).1)
                  · rw [HF2.out, List.length_append, nums_append]
                    exact HO2.out
                case measure => simp [intOf]; omega
              · have HF2 : Asd (flags ks now (j + 1) = flags ks now j) := ⟨by rw [HFS.out, if_neg (fun h => hb h.2)]; simp⟩
                go_wp2_with fail
                go_quiet (fail)
                go_wp2_with fail
                go_roundw
                case rel =>
                  refine ⟨j + 1, by omega, by go_num, ⟨_, _, _, rfl⟩, ⟨HF.out.1.drewN _, ?_⟩⟩
                  rw [HF2.out]
                  exact HF.out.2
                case measure => simp [intOf]; omega
            · have HF2 : Asd (flags ks now (j + 1) = flags ks now j) := ⟨by rw [HFS.out, if_neg (fun h => hjm h.1)]; simp⟩
              have hjm' : decide (j < m) = false := by simpa using hjm
              go_wp2_with fail
              go_quiet (fail)
              go_wp2_with fail
              go_roundw
              case rel =>
                refine ⟨j + 1, by omega, by go_num, ⟨_, _, _, rfl⟩, ⟨HF.out.1.drewN _, ?_⟩⟩
                rw [HF2.out]
                exact HF.out.2
              case measure => simp [intOf]; omega
        · have hje : j = ks.length := by omega
          subst hje
          have hd2 : decide (ks.length < ks.length) = false := by simp
          obtain ⟨fl, hfl⟩ : ∃ fl, fl = flags ks now ks.length := ⟨_, rfl⟩
          rw [← hfl] at HF
          have hfl60 : fl.length ≤ 60 := by rw [hfl]; have := flags_length ks now ks.length; have := HKSL.out; omega
          have HFL := Asd.mk hfl
          clear hfl
          obtain rfl : n5 = fl.length := by obtain ⟨_, _, h⟩ := own_slice HF.out.2; cases h; rfl
          have hks60 : ks.length ≤ 60 := HKSL.out
          have HWA : Asd (Rc wr (.slice A5 fl.length c5) fl.length 1 (nums .i64 fl)) := ⟨own_rc HF.out.2⟩
          replace HBK := Asd.mk (HBK.out.kept HF.out.1 (fun _ _ h => h))
          replace HRC := Asd.mk (HRC.out.no HF.out.1)
          have HK : Asd (Kp No w wr) := ⟨HKR.out.then_ HF.out.1⟩
          clear HF HKR
          obtain ⟨X, hX⟩ : ∃ X, X = certV ks id := ⟨_, rfl⟩
          obtain ⟨er, her⟩ : ∃ er, er = certE ks id := ⟨_, rfl⟩
          have HCE := Asd.mk (cert_any S g ks id wr HBK.out (by omega))
          rw [← hX, ← her] at HCE
          have hX8 : X.length = 8 := by rw [hX]; exact certV_length ks K8.out id
          have hne := neq8
          have hcase : (id < 1 ∧ X = Zs ∧ er = 5) ∨ (1 ≤ id ∧ (ks.length : Int) < id ∧ X = Zs ∧ er = 5) ∨ ∃ i : Nat, ∃ hi : i < ks.length, id = (i : Int) + 1 ∧ X = ks[i] ∧ er = 0 := by
            rcases Int.lt_or_le id 1 with h | h
            · exact .inl ⟨h, hX.trans (if_neg (by omega)), her.trans (if_neg (by omega))⟩
            · rcases Int.lt_or_le (ks.length : Int) id with h2 | h2
              · exact .inr (.inl ⟨h, h2, hX.trans (if_neg (by omega)), her.trans (if_neg (by omega))⟩)
              · exact .inr (.inr ⟨(id - 1).toNat, by omega, by omega, by
                  rw [hX, certV, if_pos ⟨h, h2⟩, List.getElem?_eq_getElem (by omega)]
                  rfl, her.trans (if_pos ⟨h, h2⟩)⟩)
          clear hX her
          rcases hcase with ⟨h1, hX, rfl⟩ | ⟨h1, h2, hX, rfl⟩ | ⟨i, hi, rfl, hX, rfl⟩
          case' inl =>
            subst hX
            have hz1 : decide ((1 : Int) ≤ id) = false := decide_eq_false (by omega)
            have heqz : eqL [0, 0, 0, 0, 0, 0, 0, 0] [0, 0, 0, 0, 0, 0, 0, 0] = true := by decide
            go_wp2_with fail
            refine HCE.out.mono ?_
            rintro e w3 ⟨he, hk3⟩
            obtain rfl : e = .returned (.tuple #[.agg #[.int .i64 0, .int .i64 0, .int .i64 0, .int .i64 0, .int .i64 0, .int .i64 0, .int .i64 0, .int .i64 0], .int .i64 5]) := he
            go_wp2_with (refine wpList_store_rowA rfl 23 (.tmp 17) (.tmp 106) rfl #[.int .i64 0, .int .i64 0, .int .i64 0, .int .i64 0, .int .i64 0, .int .i64 0, .int .i64 0, .int .i64 0] rfl rfl size23 rfl (by simp [Value.oneCell']) ?_; intro w4 hk4 hc4; have HK4 := Asd.mk (hk3.then_ hk4); have HC4 := Asd.mk hc4; obtain ⟨z0, z1, z2, z3, z4, z5, z6, z7⟩ := cells8 0 0 0 0 0 0 0 0 HC4.out; clear hk3 hk4 hc4)
            go_quiet (fail)
            go_wp2_with fail
          case' inr.inl =>
            subst hX
            have hz1 : decide ((1 : Int) ≤ id) = true := decide_eq_true (by omega)
            have hz2 : decide (id ≤ (ks.length : Int)) = false := decide_eq_false (by omega)
            have heqz : eqL [0, 0, 0, 0, 0, 0, 0, 0] [0, 0, 0, 0, 0, 0, 0, 0] = true := by decide
            go_wp2_with fail
            refine HCE.out.mono ?_
            rintro e w3 ⟨he, hk3⟩
            obtain rfl : e = .returned (.tuple #[.agg #[.int .i64 0, .int .i64 0, .int .i64 0, .int .i64 0, .int .i64 0, .int .i64 0, .int .i64 0, .int .i64 0], .int .i64 5]) := he
            go_wp2_with (refine wpList_store_rowA rfl 23 (.tmp 17) (.tmp 106) rfl #[.int .i64 0, .int .i64 0, .int .i64 0, .int .i64 0, .int .i64 0, .int .i64 0, .int .i64 0, .int .i64 0] rfl rfl size23 rfl (by simp [Value.oneCell']) ?_; intro w4 hk4 hc4; have HK4 := Asd.mk (hk3.then_ hk4); have HC4 := Asd.mk hc4; obtain ⟨z0, z1, z2, z3, z4, z5, z6, z7⟩ := cells8 0 0 0 0 0 0 0 0 HC4.out; clear hk3 hk4 hc4)
            go_quiet (fail)
            go_wp2_with fail
          case' inr.inr =>
            have hz1 : decide ((1 : Int) ≤ (i : Int) + 1) = true := decide_eq_true (by omega)
            have hz2 : decide ((i : Int) + 1 ≤ (ks.length : Int)) = true := decide_eq_true (by omega)
            have hw1 : IntKind.i64.wrap ((i : Int) + 1 - 1) = (i : Int) := by rw [show (i : Int) + 1 - 1 = (i : Int) from by omega]; exact IntWalk.i64_in _ (by omega)
            have h0i : 0 ≤ (i : Int) := by omega
            have h1i : (i : Int) < (ks.length : Int) := by omega
            obtain ⟨ad8, rfl⟩ : ∃ ad8, A8 = some ad8 := by
              cases A8 with
              | none => obtain ⟨_, _, _, h, _, h2, _⟩ := HRC.out; cases h; have := h2 rfl; omega
              | some ad8 => exact ⟨_, rfl⟩
            have hcl := HRC.out.flat_at K8.out i hi
            rw [← hX] at hcl
            have HCL := Asd.mk hcl
            clear hcl hX
            obtain ⟨x0, x1, x2, x3, x4, x5, x6, x7, rfl⟩ := list8 X hX8
            have heqx : eqL [x0, x1, x2, x3, x4, x5, x6, x7] [x0, x1, x2, x3, x4, x5, x6, x7] = true := by simp [eqL]
            go_wp2_with fail
            refine HCE.out.mono ?_
            rintro e w3 ⟨he, hk3⟩
            obtain rfl : e = .returned (.tuple #[.agg #[.int .i64 x0, .int .i64 x1, .int .i64 x2, .int .i64 x3, .int .i64 x4, .int .i64 x5, .int .i64 x6, .int .i64 x7], .int .i64 0]) := he
            go_wp2_with (refine wpList_store_rowA rfl 23 (.tmp 17) (.tmp 106) rfl #[.int .i64 x0, .int .i64 x1, .int .i64 x2, .int .i64 x3, .int .i64 x4, .int .i64 x5, .int .i64 x6, .int .i64 x7] rfl rfl size23 rfl (by simp [Value.oneCell']) ?_; intro w4 hk4 hc4; have HK4 := Asd.mk (hk3.then_ hk4); have HC4 := Asd.mk hc4; obtain ⟨z0, z1, z2, z3, z4, z5, z6, z7⟩ := cells8 x0 x1 x2 x3 x4 x5 x6 x7 HC4.out; have p0 := HK4.out.cell (HCL.out 0 _ rfl) (fun h => h); have p1 := HK4.out.cell (HCL.out 1 _ rfl) (fun h => h); have p2 := HK4.out.cell (HCL.out 2 _ rfl) (fun h => h); have p3 := HK4.out.cell (HCL.out 3 _ rfl) (fun h => h); have p4 := HK4.out.cell (HCL.out 4 _ rfl) (fun h => h); have p5 := HK4.out.cell (HCL.out 5 _ rfl) (fun h => h); have p6 := HK4.out.cell (HCL.out 6 _ rfl) (fun h => h); have p7 := HK4.out.cell (HCL.out 7 _ rfl) (fun h => h); simp only [Addr.add_zero', Addr.add_succ'] at p0 p1 p2 p3 p4 p5 p6 p7; clear hk3 hk4 hc4)
            go_quiet (fail)
            go_wp2_with fail
            clear p0 p1 p2 p3 p4 p5 p6 p7 HCL
          all_goals
            clear z0 z1 z2 z3 z4 z5 z6 z7 HC4 hne hX8 HCE
            refine (all_ok S g ks _ ((HBK.out.kept HK4.out (fun _ _ h => h)).kept ((Kp.refl No w4).drewN _) (fun _ _ h => h)) (by omega)).mono ?_
            rintro e w5 ⟨v5, rfl, hk5, ho5⟩
            have hk45 : Kp No wr w5 := (HK4.out.drewN _).then_ hk5
            replace HBK := Asd.mk (HBK.out.kept hk45 (fun _ _ h => h))
            replace HRC := Asd.mk (HRC.out.no hk45)
            replace HWA := Asd.mk (HWA.out.no hk45)
            replace HK := Asd.mk (HK.out.then_ hk45)
            have HO5 := Asd.mk (own_rc ho5)
            obtain ⟨A9, c9, rfl⟩ := own_slice ho5
            clear hk5 ho5 HK4 hk45
            go_wp2_with fail
            refine (refSameC_ok _ _ ks ks w5 HO5.out HRC.out K8.out K8.out (by omega) (by omega)).mono ?_
            rintro e w6 ⟨he, hd6⟩
            obtain rfl : e = .returned (.bool true) := by rw [he]; simp
            have hk6 := hd6.kp
            replace HBK := Asd.mk (HBK.out.kept hk6 (fun _ _ h => h))
            replace HWA := Asd.mk (HWA.out.no hk6)
            replace HK := Asd.mk (HK.out.then_ hk6)
            clear hk6 hd6 he HO5 HRC
            go_wp2_with fail
            refine (flagged_ok S g ks _ m now w6 HBK.out (by omega) (HN.out.no HK.out) (by omega)).mono ?_
            rintro e w7 ⟨v7, rfl, hk7, ho7⟩
            rw [← HFL.out] at ho7
            obtain ⟨A7, c7, rfl⟩ := own_slice ho7
            have HO7 := Asd.mk (own_rc ho7)
            replace HBK := Asd.mk (HBK.out.kept hk7 (fun _ _ h => h))
            replace HWA := Asd.mk (HWA.out.no hk7)
            replace HK := Asd.mk (HK.out.then_ hk7)
            clear hk7 ho7
            go_wp2_with fail
            go_loopw [22] (fun i wr => ∃ j : Nat, j ≤ fl.length ∧ i = .int .i64 j ∧ Asd (Dr w7 wr)) (fun i _ => fl.length - (intOf i).toNat)
            case atStart => exact ⟨0, Nat.zero_le _, rfl, ⟨Dr.refl _⟩⟩
            case round =>
              obtain ⟨j, hj3, rfl, HD⟩ := hrel
              by_cases hlt3 : j < fl.length
              · obtain ⟨a7, rfl⟩ : ∃ a, A7 = some a := by
                  cases A7 with
                  | none => obtain ⟨_, _, _, h, _, h2, _⟩ := HO7.out; cases h; have := h2 rfl; omega
                  | some a => exact ⟨_, rfl⟩
                obtain ⟨a5, rfl⟩ : ∃ a, A5 = some a := by
                  cases A5 with
                  | none => obtain ⟨_, _, _, h, _, h2, _⟩ := HWA.out; cases h; have := h2 rfl; omega
                  | some a => exact ⟨_, rfl⟩
                have hc := (HO7.out.no HD.out.kp).num_at j hlt3
                have hc' := (HWA.out.no HD.out.kp).num_at j hlt3
                obtain ⟨x, hx⟩ : ∃ x, fl[j]?.getD 0 = x := ⟨_, rfl⟩
                simp only [List.getD_eq_getElem?_getD, hx] at hc hc'
                clear hx
                have h0j : 0 ≤ (j : Int) := by omega
                have h1j : (j : Int) < (fl.length : Int) := by omega
                go_wp2_with fail
                go_quiet (fail)
                go_wp2_with fail
                go_roundw
                case rel => exact ⟨j + 1, by omega, by go_num, ⟨HD.out.drewN _⟩⟩
                case measure => simp [intOf]; omega
              · have hd3 : decide ((j : Int) < (fl.length : Int)) = false := decide_eq_false (by omega)
                have hd3' : decide (j < fl.length) = false := decide_eq_false hlt3
                replace HBK := Asd.mk (HBK.out.kept HD.out.kp (fun _ _ h => h))
                replace HK := Asd.mk (HK.out.then_ HD.out.kp)
                go_wp2_with fail
                refine (issue_nil Zs rfl _).mono ?_
                rintro e w8 ⟨rfl, hk8⟩
                replace HBK := Asd.mk (HBK.out.kept hk8 (fun _ _ h => h))
                replace HK := Asd.mk (HK.out.then_ hk8)
                clear hk8
                go_wp2_with fail
                refine (cert_nil 1 w8).mono ?_
                rintro e w9 ⟨he, hk9⟩
                obtain rfl : e = .returned (.tuple #[.agg #[.int .i64 0, .int .i64 0, .int .i64 0, .int .i64 0, .int .i64 0, .int .i64 0, .int .i64 0, .int .i64 0], .int .i64 1]) := he
                replace HBK := Asd.mk (HBK.out.kept hk9 (fun _ _ h => h))
                replace HK := Asd.mk (HK.out.then_ hk9)
                clear hk9
                go_wp2_with (refine wpList_store_rowA rfl 23 (.tmp 26) (.tmp 179) rfl #[.int .i64 0, .int .i64 0, .int .i64 0, .int .i64 0, .int .i64 0, .int .i64 0, .int .i64 0, .int .i64 0] rfl rfl size23 rfl (by simp [Value.oneCell']) ?_; intro wC hkC hcC; have HKC := Asd.mk hkC; clear hkC hcC)
                replace HBK := Asd.mk (HBK.out.kept HKC.out (fun _ _ h => h))
                replace HK := Asd.mk (HK.out.then_ HKC.out)
                refine (alive_ok _).mono ?_
                rintro e wD ⟨rfl, hkD⟩
                replace HBK := Asd.mk (HBK.out.kept hkD (fun _ _ h => h))
                replace HK := Asd.mk (HK.out.then_ hkD)
                clear hkD
                go_wp2_with fail
                refine (all_nil _).mono ?_
                rintro e wE ⟨rfl, rfl⟩
                go_wp2_with fail
                refine (flagged_nil _ m now _ (HN.out.no HK.out)).mono ?_
                rintro e wE ⟨rfl, hkE⟩
                replace HBK := Asd.mk (HBK.out.kept hkE (fun _ _ h => h))
                replace HK := Asd.mk (HK.out.then_ hkE)
                clear hkE
                go_wp2_with fail
                refine (flagged_ok S g ks _ 0 [] wE HBK.out (by omega) (rc_nil wE .i64) (by decide)).mono ?_
                rintro e wF ⟨vF, rfl, hkF, hoF⟩
                rw [flags_none] at hoF
                obtain ⟨AF, cF, rfl⟩ := own_slice (n := 0) hoF
                replace HK := Asd.mk (HK.out.then_ hkF)
                clear hkF hoF
                go_wp2_with fail
                go_ret
                exact ⟨rfl, HK.out⟩

end Go.Proofs.Ytbenghpodfkdcaa
