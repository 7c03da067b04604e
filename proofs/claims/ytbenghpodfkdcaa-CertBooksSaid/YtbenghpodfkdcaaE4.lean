/- CertBooks: whatever the certificates, the ID and the exposures, the law answers true and nothing that was there has turned. -/
import Derived.Test.YtbenghpodfkdcaaD1
import Derived.Test.YtbenghpodfkdcaaC5
import Derived.Test.YtbenghpodfkdcaaRows
namespace Go.Proofs.Ytbenghpodfkdcaa
open Go.ChangeShapes Go.WideShapes Go.ChangeAt Go.RowKit

theorem books_law (v0 : Value) (ls : List (List Int)) (id : Int) (v2 : Value) (m : Nat) (now : List Int) (w : World) (h : Rc w v0 ls.length 8 (flat ls)) (h8 : All8 ls) (h2 : Rc w v2 m 1 (nums .i64 now)) :
    Calls Try.prog 4 #[v0, .int .i64 id, v2] w fun e w' => e = .returned (.bool true) ∧ Kp No w w' := by
  by_cases hs : ls.length ≤ 60 ∧ m ≤ 60
  · exact books_main v0 ls id v2 m now w h h8 h2 hs.1 hs.2
  · obtain ⟨_, A, c, rfl, _⟩ := h
    obtain ⟨_, A2, c2, rfl, _⟩ := h2
    exact books_long A ls.length c id A2 m c2 w (by omega)

set_option maxRecDepth 100000 in
theorem books_lifted (os : Os) (started : os.Started) (H : Type) (enc : TypeId × Value → H) :
    ReturnsInHanded {} Try.checked os 4 .any (Rows.certBooksSpec.pre6 enc Try.prog Try.f4 Rows.certBooksRow.domain false) (Rows.certBooksSpec.post enc Try.prog Try.f4 false true false false) := by
  refine returnsInHanded_of_change (C := Try.checked) Try.own started (by kernel_rfl) Try.func4
    (ChangeSpec.witness6 (enc := enc) (C := Try.checked) false ⟨#[], #[.slice none 0 0, .int .i64 0, .slice none 0 0], []⟩ 8 (by kernel_rfl) (by kernel_rfl) (by kernel_rfl) (by kernel_rfl)) ?_
  intro W base args ds gs before hval0 hW hcnd _
  have hval : ∀ (j : Nat) t v, Try.f4.params[j]? = some t → args[j]? = some v → Value.okWide Try.prog W .any base t v := hval0
  have hW' := hW
  obtain ⟨p, q, hA0, hV, rfl, hfz, hnd⟩ := hW
  have hA : DataW.TrodAll enc Try.prog W 0 (fun _ => true) true Try.f4.params.toList args.toList ds p := hA0
  rw [Try.params4] at hA hval
  obtain ⟨v0, v1, v2, d0, d1, d2, p0, p1, p2, rfl, rfl, rfl, h0, h1, h2⟩ := trodAll_three hA
  obtain ⟨rfl, rfl⟩ := trodVars_none hV
  obtain ⟨ls, hrc, h8⟩ := rc_of_rows Try.underlying34 Try.underlying23 (by kernel_rfl) (by kernel_rfl) (by
    intro j f hf
    rcases j with _ | _ | _ | _ | _ | _ | _ | _ | j
    all_goals first
      | (cases hf; exact Try.underlying3)
      | (exfalso; simp at hf)) (hval 0 34 v0 rfl rfl) h0
  obtain ⟨a, rfl, rfl, rfl, wa⟩ := open_int Try.underlying3 (hval 1 3 v1 rfl rfl) h1
  obtain ⟨m, now, hrc2, hwf⟩ := rc_of_ints Try.underlying35 Try.underlying3 (by kernel_rfl) (hval 2 35 v2 rfl rfl) h2
  clear hA0 hval0
  refine (books_law v0 ls a v2 m now W hrc h8 hrc2).mono fun e W' ⟨he, hk⟩ => ?_
  subst he
  exact ⟨_, rfl, post_true Try.laidOut hW' rfl (by kernel_rfl) Try.underlying4 (by kernel_rfl) rfl rfl rfl hk.no_below⟩

theorem books_holds : Rows.CertBooksSaid :=
  OpenClaim.holds_of_wide 4 Try.f4 rfl rfl rfl rfl rfl rfl rfl ⟨rfl, rfl, rfl, rfl, rfl⟩ rfl rfl rfl rfl rfl (by kernel_rfl) Try.func4 (by kernel_rfl)
    (of_decide_eq_true (by kernel_rfl)) (by unfold Func.isWrapper; first | (rw [if_pos (by decide +kernel)]; kernel_rfl) | (rw [if_neg (by decide +kernel)]; exact ⟨rfl, rfl⟩))
    (fun os started H enc _ => books_lifted os started H enc)

end Go.Proofs.Ytbenghpodfkdcaa
