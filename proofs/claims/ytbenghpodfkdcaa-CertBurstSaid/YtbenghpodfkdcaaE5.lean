/- CertBurst: whatever the certificate, the place and the burst, the law answers true and nothing that was there has turned. -/
import Derived.Test.YtbenghpodfkdcaaD1
import Derived.Test.YtbenghpodfkdcaaRows
import Derived.Test.YtbenghpodfkdcaaM
namespace Go.Proofs.Ytbenghpodfkdcaa
open Go.ChangeShapes Go.WideShapes Go.ChangeAt Go.RowKit

theorem body_bytes (l : List Int) : Bytes (body l) := by
  intro x hx
  obtain ⟨n, _, hn⟩ := List.mem_flatMap.1 hx
  exact be_bytes _ _ x hn
theorem burst_law (a0 a1 a2 a3 a4 a5 a6 a7 : Int) (t u : Nat) (w : World) (ht : t < 65536) (hu : u < 65536) :
    Calls Try.prog 5 #[.agg #[.int .i64 a0, .int .i64 a1, .int .i64 a2, .int .i64 a3, .int .i64 a4, .int .i64 a5, .int .i64 a6, .int .i64 a7], .int .u16 t, .int .u16 u] w fun e w' => e = .returned (.bool true) ∧ Kp No w w' := by
  cases ho : okL [a0, a1, a2, a3, a4, a5, a6, a7] with
  | false => exact burst_skip a0 a1 a2 a3 a4 a5 a6 a7 t u w (.inl ho)
  | true =>
    by_cases h0 : u = 0
    · exact burst_skip a0 a1 a2 a3 a4 a5 a6 a7 t u w (.inr h0)
    · exact burst_main a0 a1 a2 a3 a4 a5 a6 a7 t u w ht hu h0 ho (seal_bytes _ (body_bytes _)) (seal_good _) (by rw [seal_length, body_length]; rfl)

set_option maxRecDepth 100000 in
theorem burst_lifted (os : Os) (started : os.Started) (H : Type) (enc : TypeId × Value → H) :
    ReturnsInHanded {} Try.checked os 5 .any (Rows.certBurstSpec.pre6 enc Try.prog Try.f5 Rows.certBurstRow.domain false) (Rows.certBurstSpec.post enc Try.prog Try.f5 false true false false) := by
  refine returnsInHanded_of_change (C := Try.checked) Try.own started (by kernel_rfl) Try.func5
    (ChangeSpec.witness6 (enc := enc) (C := Try.checked) false ⟨#[], #[.agg #[.int .i64 0, .int .i64 0, .int .i64 0, .int .i64 0, .int .i64 0, .int .i64 0, .int .i64 0, .int .i64 0], .int .u16 0, .int .u16 0], []⟩ 8 (by kernel_rfl) (by kernel_rfl) (by kernel_rfl) (by kernel_rfl)) ?_
  intro W base args ds gs before hval0 hW hcnd _
  have hval : ∀ (j : Nat) t v, Try.f5.params[j]? = some t → args[j]? = some v → Value.okWide Try.prog W .any base t v := hval0
  have hW' := hW
  obtain ⟨p, q, hA0, hV, rfl, hfz, hnd⟩ := hW
  have hA : DataW.TrodAll enc Try.prog W 0 (fun _ => true) true Try.f5.params.toList args.toList ds p := hA0
  rw [Try.params5] at hA hval
  obtain ⟨v0, v1, v2, d0, d1, d2, p0, p1, p2, rfl, rfl, rfl, h0, h1, h2⟩ := trodAll_three hA
  obtain ⟨rfl, rfl⟩ := trodVars_none hV
  simp only [List.append_nil] at hW'
  obtain ⟨a0, a1, a2, a3, a4, a5, a6, a7, rfl, wf0⟩ := open_cert (hval 0 23 v0 rfl rfl) h0
  obtain ⟨a, rfl, rfl, rfl, wa⟩ := open_int Try.underlying47 (hval 1 47 v1 rfl rfl) h1
  obtain ⟨b, rfl, rfl, rfl, wb⟩ := open_int Try.underlying47 (hval 2 47 v2 rfl rfl) h2
  obtain ⟨t, rfl, ht⟩ := u16_of wa
  obtain ⟨u, rfl, hu⟩ := u16_of wb
  clear hA0 hval0
  refine (burst_law a0 a1 a2 a3 a4 a5 a6 a7 t u W ht hu).mono fun e W' ⟨he, hk⟩ => ?_
  subst he
  exact ⟨_, rfl, post_true Try.laidOut hW' rfl (by kernel_rfl) Try.underlying4 (by kernel_rfl) rfl rfl rfl hk.no_below⟩

theorem burst_holds : Rows.CertBurstSaid :=
  OpenClaim.holds_of_wide 5 Try.f5 rfl rfl rfl rfl rfl rfl rfl ⟨rfl, rfl, rfl, rfl, rfl⟩ rfl rfl rfl rfl rfl (by kernel_rfl) Try.func5 (by kernel_rfl)
    (of_decide_eq_true (by kernel_rfl)) (by unfold Func.isWrapper; first | (rw [if_pos (by decide +kernel)]; kernel_rfl) | (rw [if_neg (by decide +kernel)]; exact ⟨rfl, rfl⟩))
    (fun os started H enc _ => burst_lifted os started H enc)

end Go.Proofs.Ytbenghpodfkdcaa
