/-
  The law LexAlls returns true for every input, never panics, and leaves its arguments and all memory that was there as it was. No conditions.
-/
import Derived.Test.YtlcjphbjddbgkaaMb
import Derived.Test.YtlcjphbjddbgkaaVv
import Derived.Test.YtlcjphbjddbgkaaVy
import Derived.Test.YtlcjphbjddbgkaaRows
set_option linter.unusedVariables false
namespace Go.Proofs.Ytlcjphbjddbgkaa
open Go.ChangeMaps Go.ChangeShapes Go.WideShapes Go.ChangeAt Go.RowKit Go.Vc

theorem lexAlls_own : ownKnob Try.prog.godebug = none := by kernel_rfl
theorem lexAlls_params : Try.f9.params = #[9, 3] := by kernel_rfl
theorem lexAlls_results : Try.f9.resultTypes = #[4] := by kernel_rfl
theorem lexAlls_bool : Try.prog.underlying 4 = some .bool := by kernel_rfl
theorem lexAlls_t9 : Try.prog.underlying 9 = some .string := by kernel_rfl
theorem lexAlls_t3 : Try.prog.underlying 3 = some (.int .i64) := by kernel_rfl
set_option maxRecDepth 100000 in
theorem lexAlls_lifted (os : Os) (started : os.Started) (H : Type) (enc : TypeId × Value → H) :
    ReturnsInHanded {} Try.checked os 9 .any (Rows.lexAllsSpec.pre6 enc Try.prog Try.f9 Rows.lexAllsRow.domain false) (Rows.lexAllsSpec.post enc Try.prog Try.f9 false true false false) := by
  refine returnsInHanded_of_change (C := Try.checked) lexAlls_own started (by kernel_rfl) Try.func9
    (ChangeSpec.witness6 (enc := enc) (C := Try.checked) false ⟨#[], #[.string ⟨#[]⟩, .int .i64 0], []⟩ 8 (by kernel_rfl) (by kernel_rfl) (by kernel_rfl) (by kernel_rfl)) ?_
  intro W base args ds gs before hval0 hW hcnd _
  have hval : ∀ (j : Nat) t v, Try.f9.params[j]? = some t → args[j]? = some v → Value.okWide Try.prog W .any base t v := hval0
  have hW' := hW
  obtain ⟨p, q, hA0, hV, rfl, hfz, hnd⟩ := hW
  have hA : DataW.TrodAll enc Try.prog W 0 (fun _ => true) true Try.f9.params.toList args.toList ds p := hA0
  rw [lexAlls_params] at hA hval
  obtain ⟨v0, v1, d0, d1, p0, p1, rfl, rfl, rfl, h0, h1⟩ := trodAll_two hA
  obtain ⟨rfl, rfl⟩ := trodVars_none hV
  obtain ⟨a0, rfl, rfl, rfl, w0⟩ := open_string lexAlls_t9 (hval 0 9 v0 rfl rfl) h0
  obtain ⟨a1, rfl, rfl, rfl, w1⟩ := open_int lexAlls_t3 (hval 1 3 v1 rfl rfl) h1
  clear hA0 hval0
  refine (Lx.LexAlls_spec a0 a1 (Imm.all W) [] W (Sat.all W)).mono fun e W' ⟨I', F', hl, hs, he⟩ => ?_
  subst he
  exact ⟨_, rfl, post_stays (pa := []) (pv := []) hW' (fun _ _ _ => by rw [lexAlls_results]; exact trodAll_mk1 (shut_bool lexAlls_bool _))
    (fun sp _ => by rw [lexAlls_params]; exact trodAll_mk2 (shut_string lexAlls_t9 w0) (shut_int lexAlls_t3 w1)) (fun _ _ => rfl) rfl (Stays.of hl hs)
    (ok_one lexAlls_results rfl (okWide_bool_mk lexAlls_bool _))⟩
theorem lexAlls_holds : Rows.LexAllsSaid :=
  OpenClaim.holds_of_wide 9 Try.f9 rfl rfl rfl rfl rfl rfl rfl ⟨rfl, rfl, rfl, rfl, rfl⟩ rfl rfl rfl rfl rfl (by kernel_rfl) Try.func9 (by kernel_rfl)
    (of_decide_eq_true (by kernel_rfl)) (by unfold Func.isWrapper; first | (rw [if_pos (by decide +kernel)]; kernel_rfl) | (rw [if_neg (by decide +kernel)]; exact ⟨rfl, rfl⟩))
    (fun os started H enc _ => lexAlls_lifted os started H enc)
end Go.Proofs.Ytlcjphbjddbgkaa
#print axioms Go.Proofs.Ytlcjphbjddbgkaa.lexAlls_holds
