/-
  The law LexJoined returns true for every input, never panics, and leaves its arguments and all memory that was there as it was. No conditions.
-/
import Derived.Test.YtlcjphbjddbgkaaLv
import Derived.Test.YtlcjphbjddbgkaaVv
import Derived.Test.YtlcjphbjddbgkaaRows
set_option linter.unusedVariables false
namespace Go.Proofs.Ytlcjphbjddbgkaa
open Go.ChangeMaps Go.ChangeShapes Go.WideShapes Go.ChangeAt Go.RowKit Go.Vc

theorem lexJoined_own : ownKnob Try.prog.godebug = none := by kernel_rfl
theorem lexJoined_params : Try.f7.params = #[9, 9] := by kernel_rfl
theorem lexJoined_results : Try.f7.resultTypes = #[4] := by kernel_rfl
theorem lexJoined_bool : Try.prog.underlying 4 = some .bool := by kernel_rfl
theorem lexJoined_t9 : Try.prog.underlying 9 = some .string := by kernel_rfl
set_option maxRecDepth 100000 in
theorem lexJoined_lifted (os : Os) (started : os.Started) (H : Type) (enc : TypeId × Value → H) :
    ReturnsInHanded {} Try.checked os 7 .any (Rows.lexJoinedSpec.pre6 enc Try.prog Try.f7 Rows.lexJoinedRow.domain false) (Rows.lexJoinedSpec.post enc Try.prog Try.f7 false true false false) := by
  refine returnsInHanded_of_change (C := Try.checked) lexJoined_own started (by kernel_rfl) Try.func7
    (ChangeSpec.witness6 (enc := enc) (C := Try.checked) false ⟨#[], #[.string ⟨#[]⟩, .string ⟨#[]⟩], []⟩ 8 (by kernel_rfl) (by kernel_rfl) (by kernel_rfl) (by kernel_rfl)) ?_
  intro W base args ds gs before hval0 hW hcnd _
  have hval : ∀ (j : Nat) t v, Try.f7.params[j]? = some t → args[j]? = some v → Value.okWide Try.prog W .any base t v := hval0
  have hW' := hW
  obtain ⟨p, q, hA0, hV, rfl, hfz, hnd⟩ := hW
  have hA : DataW.TrodAll enc Try.prog W 0 (fun _ => true) true Try.f7.params.toList args.toList ds p := hA0
  rw [lexJoined_params] at hA hval
  obtain ⟨v0, v1, d0, d1, p0, p1, rfl, rfl, rfl, h0, h1⟩ := trodAll_two hA
  obtain ⟨rfl, rfl⟩ := trodVars_none hV
  obtain ⟨a0, rfl, rfl, rfl, w0⟩ := open_string lexJoined_t9 (hval 0 9 v0 rfl rfl) h0
  obtain ⟨a1, rfl, rfl, rfl, w1⟩ := open_string lexJoined_t9 (hval 1 9 v1 rfl rfl) h1
  clear hA0 hval0
  refine (Lx.LexJoined_spec a0 a1 (Imm.all W) [] W (Sat.all W)).mono fun e W' ⟨I', F', hl, hs, he⟩ => ?_
  subst he
  exact ⟨_, rfl, post_stays (pa := []) (pv := []) hW' (fun _ _ _ => by rw [lexJoined_results]; exact trodAll_mk1 (shut_bool lexJoined_bool _))
    (fun sp _ => by rw [lexJoined_params]; exact trodAll_mk2 (shut_string lexJoined_t9 w0) (shut_string lexJoined_t9 w1)) (fun _ _ => rfl) rfl (Stays.of hl hs)
    (ok_one lexJoined_results rfl (okWide_bool_mk lexJoined_bool _))⟩
theorem lexJoined_holds : Rows.LexJoinedSaid :=
  OpenClaim.holds_of_wide 7 Try.f7 rfl rfl rfl rfl rfl rfl rfl ⟨rfl, rfl, rfl, rfl, rfl⟩ rfl rfl rfl rfl rfl (by kernel_rfl) Try.func7 (by kernel_rfl)
    (of_decide_eq_true (by kernel_rfl)) (by unfold Func.isWrapper; first | (rw [if_pos (by decide +kernel)]; kernel_rfl) | (rw [if_neg (by decide +kernel)]; exact ⟨rfl, rfl⟩))
    (fun os started H enc _ => lexJoined_lifted os started H enc)
end Go.Proofs.Ytlcjphbjddbgkaa
#print axioms Go.Proofs.Ytlcjphbjddbgkaa.lexJoined_holds
