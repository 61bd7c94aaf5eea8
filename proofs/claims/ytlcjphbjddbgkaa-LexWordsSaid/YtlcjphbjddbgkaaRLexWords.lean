/-
  The law LexWords returns true for every input, never panics, and leaves its arguments and all memory that was there as it was. No conditions.
-/
import Derived.Test.YtlcjphbjddbgkaaLz
import Derived.Test.YtlcjphbjddbgkaaVv
import Derived.Test.YtlcjphbjddbgkaaVy
import Derived.Test.YtlcjphbjddbgkaaRows
set_option linter.unusedVariables false
namespace Go.Proofs.Ytlcjphbjddbgkaa
open Go.ChangeMaps Go.ChangeShapes Go.WideShapes Go.ChangeAt Go.RowKit Go.Vc

theorem lexWords_own : ownKnob Try.prog.godebug = none := by kernel_rfl
theorem lexWords_params : Try.f5.params = #[9] := by kernel_rfl
theorem lexWords_results : Try.f5.resultTypes = #[4] := by kernel_rfl
theorem lexWords_bool : Try.prog.underlying 4 = some .bool := by kernel_rfl
theorem lexWords_t9 : Try.prog.underlying 9 = some .string := by kernel_rfl
set_option maxRecDepth 100000 in
theorem lexWords_lifted (os : Os) (started : os.Started) (H : Type) (enc : TypeId × Value → H) :
    ReturnsInHanded {} Try.checked os 5 .any (Rows.lexWordsSpec.pre6 enc Try.prog Try.f5 Rows.lexWordsRow.domain false) (Rows.lexWordsSpec.post enc Try.prog Try.f5 false true false false) := by
  refine returnsInHanded_of_change (C := Try.checked) lexWords_own started (by kernel_rfl) Try.func5
    (ChangeSpec.witness6 (enc := enc) (C := Try.checked) false ⟨#[], #[.string ⟨#[]⟩], []⟩ 8 (by kernel_rfl) (by kernel_rfl) (by kernel_rfl) (by kernel_rfl)) ?_
  intro W base args ds gs before hval0 hW hcnd _
  have hval : ∀ (j : Nat) t v, Try.f5.params[j]? = some t → args[j]? = some v → Value.okWide Try.prog W .any base t v := hval0
  have hW' := hW
  obtain ⟨p, q, hA0, hV, rfl, hfz, hnd⟩ := hW
  have hA : DataW.TrodAll enc Try.prog W 0 (fun _ => true) true Try.f5.params.toList args.toList ds p := hA0
  rw [lexWords_params] at hA hval
  obtain ⟨v0, d0, rfl, rfl, h0⟩ := trodAll_one hA
  obtain ⟨rfl, rfl⟩ := trodVars_none hV
  obtain ⟨a0, rfl, rfl, rfl, w0⟩ := open_string lexWords_t9 (hval 0 9 v0 rfl rfl) h0
  clear hA0 hval0
  refine (Lx.LexWords_spec a0 (Imm.all W) [] W (Sat.all W)).mono fun e W' ⟨I', F', hl, hs, he⟩ => ?_
  subst he
  exact ⟨_, rfl, post_stays (pa := []) (pv := []) hW' (fun _ _ _ => by rw [lexWords_results]; exact trodAll_mk1 (shut_bool lexWords_bool _))
    (fun sp _ => by rw [lexWords_params]; exact trodAll_mk1 (shut_string lexWords_t9 w0)) (fun _ _ => rfl) rfl (Stays.of hl hs)
    (ok_one lexWords_results rfl (okWide_bool_mk lexWords_bool _))⟩
theorem lexWords_holds : Rows.LexWordsSaid :=
  OpenClaim.holds_of_wide 5 Try.f5 rfl rfl rfl rfl rfl rfl rfl ⟨rfl, rfl, rfl, rfl, rfl⟩ rfl rfl rfl rfl rfl (by kernel_rfl) Try.func5 (by kernel_rfl)
    (of_decide_eq_true (by kernel_rfl)) (by unfold Func.isWrapper; first | (rw [if_pos (by decide +kernel)]; kernel_rfl) | (rw [if_neg (by decide +kernel)]; exact ⟨rfl, rfl⟩))
    (fun os started H enc _ => lexWords_lifted os started H enc)
end Go.Proofs.Ytlcjphbjddbgkaa
#print axioms Go.Proofs.Ytlcjphbjddbgkaa.lexWords_holds
