/-
  The law LexNexts returns true for every text and every place, never panics, and leaves its arguments and all memory that was there as it was. No conditions.
-/
import Derived.Test.YtlcjphbjddbgkaaLl
import Derived.Test.YtlcjphbjddbgkaaVv
import Derived.Test.YtlcjphbjddbgkaaRows
set_option linter.unusedVariables false
namespace Go.Proofs.Ytlcjphbjddbgkaa
open Go.ChangeMaps Go.ChangeShapes Go.WideShapes Go.ChangeAt Go.RowKit Go.Vc

theorem lexNexts_own : ownKnob Try.prog.godebug = none := by kernel_rfl
theorem lexNexts_params : Try.f4.params = #[9, 3] := by kernel_rfl
theorem lexNexts_results : Try.f4.resultTypes = #[4] := by kernel_rfl
theorem lexNexts_string : Try.prog.underlying 9 = some .string := by kernel_rfl
theorem lexNexts_int : Try.prog.underlying 3 = some (.int .i64) := by kernel_rfl
theorem lexNexts_bool : Try.prog.underlying 4 = some .bool := by kernel_rfl
set_option maxRecDepth 100000 in
theorem lexNexts_lifted (os : Os) (started : os.Started) (H : Type) (enc : TypeId × Value → H) :
    ReturnsInHanded {} Try.checked os 4 .any (Rows.lexNextsSpec.pre6 enc Try.prog Try.f4 Rows.lexNextsRow.domain false) (Rows.lexNextsSpec.post enc Try.prog Try.f4 false true false false) := by
  refine returnsInHanded_of_change (C := Try.checked) lexNexts_own started (by kernel_rfl) Try.func4
    (ChangeSpec.witness6 (enc := enc) (C := Try.checked) false ⟨#[], #[.string ⟨#[]⟩, .int .i64 0], []⟩ 8 (by kernel_rfl) (by kernel_rfl) (by kernel_rfl) (by kernel_rfl)) ?_
  intro W base args ds gs before hval0 hW hcnd _
  have hval : ∀ (j : Nat) t v, Try.f4.params[j]? = some t → args[j]? = some v → Value.okWide Try.prog W .any base t v := hval0
  have hW' := hW
  obtain ⟨p, q, hA0, hV, rfl, hfz, hnd⟩ := hW
  have hA : DataW.TrodAll enc Try.prog W 0 (fun _ => true) true Try.f4.params.toList args.toList ds p := hA0
  rw [lexNexts_params] at hA hval
  obtain ⟨v0, v1, d0, d1, p0, p1, rfl, rfl, rfl, h0, h1⟩ := trodAll_two hA
  obtain ⟨rfl, rfl⟩ := trodVars_none hV
  obtain ⟨s, rfl, rfl, rfl, ws⟩ := open_string lexNexts_string (hval 0 9 v0 rfl rfl) h0
  obtain ⟨a, rfl, rfl, rfl, wa⟩ := open_int lexNexts_int (hval 1 3 v1 rfl rfl) h1
  clear hA0 hval0
  refine (Lx.LexNexts_spec s a (Imm.all W) [] W (Sat.all W)).mono fun e W' ⟨I', F', hl, hs, he, _⟩ => ?_
  subst he
  exact ⟨_, rfl, post_stays (pa := []) (pv := []) hW' (fun _ _ _ => by rw [lexNexts_results]; exact trodAll_mk1 (shut_bool lexNexts_bool _))
    (fun sp _ => by rw [lexNexts_params]; exact trodAll_mk2 (shut_string lexNexts_string ws) (shut_int lexNexts_int wa)) (fun _ _ => rfl) rfl (Stays.of hl hs)
    (ok_one lexNexts_results rfl (okWide_bool_mk lexNexts_bool _))⟩
theorem lexNexts_holds : Rows.LexNextsSaid :=
  OpenClaim.holds_of_wide 4 Try.f4 rfl rfl rfl rfl rfl rfl rfl ⟨rfl, rfl, rfl, rfl, rfl⟩ rfl rfl rfl rfl rfl (by kernel_rfl) Try.func4 (by kernel_rfl)
    (of_decide_eq_true (by kernel_rfl)) (by unfold Func.isWrapper; first | (rw [if_pos (by decide +kernel)]; kernel_rfl) | (rw [if_neg (by decide +kernel)]; exact ⟨rfl, rfl⟩))
    (fun os started H enc _ => lexNexts_lifted os started H enc)
end Go.Proofs.Ytlcjphbjddbgkaa
#print axioms Go.Proofs.Ytlcjphbjddbgkaa.lexNexts_holds
