/-
  The law LexSpaced returns true for every input, never panics, and leaves its arguments and all memory that was there as it was. No conditions.
-/
import Derived.Test.YtlcjphbjddbgkaaLx
import Derived.Test.YtlcjphbjddbgkaaVv
import Derived.Test.YtlcjphbjddbgkaaVy
import Derived.Test.YtlcjphbjddbgkaaRows
set_option linter.unusedVariables false
namespace Go.Proofs.Ytlcjphbjddbgkaa
open Go.ChangeMaps Go.ChangeShapes Go.WideShapes Go.ChangeAt Go.RowKit Go.Vc

theorem lexSpaced_own : ownKnob Try.prog.godebug = none := by kernel_rfl
theorem lexSpaced_params : Try.f8.params = #[9, 70] := by kernel_rfl
theorem lexSpaced_results : Try.f8.resultTypes = #[4] := by kernel_rfl
theorem lexSpaced_bool : Try.prog.underlying 4 = some .bool := by kernel_rfl
theorem lexSpaced_t9 : Try.prog.underlying 9 = some .string := by kernel_rfl
theorem lexSpaced_t70 : Try.prog.underlying 70 = some (.slice 5) := by kernel_rfl
theorem lexSpaced_e70 : Try.prog.underlying 5 = some (.int .u8) := by kernel_rfl
theorem lexSpaced_c70 : Try.prog.cellsOf 5 = 1 := by kernel_rfl
theorem lexSpaced_below : ∀ t ∈ ([9, 70] : List TypeId), t < Try.prog.types.size := by decide +kernel
theorem nums_pos {k : IntKind} {x : Int} (h : (Lit.int k x).wf = true) (hk : k.signed = false := by rfl) : 0 ≤ x := by
  cases k <;> simp_all [Lit.wf, IntKind.signed, IntKind.min]
set_option maxRecDepth 100000 in
theorem lexSpaced_lifted (os : Os) (started : os.Started) (H : Type) (enc : TypeId × Value → H) :
    ReturnsInHanded {} Try.checked os 8 .any (Rows.lexSpacedSpec.pre6 enc Try.prog Try.f8 Rows.lexSpacedRow.domain false) (Rows.lexSpacedSpec.post enc Try.prog Try.f8 false true false false) := by
  refine returnsInHanded_of_change (C := Try.checked) lexSpaced_own started (by kernel_rfl) Try.func8
    (ChangeSpec.witness6 (enc := enc) (C := Try.checked) false ⟨#[], #[.string ⟨#[]⟩, .slice none 0 0], []⟩ 8 (by kernel_rfl) (by kernel_rfl) (by kernel_rfl) (by kernel_rfl)) ?_
  intro W base args ds gs before hval0 hW hcnd _
  have hval : ∀ (j : Nat) t v, Try.f8.params[j]? = some t → args[j]? = some v → Value.okWide Try.prog W .any base t v := hval0
  have hW' := hW
  obtain ⟨p, q, hA0, hV, rfl, hfz, hnd⟩ := hW
  have hA : DataW.TrodAll enc Try.prog W 0 (fun _ => true) true Try.f8.params.toList args.toList ds p := hA0
  rw [lexSpaced_params] at hA hval
  obtain ⟨v0, v1, d0, d1, p0, p1, rfl, rfl, rfl, h0, h1⟩ := trodAll_two hA
  obtain ⟨rfl, rfl⟩ := trodVars_none hV
  obtain ⟨a0, rfl, _, _, w0⟩ := open_string lexSpaced_t9 (hval 0 9 v0 rfl rfl) h0
  obtain ⟨g1_a, g1_n, g1_c, z1, rfl, hS1, hw1⟩ := open_nums lexSpaced_t70 lexSpaced_e70 lexSpaced_c70 (hval 1 70 v1 rfl rfl) h1
  have hA0k := hA0
  clear hA0 hval0
  refine (Lx.LexSpaced_spec a0 hS1 (fun x hx => nums_pos (hw1 x hx)) [] W (Sat.all W)).mono fun e W' ⟨I', F', hl, hs, he⟩ => ?_
  subst he
  exact ⟨_, rfl, post_stays (pv := []) hW' (fun _ _ _ => by rw [lexSpaced_results]; exact trodAll_mk1 (shut_bool lexSpaced_bool _))
    (fun sp hsp => trodAll_stays (kids_rows (by kernel_rfl) (by kernel_rfl)) (fun {t e} h1 h2 => slices_full_of Try.prog (by kernel_rfl) t e h1 h2) (Stays.of hl hs) (by rw [lexSpaced_params]; exact lexSpaced_below) hA0k (fun p hp => hsp p (by simpa using hp))) (fun _ _ => rfl) (by simp) (Stays.of hl hs)
    (ok_one lexSpaced_results rfl (okWide_bool_mk lexSpaced_bool _))⟩
theorem lexSpaced_holds : Rows.LexSpacedSaid :=
  OpenClaim.holds_of_wide 8 Try.f8 rfl rfl rfl rfl rfl rfl rfl ⟨rfl, rfl, rfl, rfl, rfl⟩ rfl rfl rfl rfl rfl (by kernel_rfl) Try.func8 (by kernel_rfl)
    (of_decide_eq_true (by kernel_rfl)) (by unfold Func.isWrapper; first | (rw [if_pos (by decide +kernel)]; kernel_rfl) | (rw [if_neg (by decide +kernel)]; exact ⟨rfl, rfl⟩))
    (fun os started H enc _ => lexSpaced_lifted os started H enc)
end Go.Proofs.Ytlcjphbjddbgkaa
#print axioms Go.Proofs.Ytlcjphbjddbgkaa.lexSpaced_holds
