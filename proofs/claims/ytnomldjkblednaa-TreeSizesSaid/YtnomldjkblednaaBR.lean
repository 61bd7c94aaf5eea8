/-
  The law TreeSizes returns true for every input, never panics, and leaves its arguments and all memory that was there as it was. No conditions.
-/
import Derived.Test.YtnomldjkblednaaB4
import Derived.Test.YtnomldjkblednaaRows
import Derived.SizedLaws
set_option linter.unusedVariables false
set_option linter.unusedSimpArgs false
namespace Go.Proofs.Ytnomldjkblednaa
open Go.ChangeMaps Go.ChangeShapes Go.WideShapes Go.ChangeAt Go.RowKit Go.Vc

theorem treeSizes_own : ownKnob Try.prog.godebug = none := by kernel_rfl
theorem treeSizes_params : Try.f6.params = #[28] := by kernel_rfl
theorem treeSizes_results : Try.f6.resultTypes = #[4] := by kernel_rfl
theorem treeSizes_bool : Try.prog.underlying 4 = some .bool := by kernel_rfl
theorem treeSizes_below : ∀ t ∈ ([28] : List TypeId), t < Try.prog.types.size := by decide +kernel
set_option maxRecDepth 100000 in
theorem treeSizes_lifted (os : Os) (started : os.Started) (H : Type) (enc : TypeId × Value → H) :
    ReturnsInHanded {} Try.checked os 6 .any (Rows.treeSizesSpec.pre6 enc Try.prog Try.f6 Rows.treeSizesRow.domain false) (Rows.treeSizesSpec.post enc Try.prog Try.f6 false true false false) := by
  refine returnsInHanded_of_change_sized (C := Try.checked) treeSizes_own started (by kernel_rfl) Try.func6
    (ChangeSpec.witness6 (enc := enc) (C := Try.checked) false ⟨#[], #[Value.agg #[Value.int .u8 0, Value.int .u8 0, Value.int .u8 0, Value.int .i64 0, Value.int .u8 0, Value.string (⟨#[]⟩ : ByteArray), Value.slice none 0 0, Value.int .i64 0]], []⟩ 8 (by kernel_rfl) (by kernel_rfl) (by kernel_rfl) (by kernel_rfl)) ?_
  intro W base args ds gs before hval0 hW hcnd hsz _
  have hval : ∀ (j : Nat) t v, Try.f6.params[j]? = some t → args[j]? = some v → Value.okWide Try.prog W .any base t v := hval0
  have hW' := hW
  obtain ⟨p, q, hA0, hV, rfl, hfz, hnd⟩ := hW
  have hA : DataW.TrodAll enc Try.prog W 0 (fun _ => true) true Try.f6.params.toList args.toList ds p := hA0
  rw [treeSizes_params] at hA hval
  obtain ⟨v0, d0, rfl, rfl, h0⟩ := trodAll_one hA
  obtain ⟨rfl, rfl⟩ := trodVars_none hV
  have hsz2 : ∀ m ∈ DataW.weightsEach Lx.P [28] [d0], m ≤ reachBytes := fun m hm => by
    have := List.all_eq_true.1 hsz m hm
    exact of_decide_eq_true this
  have hw0 : ∀ m ∈ d0.weights Lx.P 28, m ≤ reachBytes := fun m hm => hsz2 m (by simp only [DataW.weightsEach, List.mem_append]; exact .inl hm)
  obtain ⟨a0, rfl, ok0, wf0, sh0'⟩ := Lx.open_node (hval 0 28 v0 rfl rfl) h0
  have sh0 := sh0' hw0
  have hA0k := hA0
  clear hA0 hval0
  refine (Lx.TreeSizes_spec a0 sh0 (Imm.all W) [] ok0 W (Sat.all W)).mono fun e W' ⟨I', F', hl, hs, he⟩ => ?_
  subst he
  exact ⟨_, rfl, post_stays (pv := []) hW' (fun _ _ _ => by rw [treeSizes_results]; exact trodAll_mk1 (shut_bool treeSizes_bool _))
    (fun sp hsp => trodAll_stays (kids_rows (by kernel_rfl) (by kernel_rfl)) (fun {t e} h1 h2 => slices_full_of Try.prog (by kernel_rfl) t e h1 h2) (Stays.of hl hs) (by rw [treeSizes_params]; exact treeSizes_below) hA0k (fun p hp => hsp p (by simpa using hp))) (fun _ _ => rfl) (by simp) (Stays.of hl hs)
    (ok_one treeSizes_results rfl (okWide_bool_mk treeSizes_bool _))⟩
theorem treeSizes_holds : Rows.TreeSizesSaid :=
  OpenClaim.holds_of_wide 6 Try.f6 rfl rfl rfl rfl rfl rfl rfl ⟨rfl, rfl, rfl, rfl, rfl⟩ rfl rfl rfl rfl rfl (by kernel_rfl) Try.func6 (by kernel_rfl)
    (of_decide_eq_true (by kernel_rfl)) (by unfold Func.isWrapper; first | (rw [if_pos (by decide +kernel)]; kernel_rfl) | (rw [if_neg (by decide +kernel)]; exact ⟨rfl, rfl⟩))
    (fun os started H enc _ => treeSizes_lifted os started H enc)
end Go.Proofs.Ytnomldjkblednaa
#print axioms Go.Proofs.Ytnomldjkblednaa.treeSizes_holds
