/-
  The law TreeAlls returns true for every input, never panics, and leaves its arguments and all memory that was there as it was. No conditions.
-/
import Derived.Test.YtnomldjkblednaaB5
import Derived.Test.YtnomldjkblednaaRows
import Derived.SizedLaws
set_option linter.unusedVariables false
set_option linter.unusedSimpArgs false
namespace Go.Proofs.Ytnomldjkblednaa
open Go.ChangeMaps Go.ChangeShapes Go.WideShapes Go.ChangeAt Go.RowKit Go.Vc

theorem treeAlls_own : ownKnob Try.prog.godebug = none := by kernel_rfl
theorem treeAlls_params : Try.f5.params = #[28, 3] := by kernel_rfl
theorem treeAlls_results : Try.f5.resultTypes = #[4] := by kernel_rfl
theorem treeAlls_bool : Try.prog.underlying 4 = some .bool := by kernel_rfl
theorem treeAlls_t3 : Try.prog.underlying 3 = some (.int .i64) := by kernel_rfl
theorem treeAlls_below : ∀ t ∈ ([28, 3] : List TypeId), t < Try.prog.types.size := by decide +kernel
set_option maxRecDepth 100000 in
theorem treeAlls_lifted (os : Os) (started : os.Started) (H : Type) (enc : TypeId × Value → H) :
    ReturnsInHanded {} Try.checked os 5 .any (Rows.treeAllsSpec.pre6 enc Try.prog Try.f5 Rows.treeAllsRow.domain false) (Rows.treeAllsSpec.post enc Try.prog Try.f5 false true false false) := by
  refine returnsInHanded_of_change_sized (C := Try.checked) treeAlls_own started (by kernel_rfl) Try.func5
    (ChangeSpec.witness6 (enc := enc) (C := Try.checked) false ⟨#[], #[Value.agg #[Value.int .u8 0, Value.int .u8 0, Value.int .u8 0, Value.int .i64 0, Value.int .u8 0, Value.string (⟨#[]⟩ : ByteArray), Value.slice none 0 0, Value.int .i64 0], .int .i64 0], []⟩ 8 (by kernel_rfl) (by kernel_rfl) (by kernel_rfl) (by kernel_rfl)) ?_
  intro W base args ds gs before hval0 hW hcnd hsz _
  have hval : ∀ (j : Nat) t v, Try.f5.params[j]? = some t → args[j]? = some v → Value.okWide Try.prog W .any base t v := hval0
  have hW' := hW
  obtain ⟨p, q, hA0, hV, rfl, hfz, hnd⟩ := hW
  have hA : DataW.TrodAll enc Try.prog W 0 (fun _ => true) true Try.f5.params.toList args.toList ds p := hA0
  rw [treeAlls_params] at hA hval
  obtain ⟨v0, v1, d0, d1, p0, p1, rfl, rfl, rfl, h0, h1⟩ := trodAll_two hA
  obtain ⟨rfl, rfl⟩ := trodVars_none hV
  have hsz2 : ∀ m ∈ DataW.weightsEach Lx.P [28, 3] [d0, d1], m ≤ reachBytes := fun m hm => by
    have := List.all_eq_true.1 hsz m hm
    exact of_decide_eq_true this
  have hw0 : ∀ m ∈ d0.weights Lx.P 28, m ≤ reachBytes := fun m hm => hsz2 m (by simp only [DataW.weightsEach, List.mem_append]; exact .inl hm)
  obtain ⟨a0, rfl, ok0, wf0, sh0'⟩ := Lx.open_node (hval 0 28 v0 rfl rfl) h0
  have sh0 := sh0' hw0
  have hw1 : ∀ m ∈ d1.weights Lx.P 3, m ≤ reachBytes := fun m hm => hsz2 m (by simp only [DataW.weightsEach, List.mem_append]; exact .inr (.inl hm))
  obtain ⟨a1, rfl, _, _, w1⟩ := open_int treeAlls_t3 (hval 1 3 v1 rfl rfl) h1
  have hA0k := hA0
  clear hA0 hval0
  refine (Lx.TreeAlls_spec a0 a1 sh0 (Imm.all W) [] ok0 W (Sat.all W)).mono fun e W' ⟨I', F', hl, hs, he⟩ => ?_
  subst he
  exact ⟨_, rfl, post_stays (pv := []) hW' (fun _ _ _ => by rw [treeAlls_results]; exact trodAll_mk1 (shut_bool treeAlls_bool _))
    (fun sp hsp => trodAll_stays (kids_rows (by kernel_rfl) (by kernel_rfl)) (fun {t e} h1 h2 => slices_full_of Try.prog (by kernel_rfl) t e h1 h2) (Stays.of hl hs) (by rw [treeAlls_params]; exact treeAlls_below) hA0k (fun p hp => hsp p (by simpa using hp))) (fun _ _ => rfl) (by simp) (Stays.of hl hs)
    (ok_one treeAlls_results rfl (okWide_bool_mk treeAlls_bool _))⟩
theorem treeAlls_holds : Rows.TreeAllsSaid :=
  OpenClaim.holds_of_wide 5 Try.f5 rfl rfl rfl rfl rfl rfl rfl ⟨rfl, rfl, rfl, rfl, rfl⟩ rfl rfl rfl rfl rfl (by kernel_rfl) Try.func5 (by kernel_rfl)
    (of_decide_eq_true (by kernel_rfl)) (by unfold Func.isWrapper; first | (rw [if_pos (by decide +kernel)]; kernel_rfl) | (rw [if_neg (by decide +kernel)]; exact ⟨rfl, rfl⟩))
    (fun os started H enc _ => treeAlls_lifted os started H enc)
end Go.Proofs.Ytnomldjkblednaa
#print axioms Go.Proofs.Ytnomldjkblednaa.treeAlls_holds
