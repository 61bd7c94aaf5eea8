/-
  The law TreeChecks returns true for every input, never panics, and leaves its arguments and all memory that was there as it was. No conditions.
-/
import Derived.Test.YtnomldjkblednaaGreatB7
import Derived.Test.YtnomldjkblednaaGreatRows
import Derived.SizedLaws
set_option linter.unusedVariables false
set_option linter.unusedSimpArgs false
namespace Go.Proofs.YtnomldjkblednaaGreat
open Go.ChangeMaps Go.ChangeShapes Go.WideShapes Go.ChangeAt Go.RowKit Go.Vc

theorem treeChecks_own : ownKnob Tryz.prog.godebug = none := by kernel_rfl
theorem treeChecks_params : Tryz.f3.params = #[26, 26] := by kernel_rfl
theorem treeChecks_results : Tryz.f3.resultTypes = #[4] := by kernel_rfl
theorem treeChecks_bool : Tryz.prog.underlying 4 = some .bool := by kernel_rfl
theorem treeChecks_below : ∀ t ∈ ([26, 26] : List TypeId), t < Tryz.prog.types.size := by decide +kernel
set_option maxRecDepth 100000 in
theorem treeChecks_lifted (os : Os) (started : os.Started) (H : Type) (enc : TypeId × Value → H) :
    ReturnsInHanded {} Tryz.checked os 3 .any (Rows.treeChecksSpec.pre6 enc Tryz.prog Tryz.f3 Rows.treeChecksRow.domain false) (Rows.treeChecksSpec.post enc Tryz.prog Tryz.f3 false true false false) := by
  refine returnsInHanded_of_change_sized (C := Tryz.checked) treeChecks_own started (by kernel_rfl) Tryz.func3
    (ChangeSpec.witness6 (enc := enc) (C := Tryz.checked) false ⟨#[], #[Value.agg #[Value.string (⟨#[]⟩ : ByteArray), Value.slice none 0 0, Value.slice none 0 0, Value.slice none 0 0], Value.agg #[Value.string (⟨#[]⟩ : ByteArray), Value.slice none 0 0, Value.slice none 0 0, Value.slice none 0 0]], []⟩ 8 (by kernel_rfl) (by kernel_rfl) (by kernel_rfl) (by kernel_rfl)) ?_
  intro W base args ds gs before hval0 hW hcnd hsz _
  have hval : ∀ (j : Nat) t v, Tryz.f3.params[j]? = some t → args[j]? = some v → Value.okWide Tryz.prog W .any base t v := hval0
  have hW' := hW
  obtain ⟨p, q, hA0, hV, rfl, hfz, hnd⟩ := hW
  have hA : DataW.TrodAll enc Tryz.prog W 0 (fun _ => true) true Tryz.f3.params.toList args.toList ds p := hA0
  rw [treeChecks_params] at hA hval
  obtain ⟨v0, v1, d0, d1, p0, p1, rfl, rfl, rfl, h0, h1⟩ := trodAll_two hA
  obtain ⟨rfl, rfl⟩ := trodVars_none hV
  have hsz2 : ∀ m ∈ DataW.weightsEach Lx.P [26, 26] [d0, d1], m ≤ reachBytes := fun m hm => by
    have := List.all_eq_true.1 hsz m hm
    exact of_decide_eq_true this
  have hw0 : ∀ m ∈ d0.weights Lx.P 26, m ≤ reachBytes := fun m hm => hsz2 m (by simp only [DataW.weightsEach, List.mem_append]; exact .inl hm)
  obtain ⟨a0, rfl, ok0, wf0, sh0'⟩ := Lx.open_stg (hval 0 26 v0 rfl rfl) h0
  have sh0 := sh0' hw0
  have hw1 : ∀ m ∈ d1.weights Lx.P 26, m ≤ reachBytes := fun m hm => hsz2 m (by simp only [DataW.weightsEach, List.mem_append]; exact .inr (.inl hm))
  obtain ⟨a1, rfl, ok1, wf1, sh1'⟩ := Lx.open_stg (hval 1 26 v1 rfl rfl) h1
  have sh1 := sh1' hw1
  have hA0k := hA0
  clear hA0 hval0
  refine (Lx.TreeChecks_spec a0 a1 sh0 sh1 (Imm.all W) [] ok0 ok1 W (Sat.all W)).mono fun e W' ⟨I', F', hl, hs, he⟩ => ?_
  subst he
  exact ⟨_, rfl, post_stays (pv := []) hW' (fun _ _ _ => by rw [treeChecks_results]; exact trodAll_mk1 (shut_bool treeChecks_bool _))
    (fun sp hsp => trodAll_stays (kids_rows (by kernel_rfl) (by kernel_rfl)) (fun {t e} h1 h2 => slices_full_of Tryz.prog (by kernel_rfl) t e h1 h2) (Stays.of hl hs) (by rw [treeChecks_params]; exact treeChecks_below) hA0k (fun p hp => hsp p (by simpa using hp))) (fun _ _ => rfl) (by simp) (Stays.of hl hs)
    (ok_one treeChecks_results rfl (okWide_bool_mk treeChecks_bool _))⟩
theorem treeChecks_holds : Rows.TreeChecksSaid :=
  OpenClaim.holds_of_wide 3 Tryz.f3 rfl rfl rfl rfl rfl rfl rfl ⟨rfl, rfl, rfl, rfl, rfl⟩ rfl rfl rfl rfl rfl (by kernel_rfl) Tryz.func3 (by kernel_rfl)
    (of_decide_eq_true (by kernel_rfl)) (by unfold Func.isWrapper; first | (rw [if_pos (by decide +kernel)]; kernel_rfl) | (rw [if_neg (by decide +kernel)]; exact ⟨rfl, rfl⟩))
    (fun os started H enc _ => treeChecks_lifted os started H enc)
end Go.Proofs.YtnomldjkblednaaGreat
#print axioms Go.Proofs.YtnomldjkblednaaGreat.treeChecks_holds
