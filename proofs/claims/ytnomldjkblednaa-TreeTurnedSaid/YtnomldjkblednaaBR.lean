/-
  The law TreeTurned returns true for every input, never panics, and leaves its arguments and all memory that was there as it was. No conditions.
-/
import Derived.Test.YtnomldjkblednaaB5
import Derived.Test.YtnomldjkblednaaRows
import Derived.SizedLaws
set_option linter.unusedVariables false
set_option linter.unusedSimpArgs false
namespace Go.Proofs.Ytnomldjkblednaa
open Go.ChangeMaps Go.ChangeShapes Go.WideShapes Go.ChangeAt Go.RowKit Go.Vc

theorem treeTurned_own : ownKnob Try.prog.godebug = none := by kernel_rfl
theorem treeTurned_params : Try.f7.params = #[28, 77, 3] := by kernel_rfl
theorem treeTurned_results : Try.f7.resultTypes = #[4] := by kernel_rfl
theorem treeTurned_bool : Try.prog.underlying 4 = some .bool := by kernel_rfl
theorem treeTurned_t3 : Try.prog.underlying 3 = some (.int .i64) := by kernel_rfl
theorem treeTurned_below : ∀ t ∈ ([28, 77, 3] : List TypeId), t < Try.prog.types.size := by decide +kernel
set_option maxRecDepth 100000 in
theorem treeTurned_lifted (os : Os) (started : os.Started) (H : Type) (enc : TypeId × Value → H) :
    ReturnsInHanded {} Try.checked os 7 .any (Rows.treeTurnedSpec.pre6 enc Try.prog Try.f7 Rows.treeTurnedRow.domain false) (Rows.treeTurnedSpec.post enc Try.prog Try.f7 false true false false) := by
  refine returnsInHanded_of_change_sized (C := Try.checked) treeTurned_own started (by kernel_rfl) Try.func7
    (ChangeSpec.witness6 (enc := enc) (C := Try.checked) false ⟨#[], #[Value.agg #[Value.int .u8 0, Value.int .u8 0, Value.int .u8 0, Value.int .i64 0, Value.int .u8 0, Value.string (⟨#[]⟩ : ByteArray), Value.slice none 0 0, Value.int .i64 0], .slice none 0 0, .int .i64 0], []⟩ 8 (by kernel_rfl) (by kernel_rfl) (by kernel_rfl) (by kernel_rfl)) ?_
  intro W base args ds gs before hval0 hW hcnd hsz _
  have hval : ∀ (j : Nat) t v, Try.f7.params[j]? = some t → args[j]? = some v → Value.okWide Try.prog W .any base t v := hval0
  have hW' := hW
  obtain ⟨p, q, hA0, hV, rfl, hfz, hnd⟩ := hW
  have hA : DataW.TrodAll enc Try.prog W 0 (fun _ => true) true Try.f7.params.toList args.toList ds p := hA0
  rw [treeTurned_params] at hA hval
  obtain ⟨v0, v1, v2, d0, d1, d2, p0, p1, p2, rfl, rfl, rfl, h0, h1, h2⟩ := trodAll_three hA
  obtain ⟨rfl, rfl⟩ := trodVars_none hV
  have hsz2 : ∀ m ∈ DataW.weightsEach Lx.P [28, 77, 3] [d0, d1, d2], m ≤ reachBytes := fun m hm => by
    have := List.all_eq_true.1 hsz m hm
    exact of_decide_eq_true this
  have hw0 : ∀ m ∈ d0.weights Lx.P 28, m ≤ reachBytes := fun m hm => hsz2 m (by simp only [DataW.weightsEach, List.mem_append]; exact .inl hm)
  obtain ⟨a0, rfl, ok0, wf0, sh0'⟩ := Lx.open_node (hval 0 28 v0 rfl rfl) h0
  have sh0 := sh0' hw0
  have hw1 : ∀ m ∈ d1.weights Lx.P 77, m ≤ reachBytes := fun m hm => hsz2 m (by simp only [DataW.weightsEach, List.mem_append]; exact .inr (.inl hm))
  obtain ⟨a1, rfl, ok1, wf1, sh1'⟩ := Lx.open_u8s (hval 1 77 v1 rfl rfl) h1
  have sh1 := sh1' hw1
  have hw2 : ∀ m ∈ d2.weights Lx.P 3, m ≤ reachBytes := fun m hm => hsz2 m (by simp only [DataW.weightsEach, List.mem_append]; exact .inr (.inr (.inl hm)))
  obtain ⟨a2, rfl, _, _, w2⟩ := open_int treeTurned_t3 (hval 2 3 v2 rfl rfl) h2
  have hA0k := hA0
  clear hA0 hval0
  refine (Lx.TreeTurned_spec a0 a1.a a1.n a1.c a1.l a2 sh0 (Imm.all W) [] ok0 ok1 sh1 wf1 W (Sat.all W)).mono fun e W' ⟨I', F', hl, hs, he⟩ => ?_
  subst he
  exact ⟨_, rfl, post_stays (pv := []) hW' (fun _ _ _ => by rw [treeTurned_results]; exact trodAll_mk1 (shut_bool treeTurned_bool _))
    (fun sp hsp => trodAll_stays (kids_rows (by kernel_rfl) (by kernel_rfl)) (fun {t e} h1 h2 => slices_full_of Try.prog (by kernel_rfl) t e h1 h2) (Stays.of hl hs) (by rw [treeTurned_params]; exact treeTurned_below) hA0k (fun p hp => hsp p (by simpa using hp))) (fun _ _ => rfl) (by simp) (Stays.of hl hs)
    (ok_one treeTurned_results rfl (okWide_bool_mk treeTurned_bool _))⟩
theorem treeTurned_holds : Rows.TreeTurnedSaid :=
  OpenClaim.holds_of_wide 7 Try.f7 rfl rfl rfl rfl rfl rfl rfl ⟨rfl, rfl, rfl, rfl, rfl⟩ rfl rfl rfl rfl rfl (by kernel_rfl) Try.func7 (by kernel_rfl)
    (of_decide_eq_true (by kernel_rfl)) (by unfold Func.isWrapper; first | (rw [if_pos (by decide +kernel)]; kernel_rfl) | (rw [if_neg (by decide +kernel)]; exact ⟨rfl, rfl⟩))
    (fun os started H enc _ => treeTurned_lifted os started H enc)
end Go.Proofs.Ytnomldjkblednaa
#print axioms Go.Proofs.Ytnomldjkblednaa.treeTurned_holds
