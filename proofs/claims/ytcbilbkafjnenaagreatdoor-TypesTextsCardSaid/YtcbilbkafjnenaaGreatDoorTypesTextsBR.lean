/-
  The law TypesTexts returns true for every input, never panics, and leaves its arguments and all memory that was there as it was. No conditions.
-/
import Derived.Test.YtcbilbkafjnenaaGreatDoorTypesTextsB7
import Derived.Test.YtcbilbkafjnenaaGreatDoorRows
import Derived.SizedLaws
import Derived.ChangeVars
import Derived.LaidLaws
import Derived.LaidHandle
import Derived.Handed
import Derived.JoinedOf
import Derived.RowKit
import Derived.RowKitTokens
import Derived.Stop.Joined
import Derived.SevenTiedAt
import Derived.Test.YtcbilbkafjnenaaGreatDoorCards
import Derived.Test.YtcbilbkafjnenaaGreatDoorTie
set_option linter.unusedVariables false
set_option linter.unusedSimpArgs false
namespace Go.Proofs.YtcbilbkafjnenaaGreatDoor
open Go.ChangeMaps Go.ChangeShapes Go.WideShapes Go.ChangeAt Go.RowKit Go.Vc

theorem typesTexts_own : ownKnob Tryz.prog.godebug = none := by kernel_rfl
theorem typesTexts_params : Tryz.f4.params = #[9] := by kernel_rfl
theorem typesTexts_results : Tryz.f4.resultTypes = #[4] := by kernel_rfl
theorem typesTexts_bool : Tryz.prog.underlying 4 = some .bool := by kernel_rfl
theorem typesTexts_t9 : Tryz.prog.underlying 9 = some .string := by kernel_rfl
theorem typesTexts_below : ∀ t ∈ ([9] : List TypeId), t < Tryz.prog.types.size := by decide +kernel
theorem typesTexts_et : Tryz.prog.globalNamed "errors.errorType" = some 0 := by kernel_rfl
theorem typesTexts_rt : (Tryz.prog.cutTypes.find? (·.1 == "internal/reflectlite.rtype")).map (·.2) = some 153 := by kernel_rfl
theorem typesTexts_oneRow : ((List.range 245).filter fun t => Tryz.prog.rowNamed t [101, 114, 114, 111, 114]) = [38] := by kernel_rfl
theorem typesTexts_size : Tryz.prog.types.size = 245 := by kernel_rfl
theorem typesTexts_handle {W : World} (h : laidMetH Tryz.prog Rows.typesTextsRow.laid W) : W.cell? ⟨0, 0, none⟩ = some (.iface 153 (.agg #[.pointer (some ⟨1, 38, none⟩)])) := by
  have h' : laidMet Tryz.prog [] W ∧ handlesMet Tryz.prog Rows.typesTextsRow.laid W := h
  obtain ⟨name, u, ty, e1, e2, e3, e4, e5⟩ := h'.2 _ (List.mem_singleton.2 rfl)
  have en : name = [101, 114, 114, 111, 114] := (Option.some.inj e1).symm
  subst en
  obtain rfl := Option.some.inj (typesTexts_rt.symm.trans e2)
  have hm : ty ∈ (List.range 245).filter fun t => Tryz.prog.rowNamed t [101, 114, 114, 111, 114] := List.mem_filter.2 ⟨List.mem_range.2 (by rw [← typesTexts_size]; exact e3), e4⟩
  rw [typesTexts_oneRow] at hm
  obtain rfl := List.mem_singleton.1 hm
  have hh : typeHandle Tryz.prog 38 = .pointer (some ⟨1, 38, none⟩) := by kernel_rfl
  rw [hh] at e5
  simpa using World.var?_cell typesTexts_et e5 0
noncomputable def typesTexts_world (os : Os) (args : Array Value) : World :=
  let w0 := World.holding Tryz.prog os ⟨#[], args, []⟩
  { w0 with heap := w0.heap.modify 0 fun
      | .cells _ t frozen => .cells #[.iface 153 (.agg #[.pointer (some ⟨1, 38, none⟩)])] t frozen
      | o => o }
theorem typesTexts_met (os : Os) (args args' : Array Value) : laidMetH Tryz.prog Rows.typesTextsRow.laid ((typesTexts_world os args).forCall (fun _ _ => 0) ⟨#[], args', []⟩).memory :=
  laidMetH_of_parts (laidMet_nil _ _) (by kernel_rfl)
set_option maxRecDepth 100000 in
theorem typesTexts_lifted (os : Os) (started : os.Started) (H : Type) (enc : TypeId × Value → H) :
    ReturnsInHanded {} Tryz.checked os 4 .any (fun w args => (Rows.typesTextsSpec.pre enc Tryz.prog Tryz.f4 Rows.typesTextsRow.domain false w args ∧ laidMetH Tryz.prog Rows.typesTextsRow.laid w) ∧ sizedMet enc Tryz.prog Tryz.f4 (OpenSpec.ofChange Rows.typesTextsSpec) false w args) (Rows.typesTextsSpec.post enc Tryz.prog Tryz.f4 false true false false) := by
  refine returnsInHanded_of_change_and (C := Tryz.checked) (X := fun w _ => laidMetH Tryz.prog Rows.typesTextsRow.laid w) (fun _ _ _ hh h => laidMetH.of_heap hh h) typesTexts_own started (by kernel_rfl) Tryz.func4
    (ChangeSpec.witness_at (enc := enc) (C := Tryz.checked) (os := os) (X := fun w _ => laidMetH Tryz.prog Rows.typesTextsRow.laid w) false (typesTexts_world os #[.string (⟨#[]⟩ : ByteArray)]) #[.string (⟨#[]⟩ : ByteArray)] 8 rfl (by kernel_rfl) (by kernel_rfl) (by kernel_rfl) (by kernel_rfl) (by kernel_rfl) (typesTexts_met os _ _)) ?_
  intro W base args ds gs before hval0 hW hcnd hsz hL _
  have hg : Lx.Gl (Imm.all W) := Lx.Gl.of_cell (typesTexts_handle hL)
  have hval : ∀ (j : Nat) t v, Tryz.f4.params[j]? = some t → args[j]? = some v → Value.okWide Tryz.prog W .any base t v := hval0
  have hW' := hW
  obtain ⟨p, q, hA0, hV, rfl, hfz, hnd⟩ := hW
  have hA : DataW.TrodAll enc Tryz.prog W 0 (fun _ => true) true Tryz.f4.params.toList args.toList ds p := hA0
  rw [typesTexts_params] at hA hval
  obtain ⟨v0, d0, rfl, rfl, h0⟩ := trodAll_one hA
  obtain ⟨rfl, rfl⟩ := trodVars_none hV
  have hsz2 : ∀ m ∈ DataW.weightsEach Lx.P [9] [d0], m ≤ reachBytes := fun m hm => by
    have := List.all_eq_true.1 hsz m hm
    exact of_decide_eq_true this
  have hw0 : ∀ m ∈ d0.weights Lx.P 9, m ≤ reachBytes := fun m hm => hsz2 m (by simp only [DataW.weightsEach, List.mem_append]; exact .inl hm)
  obtain ⟨a0, rfl, _, _, w0⟩ := open_string typesTexts_t9 (hval 0 9 v0 rfl rfl) h0
  have hA0k := hA0
  clear hA0 hval0
  refine (Lx.TypesTexts_spec a0 (Imm.all W) hg [] W (Sat.all W)).mono fun e W' ⟨I', F', hl, hs, he⟩ => ?_
  subst he
  exact ⟨_, rfl, post_stays (pv := []) hW' (fun _ _ _ => by rw [typesTexts_results]; exact trodAll_mk1 (shut_bool typesTexts_bool _))
    (fun sp hsp => trodAll_stays (kids_rows (by kernel_rfl) (by kernel_rfl)) (fun {t e} h1 h2 => slices_full_of Tryz.prog (by kernel_rfl) t e h1 h2) (Stays.of hl hs) (by rw [typesTexts_params]; exact typesTexts_below) hA0k (fun p hp => hsp p (by simpa using hp))) (fun _ _ => rfl) (by simp) (Stays.of hl hs)
    (ok_one typesTexts_results rfl (okWide_bool_mk typesTexts_bool _))⟩
theorem typesTexts_holds : Rows.TypesTextsSaid :=
  OpenClaim.holds_of_wide 4 Tryz.f4 rfl rfl rfl rfl rfl rfl rfl ⟨rfl, rfl, rfl, rfl, rfl⟩ rfl rfl rfl rfl rfl (by kernel_rfl) Tryz.func4 (by kernel_rfl)
    (of_decide_eq_true (by kernel_rfl)) (by unfold Func.isWrapper; first | (rw [if_pos (by decide +kernel)]; kernel_rfl) | (rw [if_neg (by decide +kernel)]; exact ⟨rfl, rfl⟩))
    (fun os started H enc _ => typesTexts_lifted os started H enc)
theorem typesTexts_card : Rows.TypesTextsCardSaid :=
  Claim7.holds_tied_plain_at .later [] [.handle] true (true, "7b6b5be4307ecd5de338ada6b86a212aaeebb510fb10d2c8b11741afe596bd81") true
    typesTexts_holds (fun _ h => by cases h) (by kernel_rfl) (fun _ h => by cases h) typesTexts_row_tie rfl ⟨rfl, rfl⟩ (by kernel_rfl) rfl
    (fun f fn hf hfn => by
      obtain rfl : f = 4 := Option.some.inj ((show Tryz.prog.funcNamed "tripwire/tripwirelaw15.TypesTexts" = some 4 by kernel_rfl).symm.trans hf) |>.symm
      obtain rfl : fn = Tryz.f4 := (Option.some.inj (Tryz.func4.symm.trans hfn)).symm
      refine ⟨by kernel_rfl, fun j t ht => ?_⟩
      rw [typesTexts_params] at ht
      have hm : t = 9 := by simpa using Array.mem_of_getElem? ht
      rcases hm with rfl
      · exact (show Tryz.prog.wantsStandIn 9 = false by kernel_rfl))
    (by kernel_rfl)
end Go.Proofs.YtcbilbkafjnenaaGreatDoor
#print axioms Go.Proofs.YtcbilbkafjnenaaGreatDoor.typesTexts_card
