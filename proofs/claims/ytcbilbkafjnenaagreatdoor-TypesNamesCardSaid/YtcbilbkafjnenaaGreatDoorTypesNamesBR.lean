/-
  The law TypesNames returns true for every input, never panics, and leaves its arguments and all memory that was there as it was. No conditions.
-/
import Derived.Test.YtcbilbkafjnenaaGreatDoorTypesNamesB7
import Derived.Test.YtcbilbkafjnenaaGreatDoorRows
import Derived.SizedLaws
import Derived.ChangeVars
import Derived.LaidLaws
import Derived.LaidHandle
import Derived.Handed
import Derived.JoinedOf
import Derived.RowKit
import Derived.RowKitTokens
import Derived.Stop.Joined
import Derived.SevenTiedAt
import Derived.Test.YtcbilbkafjnenaaGreatDoorCards
import Derived.Test.YtcbilbkafjnenaaGreatDoorTie
set_option linter.unusedVariables false
set_option linter.unusedSimpArgs false
namespace Go.Proofs.YtcbilbkafjnenaaGreatDoor
open Go.ChangeMaps Go.ChangeShapes Go.WideShapes Go.ChangeAt Go.RowKit Go.Vc

theorem typesNames_own : ownKnob Tryz.prog.godebug = none := by kernel_rfl
theorem typesNames_params : Tryz.f8.params = #[26, 35] := by kernel_rfl
theorem typesNames_results : Tryz.f8.resultTypes = #[4] := by kernel_rfl
theorem typesNames_bool : Tryz.prog.underlying 4 = some .bool := by kernel_rfl
theorem typesNames_below : ∀ t ∈ ([26, 35] : List TypeId), t < Tryz.prog.types.size := by decide +kernel
theorem typesNames_et : Tryz.prog.globalNamed "errors.errorType" = some 0 := by kernel_rfl
theorem typesNames_rt : (Tryz.prog.cutTypes.find? (·.1 == "internal/reflectlite.rtype")).map (·.2) = some 153 := by kernel_rfl
theorem typesNames_oneRow : ((List.range 245).filter fun t => Tryz.prog.rowNamed t [101, 114, 114, 111, 114]) = [38] := by kernel_rfl
theorem typesNames_size : Tryz.prog.types.size = 245 := by kernel_rfl
theorem typesNames_handle {W : World} (h : laidMetH Tryz.prog Rows.typesNamesRow.laid W) : W.cell? ⟨0, 0, none⟩ = some (.iface 153 (.agg #[.pointer (some ⟨1, 38, none⟩)])) := by
  have h' : laidMet Tryz.prog [] W ∧ handlesMet Tryz.prog Rows.typesNamesRow.laid W := h
  obtain ⟨name, u, ty, e1, e2, e3, e4, e5⟩ := h'.2 _ (List.mem_singleton.2 rfl)
  have en : name = [101, 114, 114, 111, 114] := (Option.some.inj e1).symm
  subst en
  obtain rfl := Option.some.inj (typesNames_rt.symm.trans e2)
  have hm : ty ∈ (List.range 245).filter fun t => Tryz.prog.rowNamed t [101, 114, 114, 111, 114] := List.mem_filter.2 ⟨List.mem_range.2 (by rw [← typesNames_size]; exact e3), e4⟩
  rw [typesNames_oneRow] at hm
  obtain rfl := List.mem_singleton.1 hm
  have hh : typeHandle Tryz.prog 38 = .pointer (some ⟨1, 38, none⟩) := by kernel_rfl
  rw [hh] at e5
  simpa using World.var?_cell typesNames_et e5 0
noncomputable def typesNames_world (os : Os) (args : Array Value) : World :=
  let w0 := World.holding Tryz.prog os ⟨#[], args, []⟩
  { w0 with heap := w0.heap.modify 0 fun
      | .cells _ t frozen => .cells #[.iface 153 (.agg #[.pointer (some ⟨1, 38, none⟩)])] t frozen
      | o => o }
theorem typesNames_met (os : Os) (args args' : Array Value) : laidMetH Tryz.prog Rows.typesNamesRow.laid ((typesNames_world os args).forCall (fun _ _ => 0) ⟨#[], args', []⟩).memory :=
  laidMetH_of_parts (laidMet_nil _ _) (by kernel_rfl)
set_option maxRecDepth 100000 in
theorem typesNames_lifted (os : Os) (started : os.Started) (H : Type) (enc : TypeId × Value → H) :
    ReturnsInHanded {} Tryz.checked os 8 .any (fun w args => (Rows.typesNamesSpec.pre enc Tryz.prog Tryz.f8 Rows.typesNamesRow.domain false w args ∧ laidMetH Tryz.prog Rows.typesNamesRow.laid w) ∧ sizedMet enc Tryz.prog Tryz.f8 (OpenSpec.ofChange Rows.typesNamesSpec) false w args) (Rows.typesNamesSpec.post enc Tryz.prog Tryz.f8 false true false false) := by
  refine returnsInHanded_of_change_and (C := Tryz.checked) (X := fun w _ => laidMetH Tryz.prog Rows.typesNamesRow.laid w) (fun _ _ _ hh h => laidMetH.of_heap hh h) typesNames_own started (by kernel_rfl) Tryz.func8
    (ChangeSpec.witness_at (enc := enc) (C := Tryz.checked) (os := os) (X := fun w _ => laidMetH Tryz.prog Rows.typesNamesRow.laid w) false (typesNames_world os #[Value.agg #[Value.string (⟨#[]⟩ : ByteArray), Value.slice none 0 0, Value.slice none 0 0, Value.slice none 0 0], Value.agg #[Value.int .u8 0, Value.int .u8 0, Value.int .u8 0, Value.int .i64 0, Value.int .u8 0, Value.string (⟨#[]⟩ : ByteArray), Value.slice none 0 0, Value.int .i64 0]]) #[Value.agg #[Value.string (⟨#[]⟩ : ByteArray), Value.slice none 0 0, Value.slice none 0 0, Value.slice none 0 0], Value.agg #[Value.int .u8 0, Value.int .u8 0, Value.int .u8 0, Value.int .i64 0, Value.int .u8 0, Value.string (⟨#[]⟩ : ByteArray), Value.slice none 0 0, Value.int .i64 0]] 8 rfl (by kernel_rfl) (by kernel_rfl) (by kernel_rfl) (by kernel_rfl) (by kernel_rfl) (typesNames_met os _ _)) ?_
  intro W base args ds gs before hval0 hW hcnd hsz hL _
  have hg : Lx.Gl (Imm.all W) := Lx.Gl.of_cell (typesNames_handle hL)
  have hval : ∀ (j : Nat) t v, Tryz.f8.params[j]? = some t → args[j]? = some v → Value.okWide Tryz.prog W .any base t v := hval0
  have hW' := hW
  obtain ⟨p, q, hA0, hV, rfl, hfz, hnd⟩ := hW
  have hA : DataW.TrodAll enc Tryz.prog W 0 (fun _ => true) true Tryz.f8.params.toList args.toList ds p := hA0
  rw [typesNames_params] at hA hval
  obtain ⟨v0, v1, d0, d1, p0, p1, rfl, rfl, rfl, h0, h1⟩ := trodAll_two hA
  obtain ⟨rfl, rfl⟩ := trodVars_none hV
  have hsz2 : ∀ m ∈ DataW.weightsEach Lx.P [26, 35] [d0, d1], m ≤ reachBytes := fun m hm => by
    have := List.all_eq_true.1 hsz m hm
    exact of_decide_eq_true this
  have hw0 : ∀ m ∈ d0.weights Lx.P 26, m ≤ reachBytes := fun m hm => hsz2 m (by simp only [DataW.weightsEach, List.mem_append]; exact .inl hm)
  obtain ⟨a0, rfl, ok0, wf0, sh0'⟩ := Lx.open_stg (hval 0 26 v0 rfl rfl) h0
  have sh0 := sh0' hw0
  have hw1 : ∀ m ∈ d1.weights Lx.P 35, m ≤ reachBytes := fun m hm => hsz2 m (by simp only [DataW.weightsEach, List.mem_append]; exact .inr (.inl hm))
  obtain ⟨a1, rfl, ok1, wf1, sh1'⟩ := Lx.open_node (hval 1 35 v1 rfl rfl) h1
  have sh1 := sh1' hw1
  have hA0k := hA0
  clear hA0 hval0
  refine (Lx.TypesNames_spec a0 a1 sh0 sh1 (Imm.all W) hg [] ok0 ok1 W (Sat.all W)).mono fun e W' ⟨I', F', hl, hs, he⟩ => ?_
  subst he
  exact ⟨_, rfl, post_stays (pv := []) hW' (fun _ _ _ => by rw [typesNames_results]; exact trodAll_mk1 (shut_bool typesNames_bool _))
    (fun sp hsp => trodAll_stays (kids_rows (by kernel_rfl) (by kernel_rfl)) (fun {t e} h1 h2 => slices_full_of Tryz.prog (by kernel_rfl) t e h1 h2) (Stays.of hl hs) (by rw [typesNames_params]; exact typesNames_below) hA0k (fun p hp => hsp p (by simpa using hp))) (fun _ _ => rfl) (by simp) (Stays.of hl hs)
    (ok_one typesNames_results rfl (okWide_bool_mk typesNames_bool _))⟩
theorem typesNames_holds : Rows.TypesNamesSaid :=
  OpenClaim.holds_of_wide 8 Tryz.f8 rfl rfl rfl rfl rfl rfl rfl ⟨rfl, rfl, rfl, rfl, rfl⟩ rfl rfl rfl rfl rfl (by kernel_rfl) Tryz.func8 (by kernel_rfl)
    (of_decide_eq_true (by kernel_rfl)) (by unfold Func.isWrapper; first | (rw [if_pos (by decide +kernel)]; kernel_rfl) | (rw [if_neg (by decide +kernel)]; exact ⟨rfl, rfl⟩))
    (fun os started H enc _ => typesNames_lifted os started H enc)
theorem typesNames_card : Rows.TypesNamesCardSaid :=
  Claim7.holds_tied_plain_at .later [] [.handle] true (true, "7b6b5be4307ecd5de338ada6b86a212aaeebb510fb10d2c8b11741afe596bd81") true
    typesNames_holds (fun _ h => by cases h) (by kernel_rfl) (fun _ h => by cases h) typesNames_row_tie rfl ⟨rfl, rfl⟩ (by kernel_rfl) rfl
    (fun f fn hf hfn => by
      obtain rfl : f = 8 := Option.some.inj ((show Tryz.prog.funcNamed "tripwire/tripwirelaw15.TypesNames" = some 8 by kernel_rfl).symm.trans hf) |>.symm
      obtain rfl : fn = Tryz.f8 := (Option.some.inj (Tryz.func8.symm.trans hfn)).symm
      refine ⟨by kernel_rfl, fun j t ht => ?_⟩
      rw [typesNames_params] at ht
      have hm : t = 26 ∨ t = 35 := by simpa using Array.mem_of_getElem? ht
      rcases hm with rfl | rfl
      · exact (show Tryz.prog.wantsStandIn 26 = false by kernel_rfl)
      · exact (show Tryz.prog.wantsStandIn 35 = false by kernel_rfl))
    (by kernel_rfl)
end Go.Proofs.YtcbilbkafjnenaaGreatDoor
#print axioms Go.Proofs.YtcbilbkafjnenaaGreatDoor.typesNames_card
