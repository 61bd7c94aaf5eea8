/-
  The law ParseStrategies returns true for every input, never panics, and leaves its arguments and all memory that was there as it was. No conditions.
-/
import Derived.Test.YtdhcodphiofhjaaGreatDoorParseStrategiesB7
import Derived.Test.YtdhcodphiofhjaaGreatDoorRows
import Derived.SizedLaws
import Derived.ChangeVars
import Derived.LaidLaws
import Derived.LaidHandle
import Derived.Handed
import Derived.JoinedOf
import Derived.RowKit
import Derived.RowKitTokens
import Derived.Stop.Joined
import Derived.SevenTiedAt
import Derived.Test.YtdhcodphiofhjaaGreatDoorCards
import Derived.Test.YtdhcodphiofhjaaGreatDoorTie
set_option linter.unusedVariables false
set_option linter.unusedSimpArgs false
namespace Go.Proofs.YtdhcodphiofhjaaGreatDoor
open Go.ChangeMaps Go.ChangeShapes Go.WideShapes Go.ChangeAt Go.RowKit Go.Vc

theorem oR : ownKnob Tryz.prog.godebug = none := by kernel_rfl
theorem gG : Tryz.f3.params = #[9, 9] := by kernel_rfl
theorem jv : Tryz.f3.resultTypes = #[4] := by kernel_rfl
theorem kc : Tryz.prog.underlying 4 = some .bool := by kernel_rfl
theorem lf : Tryz.prog.underlying 9 = some .string := by kernel_rfl
theorem nz : ∀ t ∈ ([9, 9] : List TypeId), t < Tryz.prog.types.size := by decide +kernel
theorem pM : Tryz.prog.globalNamed "errors.errorType" = some 0 := by kernel_rfl
theorem pN : (Tryz.prog.cutTypes.find? (·.1 == "internal/reflectlite.rtype")).map (·.2) = some 196 := by kernel_rfl
theorem nk : ((List.range 268).filter fun t => Tryz.prog.rowNamed t [101, 114, 114, 111, 114]) = [45] := by kernel_rfl
theorem oh : Tryz.prog.types.size = 268 := by kernel_rfl
theorem np {W : World} (h : laidMetH Tryz.prog Rows.parseStrategiesRow.laid W) : W.cell? ⟨0, 0, none⟩ = some (.iface 196 (.agg #[.pointer (some ⟨1, 45, none⟩)])) := by
  have h' : laidMet Tryz.prog [] W ∧ handlesMet Tryz.prog Rows.parseStrategiesRow.laid W := h
  obtain ⟨name, u, ty, e1, e2, e3, e4, e5⟩ := h'.2 _ (List.mem_singleton.2 rfl)
  have en : name = [101, 114, 114, 111, 114] := (Option.some.inj e1).symm
  subst en
  obtain rfl := Option.some.inj (pN.symm.trans e2)
  have hm : ty ∈ (List.range 268).filter fun t => Tryz.prog.rowNamed t [101, 114, 114, 111, 114] := List.mem_filter.2 ⟨List.mem_range.2 (by rw [← oh]; exact e3), e4⟩
  rw [nk] at hm
  obtain rfl := List.mem_singleton.1 hm
  have hh : typeHandle Tryz.prog 45 = .pointer (some ⟨1, 45, none⟩) := by kernel_rfl
  rw [hh] at e5
  simpa using World.var?_cell pM e5 0
noncomputable def jO (os : Os) (args : Array Value) : World :=
  let w0 := World.holding Tryz.prog os ⟨#[], args, []⟩
  { w0 with heap := w0.heap.modify 0 fun
      | .cells _ t frozen => .cells #[.iface 196 (.agg #[.pointer (some ⟨1, 45, none⟩)])] t frozen
      | o => o }
theorem oS (os : Os) (args args' : Array Value) : laidMetH Tryz.prog Rows.parseStrategiesRow.laid ((jO os args).forCall (fun _ _ => 0) ⟨#[], args', []⟩).memory :=
  laidMetH_of_parts (laidMet_nil _ _) (by kernel_rfl)
set_option maxRecDepth 100000 in
theorem nq (os : Os) (started : os.Started) (H : Type) (enc : TypeId × Value → H) :
    ReturnsInHanded {} Tryz.checked os 3 .any (fun w args => (Rows.parseStrategiesSpec.pre enc Tryz.prog Tryz.f3 Rows.parseStrategiesRow.domain false w args ∧ laidMetH Tryz.prog Rows.parseStrategiesRow.laid w) ∧ sizedMet enc Tryz.prog Tryz.f3 (OpenSpec.ofChange Rows.parseStrategiesSpec) false w args) (Rows.parseStrategiesSpec.post enc Tryz.prog Tryz.f3 false true false false) := by
  refine returnsInHanded_of_change_and (C := Tryz.checked) (X := fun w _ => laidMetH Tryz.prog Rows.parseStrategiesRow.laid w) (fun _ _ _ hh h => laidMetH.of_heap hh h) oR started (by kernel_rfl) Tryz.func3
    (ChangeSpec.witness_at (enc := enc) (C := Tryz.checked) (os := os) (X := fun w _ => laidMetH Tryz.prog Rows.parseStrategiesRow.laid w) false (jO os #[.string (⟨#[]⟩ : ByteArray), .string (⟨#[]⟩ : ByteArray)]) #[.string (⟨#[]⟩ : ByteArray), .string (⟨#[]⟩ : ByteArray)] 8 rfl (by kernel_rfl) (by kernel_rfl) (by kernel_rfl) (by kernel_rfl) (by kernel_rfl) (oS os _ _)) ?_
  intro W base args ds gs before hval0 hW hcnd hsz hL _
  have hg : Lx.Gl (cS.all W) := Lx.Gl.D7 (np hL)
  have hval : ∀ (j : Nat) t v, Tryz.f3.params[j]? = some t → args[j]? = some v → Value.okWide Tryz.prog W .any base t v := hval0
  have hW' := hW
  obtain ⟨p, q, hA0, hV, rfl, hfz, hnd⟩ := hW
  have hA : DataW.TrodAll enc Tryz.prog W 0 (fun _ => true) true Tryz.f3.params.toList args.toList ds p := hA0
  rw [gG] at hA hval
  obtain ⟨v0, v1, d0, d1, p0, p1, rfl, rfl, rfl, h0, h1⟩ := trodAll_two hA
  obtain ⟨rfl, rfl⟩ := trodVars_none hV
  have hsz2 : ∀ m ∈ DataW.weightsEach Lx.P [9, 9] [d0, d1], m ≤ reachBytes := fun m hm => by
    have := List.all_eq_true.1 hsz m hm
    exact of_decide_eq_true this
  have hw0 : ∀ m ∈ d0.weights Lx.P 9, m ≤ reachBytes := fun m hm => hsz2 m (by simp only [DataW.weightsEach, List.mem_append]; exact .inl hm)
  obtain ⟨a0, rfl, _, _, w0⟩ := open_string lf (hval 0 9 v0 rfl rfl) h0
  have hw1 : ∀ m ∈ d1.weights Lx.P 9, m ≤ reachBytes := fun m hm => hsz2 m (by simp only [DataW.weightsEach, List.mem_append]; exact .inr (.inl hm))
  obtain ⟨a1, rfl, _, _, w1⟩ := open_string lf (hval 1 9 v1 rfl rfl) h1
  have hA0k := hA0
  clear hA0 hval0
  refine (Lx.og a0 a1 (cS.all W) hg [] W (Sat.all W)).mono fun e W' ⟨I', F', hl, hs, he⟩ => ?_
  subst he
  exact ⟨_, rfl, zS (pv := []) hW' (fun _ _ _ => by rw [jv]; exact trodAll_mk1 (shut_bool kc _))
    (fun sp hsp => o3 (kids_rows (by kernel_rfl) (by kernel_rfl)) (fun {t e} h1 h2 => slices_full_of Tryz.prog (by kernel_rfl) t e h1 h2) (lL.of hl hs) (by rw [gG]; exact nz) hA0k (fun p hp => hsp p (by simpa using hp))) (fun _ _ => rfl) (by simp) (lL.of hl hs)
    (ok_one jv rfl (okWide_bool_mk kc _))⟩
theorem nA : Rows.ParseStrategiesSaid :=
  OpenClaim.holds_of_wide 3 Tryz.f3 rfl rfl rfl rfl rfl rfl rfl ⟨rfl, rfl, rfl, rfl, rfl⟩ rfl rfl rfl rfl rfl (by kernel_rfl) Tryz.func3 (by kernel_rfl)
    (of_decide_eq_true (by kernel_rfl)) (by unfold Func.isWrapper; first | (rw [if_pos (by decide +kernel)]; kernel_rfl) | (rw [if_neg (by decide +kernel)]; exact ⟨rfl, rfl⟩))
    (fun os started H enc _ => nq os started H enc)
theorem parseStrategies_card : Rows.ParseStrategiesCardSaid :=
  Claim7.holds_tied_plain_at .later [] [.handle] true (true, "b99a7a85c501d9f24c7ad97f4d34f0aaf729681f8330a815984032e51fb6ea32") true
    nA (fun _ h => by cases h) (by kernel_rfl) (fun _ h => by cases h) parseStrategies_row_tie rfl ⟨rfl, rfl⟩ (by kernel_rfl) rfl
    (fun f fn hf hfn => by
      obtain rfl : f = 3 := Option.some.inj ((show Tryz.prog.funcNamed "tripwire/tripwirelaw13.ParseStrategies" = some 3 by kernel_rfl).symm.trans hf) |>.symm
      obtain rfl : fn = Tryz.f3 := (Option.some.inj (Tryz.func3.symm.trans hfn)).symm
      refine ⟨by kernel_rfl, fun j t ht => ?_⟩
      rw [gG] at ht
      have hm : t = 9 ∨ t = 9 := by simpa using Array.mem_of_getElem? ht
      rcases hm with rfl | rfl
      · exact (show Tryz.prog.wantsStandIn 9 = false by kernel_rfl)
      · exact (show Tryz.prog.wantsStandIn 9 = false by kernel_rfl))
    (by kernel_rfl)
end Go.Proofs.YtdhcodphiofhjaaGreatDoor
#print axioms Go.Proofs.YtdhcodphiofhjaaGreatDoor.parseStrategies_card
