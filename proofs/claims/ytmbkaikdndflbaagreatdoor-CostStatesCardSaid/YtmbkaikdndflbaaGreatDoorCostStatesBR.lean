/-
  The law CostStates returns true for every input, never panics, and leaves its arguments and all memory that was there as it was. No conditions.
-/
import Derived.Test.YtmbkaikdndflbaaGreatDoorCostStatesB7
import Derived.Test.YtmbkaikdndflbaaGreatDoorRows
import Derived.SizedLaws
import Derived.ChangeVars
import Derived.LaidLaws
import Derived.LaidHandle
import Derived.Handed
import Derived.JoinedOf
import Derived.RowKit
import Derived.RowKitTokens
import Derived.Stop.Joined
import Derived.SevenTiedAt
import Derived.Test.YtmbkaikdndflbaaGreatDoorCards
import Derived.Test.YtmbkaikdndflbaaGreatDoorTie
set_option linter.unusedVariables false
set_option linter.unusedSimpArgs false
namespace Go.Proofs.YtmbkaikdndflbaaGreatDoor
open Go.ChangeMaps Go.ChangeShapes Go.WideShapes Go.ChangeAt Go.RowKit Go.Vc

theorem wQ : ownKnob Tryz.prog.godebug = none := by kernel_rfl
theorem iS : Tryz.f6.params = #[39] := by kernel_rfl
theorem lh : Tryz.f6.resultTypes = #[4] := by kernel_rfl
theorem oG : Tryz.prog.underlying 4 = some .bool := by kernel_rfl
theorem tq : ∀ t ∈ ([39] : List TypeId), t < Tryz.prog.types.size := by decide +kernel
theorem xm : Tryz.prog.globalNamed "errors.errorType" = some 0 := by kernel_rfl
theorem xo : (Tryz.prog.cutTypes.find? (·.1 == "internal/reflectlite.rtype")).map (·.2) = some 171 := by kernel_rfl
theorem sG : ((List.range 259).filter fun t => Tryz.prog.rowNamed t [101, 114, 114, 111, 114]) = [44] := by kernel_rfl
theorem uu : Tryz.prog.types.size = 259 := by kernel_rfl
theorem sH {W : World} (h : laidMetH Tryz.prog Rows.costStatesRow.laid W) : W.cell? ⟨0, 0, none⟩ = some (.iface 171 (.agg #[.pointer (some ⟨1, 44, none⟩)])) := by
  have h' : laidMet Tryz.prog [] W ∧ handlesMet Tryz.prog Rows.costStatesRow.laid W := h
  obtain ⟨name, u, ty, e1, e2, e3, e4, e5⟩ := h'.2 _ (List.mem_singleton.2 rfl)
  have en : name = [101, 114, 114, 111, 114] := (Option.some.inj e1).symm
  subst en
  obtain rfl := Option.some.inj (xo.symm.trans e2)
  have hm : ty ∈ (List.range 259).filter fun t => Tryz.prog.rowNamed t [101, 114, 114, 111, 114] := List.mem_filter.2 ⟨List.mem_range.2 (by rw [← uu]; exact e3), e4⟩
  rw [sG] at hm
  obtain rfl := List.mem_singleton.1 hm
  have hh : typeHandle Tryz.prog 44 = .pointer (some ⟨1, 44, none⟩) := by kernel_rfl
  rw [hh] at e5
  simpa using World.var?_cell xm e5 0
noncomputable def mV (os : Os) (args : Array Value) : World :=
  let w0 := World.holding Tryz.prog os ⟨#[], args, []⟩
  { w0 with heap := w0.heap.modify 0 fun
      | .cells _ t frozen => .cells #[.iface 171 (.agg #[.pointer (some ⟨1, 44, none⟩)])] t frozen
      | o => o }
theorem wR (os : Os) (args args' : Array Value) : laidMetH Tryz.prog Rows.costStatesRow.laid ((mV os args).forCall (fun _ _ => 0) ⟨#[], args', []⟩).memory :=
  laidMetH_of_parts (laidMet_nil _ _) (by kernel_rfl)
set_option maxRecDepth 100000 in
theorem sI (os : Os) (started : os.Started) (H : Type) (enc : TypeId × Value → H) :
    ReturnsInHanded {} Tryz.checked os 6 .any (fun w args => (Rows.costStatesSpec.pre enc Tryz.prog Tryz.f6 Rows.costStatesRow.domain false w args ∧ laidMetH Tryz.prog Rows.costStatesRow.laid w) ∧ sizedMet enc Tryz.prog Tryz.f6 (OpenSpec.ofChange Rows.costStatesSpec) false w args) (Rows.costStatesSpec.post enc Tryz.prog Tryz.f6 false true false false) := by
  refine returnsInHanded_of_change_and (C := Tryz.checked) (X := fun w _ => laidMetH Tryz.prog Rows.costStatesRow.laid w) (fun _ _ _ hh h => laidMetH.of_heap hh h) wQ started (by kernel_rfl) Tryz.func6
    (ChangeSpec.witness_at (enc := enc) (C := Tryz.checked) (os := os) (X := fun w _ => laidMetH Tryz.prog Rows.costStatesRow.laid w) false (mV os #[Value.agg #[Value.string (⟨#[]⟩ : ByteArray), Value.slice none 0 0, Value.slice none 0 0, Value.slice none 0 0]]) #[Value.agg #[Value.string (⟨#[]⟩ : ByteArray), Value.slice none 0 0, Value.slice none 0 0, Value.slice none 0 0]] 8 rfl (by kernel_rfl) (by kernel_rfl) (by kernel_rfl) (by kernel_rfl) (by kernel_rfl) (wR os _ _)) ?_
  intro W base args ds gs before hval0 hW hcnd hsz hL _
  have hg : Lx.Gl (cc.all W) := Lx.Gl.GO (sH hL)
  have hval : ∀ (j : Nat) t v, Tryz.f6.params[j]? = some t → args[j]? = some v → Value.okWide Tryz.prog W .any base t v := hval0
  have hW' := hW
  obtain ⟨p, q, hA0, hV, rfl, hfz, hnd⟩ := hW
  have hA : DataW.TrodAll enc Tryz.prog W 0 (fun _ => true) true Tryz.f6.params.toList args.toList ds p := hA0
  rw [iS] at hA hval
  obtain ⟨v0, d0, rfl, rfl, h0⟩ := trodAll_one hA
  obtain ⟨rfl, rfl⟩ := trodVars_none hV
  have hsz2 : ∀ m ∈ DataW.weightsEach Lx.P [39] [d0], m ≤ reachBytes := fun m hm => by
    have := List.all_eq_true.1 hsz m hm
    exact of_decide_eq_true this
  have hw0 : ∀ m ∈ d0.weights Lx.P 39, m ≤ reachBytes := fun m hm => hsz2 m (by simp only [DataW.weightsEach, List.mem_append]; exact .inl hm)
  obtain ⟨a0, rfl, ok0, wf0, sh0'⟩ := Lx.FY (hval 0 39 v0 rfl rfl) h0
  have sh0 := sh0' hw0
  have hA0k := hA0
  clear hA0 hval0
  refine (Lx.ur a0 sh0 (cc.all W) hg [] ok0 W (Sat.all W)).mono fun e W' ⟨I', F', hl, hs, he⟩ => ?_
  subst he
  exact ⟨_, rfl, Bx (pv := []) hW' (fun _ _ _ => by rw [lh]; exact trodAll_mk1 (shut_bool oG _))
    (fun sp hsp => qG (kids_rows (by kernel_rfl) (by kernel_rfl)) (fun {t e} h1 h2 => slices_full_of Tryz.prog (by kernel_rfl) t e h1 h2) (lC.of hl hs) (by rw [iS]; exact tq) hA0k (fun p hp => hsp p (by simpa using hp))) (fun _ _ => rfl) (by simp) (lC.of hl hs)
    (ok_one lh rfl (okWide_bool_mk oG _))⟩
theorem tr : Rows.CostStatesSaid :=
  OpenClaim.holds_of_wide 6 Tryz.f6 rfl rfl rfl rfl rfl rfl rfl ⟨rfl, rfl, rfl, rfl, rfl⟩ rfl rfl rfl rfl rfl (by kernel_rfl) Tryz.func6 (by kernel_rfl)
    (of_decide_eq_true (by kernel_rfl)) (by unfold Func.isWrapper; first | (rw [if_pos (by decide +kernel)]; kernel_rfl) | (rw [if_neg (by decide +kernel)]; exact ⟨rfl, rfl⟩))
    (fun os started H enc _ => sI os started H enc)
theorem costStates_card : Rows.CostStatesCardSaid :=
  Claim7.holds_tied_plain_at .later [] [.handle] true (true, "c2f287cd6fb869ca7b9ca5e94d622e56bf16f3ee657498426b43245f970f71d0") true
    tr (fun _ h => by cases h) (by kernel_rfl) (fun _ h => by cases h) costStates_row_tie rfl ⟨rfl, rfl⟩ (by kernel_rfl) rfl
    (fun f fn hf hfn => by
      obtain rfl : f = 6 := Option.some.inj ((show Tryz.prog.funcNamed "tripwire/tripwirelaw16.CostStates" = some 6 by kernel_rfl).symm.trans hf) |>.symm
      obtain rfl : fn = Tryz.f6 := (Option.some.inj (Tryz.func6.symm.trans hfn)).symm
      refine ⟨by kernel_rfl, fun j t ht => ?_⟩
      rw [iS] at ht
      have hm : t = 39 := by simpa using Array.mem_of_getElem? ht
      rcases hm with rfl
      · exact (show Tryz.prog.wantsStandIn 39 = false by kernel_rfl))
    (by kernel_rfl)
end Go.Proofs.YtmbkaikdndflbaaGreatDoor
#print axioms Go.Proofs.YtmbkaikdndflbaaGreatDoor.costStates_card
