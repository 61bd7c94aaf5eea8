/-
  The law ParseSound returns true for every input, never panics, and leaves its arguments and all memory that was there as it was. No conditions.
-/
import Derived.Test.YtdhcodphiofhjaaGreatDoorParseSoundB6
import Derived.Test.YtdhcodphiofhjaaGreatDoorRows
import Derived.SizedLaws
import Derived.ChangeVars
import Derived.LaidLaws
import Derived.LaidHandle
import Derived.Handed
import Derived.JoinedOf
import Derived.RowKit
import Derived.RowKitTokens
import Derived.Stop.Joined
import Derived.SevenTiedAt
import Derived.Test.YtdhcodphiofhjaaGreatDoorCards
import Derived.Test.YtdhcodphiofhjaaGreatDoorTie
set_option linter.unusedVariables false
set_option linter.unusedSimpArgs false
namespace Go.Proofs.YtdhcodphiofhjaaGreatDoor
open Go.ChangeMaps Go.ChangeShapes Go.WideShapes Go.ChangeAt Go.RowKit Go.Vc

theorem s6 : ownKnob Tryz.prog.godebug = none := by kernel_rfl
theorem jf : Tryz.f6.params = #[9, 9] := by kernel_rfl
theorem kD : Tryz.f6.resultTypes = #[4] := by kernel_rfl
theorem mR : Tryz.prog.underlying 4 = some .bool := by kernel_rfl
theorem ox : Tryz.prog.underlying 9 = some .string := by kernel_rfl
theorem qp : ∀ t ∈ ([9, 9] : List TypeId), t < Tryz.prog.types.size := by decide +kernel
theorem tB : Tryz.prog.globalNamed "errors.errorType" = some 0 := by kernel_rfl
theorem tC : (Tryz.prog.cutTypes.find? (·.1 == "internal/reflectlite.rtype")).map (·.2) = some 196 := by kernel_rfl
theorem pT : ((List.range 268).filter fun t => Tryz.prog.rowNamed t [101, 114, 114, 111, 114]) = [45] := by kernel_rfl
theorem qR : Tryz.prog.types.size = 268 := by kernel_rfl
theorem pU {W : World} (h : laidMetH Tryz.prog Rows.parseSoundRow.laid W) : W.cell? ⟨0, 0, none⟩ = some (.iface 196 (.agg #[.pointer (some ⟨1, 45, none⟩)])) := by
  have h' : laidMet Tryz.prog [] W ∧ handlesMet Tryz.prog Rows.parseSoundRow.laid W := h
  obtain ⟨name, u, ty, e1, e2, e3, e4, e5⟩ := h'.2 _ (List.mem_singleton.2 rfl)
  have en : name = [101, 114, 114, 111, 114] := (Option.some.inj e1).symm
  subst en
  obtain rfl := Option.some.inj (tC.symm.trans e2)
  have hm : ty ∈ (List.range 268).filter fun t => Tryz.prog.rowNamed t [101, 114, 114, 111, 114] := List.mem_filter.2 ⟨List.mem_range.2 (by rw [← qR]; exact e3), e4⟩
  rw [pT] at hm
  obtain rfl := List.mem_singleton.1 hm
  have hh : typeHandle Tryz.prog 45 = .pointer (some ⟨1, 45, none⟩) := by kernel_rfl
  rw [hh] at e5
  simpa using World.var?_cell tB e5 0
noncomputable def lL (os : Os) (args : Array Value) : World :=
  let w0 := World.holding Tryz.prog os ⟨#[], args, []⟩
  { w0 with heap := w0.heap.modify 0 fun
      | .cells _ t frozen => .cells #[.iface 196 (.agg #[.pointer (some ⟨1, 45, none⟩)])] t frozen
      | o => o }
theorem s7 (os : Os) (args args' : Array Value) : laidMetH Tryz.prog Rows.parseSoundRow.laid ((lL os args).forCall (fun _ _ => 0) ⟨#[], args', []⟩).memory :=
  laidMetH_of_parts (laidMet_nil _ _) (by kernel_rfl)
set_option maxRecDepth 100000 in
theorem pV (os : Os) (started : os.Started) (H : Type) (enc : TypeId × Value → H) :
    ReturnsInHanded {} Tryz.checked os 6 .any (fun w args => (Rows.parseSoundSpec.pre enc Tryz.prog Tryz.f6 Rows.parseSoundRow.domain false w args ∧ laidMetH Tryz.prog Rows.parseSoundRow.laid w) ∧ sizedMet enc Tryz.prog Tryz.f6 (OpenSpec.ofChange Rows.parseSoundSpec) false w args) (Rows.parseSoundSpec.post enc Tryz.prog Tryz.f6 false true false false) := by
  refine returnsInHanded_of_change_and (C := Tryz.checked) (X := fun w _ => laidMetH Tryz.prog Rows.parseSoundRow.laid w) (fun _ _ _ hh h => laidMetH.of_heap hh h) s6 started (by kernel_rfl) Tryz.func6
    (ChangeSpec.witness_at (enc := enc) (C := Tryz.checked) (os := os) (X := fun w _ => laidMetH Tryz.prog Rows.parseSoundRow.laid w) false (lL os #[.string (⟨#[]⟩ : ByteArray), .string (⟨#[]⟩ : ByteArray)]) #[.string (⟨#[]⟩ : ByteArray), .string (⟨#[]⟩ : ByteArray)] 8 rfl (by kernel_rfl) (by kernel_rfl) (by kernel_rfl) (by kernel_rfl) (by kernel_rfl) (s7 os _ _)) ?_
  intro W base args ds gs before hval0 hW hcnd hsz hL _
  have hg : Lx.Gl (cS.all W) := Lx.Gl.CE (pU hL)
  have hval : ∀ (j : Nat) t v, Tryz.f6.params[j]? = some t → args[j]? = some v → Value.okWide Tryz.prog W .any base t v := hval0
  have hW' := hW
  obtain ⟨p, q, hA0, hV, rfl, hfz, hnd⟩ := hW
  have hA : DataW.TrodAll enc Tryz.prog W 0 (fun _ => true) true Tryz.f6.params.toList args.toList ds p := hA0
  rw [jf] at hA hval
  obtain ⟨v0, v1, d0, d1, p0, p1, rfl, rfl, rfl, h0, h1⟩ := trodAll_two hA
  obtain ⟨rfl, rfl⟩ := trodVars_none hV
  have hsz2 : ∀ m ∈ DataW.weightsEach Lx.P [9, 9] [d0, d1], m ≤ reachBytes := fun m hm => by
    have := List.all_eq_true.1 hsz m hm
    exact of_decide_eq_true this
  have hw0 : ∀ m ∈ d0.weights Lx.P 9, m ≤ reachBytes := fun m hm => hsz2 m (by simp only [DataW.weightsEach, List.mem_append]; exact .inl hm)
  obtain ⟨a0, rfl, _, _, w0⟩ := open_string ox (hval 0 9 v0 rfl rfl) h0
  have hw1 : ∀ m ∈ d1.weights Lx.P 9, m ≤ reachBytes := fun m hm => hsz2 m (by simp only [DataW.weightsEach, List.mem_append]; exact .inr (.inl hm))
  obtain ⟨a1, rfl, _, _, w1⟩ := open_string ox (hval 1 9 v1 rfl rfl) h1
  have hA0k := hA0
  clear hA0 hval0
  refine (Lx.qQ a0 a1 (cS.all W) hg [] W (Sat.all W)).mono fun e W' ⟨I', F', hl, hs, he⟩ => ?_
  subst he
  exact ⟨_, rfl, yf (pv := []) hW' (fun _ _ _ => by rw [kD]; exact trodAll_mk1 (shut_bool mR _))
    (fun sp hsp => ow (kids_rows (by kernel_rfl) (by kernel_rfl)) (fun {t e} h1 h2 => slices_full_of Tryz.prog (by kernel_rfl) t e h1 h2) (kX.of hl hs) (by rw [jf]; exact qp) hA0k (fun p hp => hsp p (by simpa using hp))) (fun _ _ => rfl) (by simp) (kX.of hl hs)
    (ok_one kD rfl (okWide_bool_mk mR _))⟩
theorem qq : Rows.ParseSoundSaid :=
  OpenClaim.holds_of_wide 6 Tryz.f6 rfl rfl rfl rfl rfl rfl rfl ⟨rfl, rfl, rfl, rfl, rfl⟩ rfl rfl rfl rfl rfl (by kernel_rfl) Tryz.func6 (by kernel_rfl)
    (of_decide_eq_true (by kernel_rfl)) (by unfold Func.isWrapper; first | (rw [if_pos (by decide +kernel)]; kernel_rfl) | (rw [if_neg (by decide +kernel)]; exact ⟨rfl, rfl⟩))
    (fun os started H enc _ => pV os started H enc)
theorem parseSound_card : Rows.ParseSoundCardSaid :=
  Claim7.holds_tied_plain_at .later [] [.handle] true (true, "b99a7a85c501d9f24c7ad97f4d34f0aaf729681f8330a815984032e51fb6ea32") true
    qq (fun _ h => by cases h) (by kernel_rfl) (fun _ h => by cases h) parseSound_row_tie rfl ⟨rfl, rfl⟩ (by kernel_rfl) rfl
    (fun f fn hf hfn => by
      obtain rfl : f = 6 := Option.some.inj ((show Tryz.prog.funcNamed "tripwire/tripwirelaw13.ParseSound" = some 6 by kernel_rfl).symm.trans hf) |>.symm
      obtain rfl : fn = Tryz.f6 := (Option.some.inj (Tryz.func6.symm.trans hfn)).symm
      refine ⟨by kernel_rfl, fun j t ht => ?_⟩
      rw [jf] at ht
      have hm : t = 9 ∨ t = 9 := by simpa using Array.mem_of_getElem? ht
      rcases hm with rfl | rfl
      · exact (show Tryz.prog.wantsStandIn 9 = false by kernel_rfl)
      · exact (show Tryz.prog.wantsStandIn 9 = false by kernel_rfl))
    (by kernel_rfl)
end Go.Proofs.YtdhcodphiofhjaaGreatDoor
#print axioms Go.Proofs.YtdhcodphiofhjaaGreatDoor.parseSound_card
