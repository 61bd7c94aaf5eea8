/-
  The law ParseSpaced returns true for every input, never panics, and leaves its arguments and all memory that was there as it was. Where its arguments together are of bulk at most 1048576.
-/
import Derived.Test.YtdhcodphiofhjaaGreatDoorParseSpacedB6
import Derived.Test.YtdhcodphiofhjaaGreatDoorRows
import Derived.SizedLaws
import Derived.JoinedCond
import Derived.Deep.DeepHandedRow
import Derived.ChangeVars
import Derived.LaidLaws
import Derived.LaidHandle
import Derived.Handed
import Derived.JoinedOf
import Derived.RowKit
import Derived.RowKitTokens
import Derived.Stop.Joined
import Derived.SevenTiedAt
import Derived.Test.YtdhcodphiofhjaaGreatDoorCards
import Derived.Test.YtdhcodphiofhjaaGreatDoorTie
set_option linter.unusedVariables false
set_option linter.unusedSimpArgs false
namespace Go.Proofs.YtdhcodphiofhjaaGreatDoor
open Go.ChangeMaps Go.ChangeShapes Go.WideShapes Go.ChangeAt Go.RowKit Go.Vc

theorem rE : ownKnob Tryz.prog.godebug = none := by kernel_rfl
theorem iJ : Tryz.f7.params = #[9, 79] := by kernel_rfl
theorem jT : Tryz.f7.resultTypes = #[4] := by kernel_rfl
theorem mc : Tryz.prog.underlying 4 = some .bool := by kernel_rfl
theorem uc : Tryz.prog.underlying 9 = some .string := by kernel_rfl
theorem rF : Tryz.prog.underlying 79 = some (.slice 5) := by kernel_rfl
theorem rG : Tryz.prog.underlying 5 = some (.int .u8) := by kernel_rfl
theorem rH : Tryz.prog.cellsOf 5 = 1 := by kernel_rfl
theorem qh : ∀ t ∈ ([9, 79] : List TypeId), t < Tryz.prog.types.size := by decide +kernel
theorem ud : Tryz.prog.globalNamed "errors.errorType" = some 0 := by kernel_rfl
theorem ue : (Tryz.prog.cutTypes.find? (·.1 == "internal/reflectlite.rtype")).map (·.2) = some 196 := by kernel_rfl
theorem ph : ((List.range 268).filter fun t => Tryz.prog.rowNamed t [101, 114, 114, 111, 114]) = [45] := by kernel_rfl
theorem qP : Tryz.prog.types.size = 268 := by kernel_rfl
theorem pj {W : World} (h : laidMetH Tryz.prog Rows.parseSpacedUptoRow.laid W) : W.cell? ⟨0, 0, none⟩ = some (.iface 196 (.agg #[.pointer (some ⟨1, 45, none⟩)])) := by
  have h' : laidMet Tryz.prog [] W ∧ handlesMet Tryz.prog Rows.parseSpacedUptoRow.laid W := h
  obtain ⟨name, u, ty, e1, e2, e3, e4, e5⟩ := h'.2 _ (List.mem_singleton.2 rfl)
  have en : name = [101, 114, 114, 111, 114] := (Option.some.inj e1).symm
  subst en
  obtain rfl := Option.some.inj (ue.symm.trans e2)
  have hm : ty ∈ (List.range 268).filter fun t => Tryz.prog.rowNamed t [101, 114, 114, 111, 114] := List.mem_filter.2 ⟨List.mem_range.2 (by rw [← qP]; exact e3), e4⟩
  rw [ph] at hm
  obtain rfl := List.mem_singleton.1 hm
  have hh : typeHandle Tryz.prog 45 = .pointer (some ⟨1, 45, none⟩) := by kernel_rfl
  rw [hh] at e5
  simpa using World.var?_cell ud e5 0
noncomputable def jn (os : Os) (args : Array Value) : World :=
  let w0 := World.holding Tryz.prog os ⟨#[], args, []⟩
  { w0 with heap := w0.heap.modify 0 fun
      | .cells _ t frozen => .cells #[.iface 196 (.agg #[.pointer (some ⟨1, 45, none⟩)])] t frozen
      | o => o }
theorem rI (os : Os) (args args' : Array Value) : laidMetH Tryz.prog Rows.parseSpacedUptoRow.laid ((jn os args).forCall (fun _ _ => 0) ⟨#[], args', []⟩).memory :=
  laidMetH_of_parts (laidMet_nil _ _) (by kernel_rfl)
theorem qi (os : Os) {H : Type} (enc : TypeId × Value → H) : ∃ places, DataW.whole enc Tryz.prog ((jn os #[.string (⟨#[]⟩ : ByteArray), .slice none 0 0]).forCall (fun _ _ => 0) ⟨#[], #[.string (⟨#[]⟩ : ByteArray), .slice none 0 0], []⟩).memory Tryz.f7.params.toList Rows.parseSpacedSpec.vars false (#[.string (⟨#[]⟩ : ByteArray), .slice none 0 0] : Array Value).toList 8 = some ([.lit (.string []), .nil], [], places) := ⟨[], by kernel_rfl⟩
set_option maxRecDepth 100000 in
theorem pk (os : Os) (started : os.Started) (H : Type) (enc : TypeId × Value → H) (F0 : Stop.Interp) :
    ReturnsInHanded {} Tryz.checked os 7 .any ((Rows.OpenSpec.upto Rows.parseSpacedSpec).preRow enc Tryz.prog Tryz.f7 Rows.parseSpacedUptoRow.domain false Rows.parseSpacedUptoRow.laid) (((Rows.OpenSpec.upto Rows.parseSpacedSpec).at F0).post enc Tryz.prog Tryz.f7 false true false false) := by
  obtain ⟨places, hx⟩ := qi os enc
  refine returnsInHanded_of_row (C := Tryz.checked) (s := Rows.OpenSpec.upto Rows.parseSpacedSpec) rE started (by kernel_rfl) Tryz.func7
    (witness_row_at (enc := enc) (C := Tryz.checked) false (jn os #[.string (⟨#[]⟩ : ByteArray), .slice none 0 0]) #[.string (⟨#[]⟩ : ByteArray), .slice none 0 0] rfl (by kernel_rfl) (by kernel_rfl) (by kernel_rfl)
      (OpenSpec.preRow_of_cond 8 hx (by kernel_rfl) (fun k hk => by cases hk; kernel_rfl) (by kernel_rfl) (rI os _ _))) ?_
  intro W base args ds gs before hval0 hW hcnd _ hsz hL _ _
  have hg : Lx.Gl (cS.all W) := Lx.Gl.wh (pj hL)
  have hval : ∀ (j : Nat) t v, Tryz.f7.params[j]? = some t → args[j]? = some v → Value.okWide Tryz.prog W .any base t v := hval0
  have hW' := hW
  obtain ⟨p, q, hA0, hV, rfl, hfz, hnd⟩ := hW
  have hA : DataW.TrodAll enc Tryz.prog W 0 (fun _ => true) true Tryz.f7.params.toList args.toList ds p := hA0
  rw [iJ] at hA hval
  obtain ⟨v0, v1, d0, d1, p0, p1, rfl, rfl, rfl, h0, h1⟩ := trodAll_two hA
  obtain ⟨rfl, rfl⟩ := trodVars_none hV
  have hsz2 : ∀ m ∈ DataW.weightsEach Lx.P [9, 79] [d0, d1], m ≤ reachBytes := fun m hm => by
    have := List.all_eq_true.1 hsz m hm
    exact of_decide_eq_true this
  have hw0 : ∀ m ∈ d0.weights Lx.P 9, m ≤ reachBytes := fun m hm => hsz2 m (by simp only [DataW.weightsEach, List.mem_append]; exact .inl hm)
  obtain ⟨a0, rfl, _, _, w0⟩ := open_string uc (hval 0 9 v0 rfl rfl) h0
  have hw1 : ∀ m ∈ d1.weights Lx.P 79, m ≤ reachBytes := fun m hm => hsz2 m (by simp only [DataW.weightsEach, List.mem_append]; exact .inr (.inl hm))
  obtain ⟨g1_a, g1_n, g1_c, z1, rfl, hS1, hz1⟩ := A5 rF rG rH (hval 1 79 v1 rfl rfl) h1
  have hA0k := hA0
  clear hA0 hval0
  refine (Lx.qO a0 hS1 (fun x hx => Lx.Cz (hz1 x hx)) hg [] W (Sat.all W)).mono fun e W' ⟨I', F', hl, hs, he⟩ => ?_
  subst he
  show ∃ v, Ending.returned (.bool true) = .returned v ∧ Rows.parseSpacedSpec.post enc Tryz.prog Tryz.f7 false true false false W _ v W'
  exact ⟨_, rfl, yU (pv := []) hW' (fun _ _ _ => by rw [jT]; exact trodAll_mk1 (shut_bool mc _))
    (fun sp hsp => oJ (kids_rows (by kernel_rfl) (by kernel_rfl)) (fun {t e} h1 h2 => slices_full_of Tryz.prog (by kernel_rfl) t e h1 h2) (lg.of hl hs) (by rw [iJ]; exact qh) hA0k (fun p hp => hsp p (by simpa using hp))) (fun _ _ => rfl) (by simp) (lg.of hl hs)
    (ok_one jT rfl (okWide_bool_mk mc _))⟩
theorem qj : Rows.ParseSpacedUptoSaid :=
  OpenClaim.holds_of_cond 7 Tryz.f7 rfl rfl rfl rfl rfl rfl rfl ⟨rfl, rfl, rfl, rfl, rfl⟩ rfl rfl rfl rfl rfl (by kernel_rfl) Tryz.func7 (by kernel_rfl)
    (of_decide_eq_true (by kernel_rfl)) (by unfold Func.isWrapper; first | (rw [if_pos (by decide +kernel)]; kernel_rfl) | (rw [if_neg (by decide +kernel)]; exact ⟨rfl, rfl⟩))
    (fun os started H enc _ F => by rw [OpenClaim.pre_eq_preRow]; exact pk os started H enc F)
theorem parseSpaced_card : Rows.ParseSpacedUptoCardSaid :=
  Claim7.holds_tied_plain_at .later [] [.handle] true (true, "b99a7a85c501d9f24c7ad97f4d34f0aaf729681f8330a815984032e51fb6ea32") true
    qj (fun _ h => by cases h) (by kernel_rfl) (fun _ h => by cases h) parseSpacedUpto_row_tie rfl ⟨rfl, rfl⟩ (by kernel_rfl) rfl
    (fun f fn hf hfn => by
      obtain rfl : f = 7 := Option.some.inj ((show Tryz.prog.funcNamed "tripwire/tripwirelaw13.ParseSpaced" = some 7 by kernel_rfl).symm.trans hf) |>.symm
      obtain rfl : fn = Tryz.f7 := (Option.some.inj (Tryz.func7.symm.trans hfn)).symm
      refine ⟨by kernel_rfl, fun j t ht => ?_⟩
      rw [iJ] at ht
      have hm : t = 9 ∨ t = 79 := by simpa using Array.mem_of_getElem? ht
      rcases hm with rfl | rfl
      · exact (show Tryz.prog.wantsStandIn 9 = false by kernel_rfl)
      · exact (show Tryz.prog.wantsStandIn 79 = false by kernel_rfl))
    (by kernel_rfl)
end Go.Proofs.YtdhcodphiofhjaaGreatDoor
#print axioms Go.Proofs.YtdhcodphiofhjaaGreatDoor.parseSpaced_card
