/-
  The law ParseBrackets returns true for every input, never panics, and leaves its arguments and all memory that was there as it was. No conditions.
-/
import Derived.Test.YtdhcodphiofhjaaDoorParseBracketsB5
import Derived.Test.YtdhcodphiofhjaaDoorRows
import Derived.SizedLaws
import Derived.ChangeVars
import Derived.LaidLaws
import Derived.LaidHandle
import Derived.Handed
import Derived.JoinedOf
import Derived.RowKit
import Derived.RowKitTokens
import Derived.Stop.Joined
import Derived.SevenTiedAt
import Derived.Test.YtdhcodphiofhjaaDoorCards
import Derived.Test.YtdhcodphiofhjaaDoorTie
set_option linter.unusedVariables false
set_option linter.unusedSimpArgs false
namespace Go.Proofs.YtdhcodphiofhjaaDoor
open Go.ChangeMaps Go.ChangeShapes Go.WideShapes Go.ChangeAt Go.RowKit Go.Vc

theorem n6 : ownKnob Tryd.prog.godebug = none := by kernel_rfl
theorem gh : Tryd.f3.params = #[9] := by kernel_rfl
theorem iy : Tryd.f3.resultTypes = #[4] := by kernel_rfl
theorem jC : Tryd.prog.underlying 4 = some .bool := by kernel_rfl
theorem oL : Tryd.prog.underlying 9 = some .string := by kernel_rfl
theorem me : ∀ t ∈ ([9] : List TypeId), t < Tryd.prog.types.size := by decide +kernel
theorem oM : Tryd.prog.globalNamed "errors.errorType" = some 0 := by kernel_rfl
theorem oN : (Tryd.prog.cutTypes.find? (·.1 == "internal/reflectlite.rtype")).map (·.2) = some 110 := by kernel_rfl
theorem lz : ((List.range 181).filter fun t => Tryd.prog.rowNamed t [101, 114, 114, 111, 114]) = [31] := by kernel_rfl
theorem nc : Tryd.prog.types.size = 181 := by kernel_rfl
theorem lC {W : World} (h : laidMetH Tryd.prog Rows.parseBracketsRow.laid W) : W.cell? ⟨0, 0, none⟩ = some (.iface 110 (.agg #[.pointer (some ⟨1, 31, none⟩)])) := by
  have h' : laidMet Tryd.prog [] W ∧ handlesMet Tryd.prog Rows.parseBracketsRow.laid W := h
  obtain ⟨name, u, ty, e1, e2, e3, e4, e5⟩ := h'.2 _ (List.mem_singleton.2 rfl)
  have en : name = [101, 114, 114, 111, 114] := (Option.some.inj e1).symm
  subst en
  obtain rfl := Option.some.inj (oN.symm.trans e2)
  have hm : ty ∈ (List.range 181).filter fun t => Tryd.prog.rowNamed t [101, 114, 114, 111, 114] := List.mem_filter.2 ⟨List.mem_range.2 (by rw [← nc]; exact e3), e4⟩
  rw [lz] at hm
  obtain rfl := List.mem_singleton.1 hm
  have hh : typeHandle Tryd.prog 31 = .pointer (some ⟨1, 31, none⟩) := by kernel_rfl
  rw [hh] at e5
  simpa using World.var?_cell oM e5 0
noncomputable def iX (os : Os) (args : Array Value) : World :=
  let w0 := World.holding Tryd.prog os ⟨#[], args, []⟩
  { w0 with heap := w0.heap.modify 0 fun
      | .cells _ t frozen => .cells #[.iface 110 (.agg #[.pointer (some ⟨1, 31, none⟩)])] t frozen
      | o => o }
theorem n9 (os : Os) (args args' : Array Value) : laidMetH Tryd.prog Rows.parseBracketsRow.laid ((iX os args).forCall (fun _ _ => 0) ⟨#[], args', []⟩).memory :=
  laidMetH_of_parts (laidMet_nil _ _) (by kernel_rfl)
set_option maxRecDepth 100000 in
theorem lD (os : Os) (started : os.Started) (H : Type) (enc : TypeId × Value → H) :
    ReturnsInHanded {} Tryd.checked os 3 .any (fun w args => (Rows.parseBracketsSpec.pre enc Tryd.prog Tryd.f3 Rows.parseBracketsRow.domain false w args ∧ laidMetH Tryd.prog Rows.parseBracketsRow.laid w) ∧ sizedMet enc Tryd.prog Tryd.f3 (OpenSpec.ofChange Rows.parseBracketsSpec) false w args) (Rows.parseBracketsSpec.post enc Tryd.prog Tryd.f3 false true false false) := by
  refine returnsInHanded_of_change_and (C := Tryd.checked) (X := fun w _ => laidMetH Tryd.prog Rows.parseBracketsRow.laid w) (fun _ _ _ hh h => laidMetH.of_heap hh h) n6 started (by kernel_rfl) Tryd.func3
    (ChangeSpec.witness_at (enc := enc) (C := Tryd.checked) (os := os) (X := fun w _ => laidMetH Tryd.prog Rows.parseBracketsRow.laid w) false (iX os #[.string (⟨#[]⟩ : ByteArray)]) #[.string (⟨#[]⟩ : ByteArray)] 8 rfl (by kernel_rfl) (by kernel_rfl) (by kernel_rfl) (by kernel_rfl) (by kernel_rfl) (n9 os _ _)) ?_
  intro W base args ds gs before hval0 hW hcnd hsz hL _
  have hg : Lx.Gl (cS.all W) := Lx.Gl.zH (lC hL)
  have hval : ∀ (j : Nat) t v, Tryd.f3.params[j]? = some t → args[j]? = some v → Value.okWide Tryd.prog W .any base t v := hval0
  have hW' := hW
  obtain ⟨p, q, hA0, hV, rfl, hfz, hnd⟩ := hW
  have hA : DataW.TrodAll enc Tryd.prog W 0 (fun _ => true) true Tryd.f3.params.toList args.toList ds p := hA0
  rw [gh] at hA hval
  obtain ⟨v0, d0, rfl, rfl, h0⟩ := trodAll_one hA
  obtain ⟨rfl, rfl⟩ := trodVars_none hV
  have hsz2 : ∀ m ∈ DataW.weightsEach Lx.P [9] [d0], m ≤ reachBytes := fun m hm => by
    have := List.all_eq_true.1 hsz m hm
    exact of_decide_eq_true this
  have hw0 : ∀ m ∈ d0.weights Lx.P 9, m ≤ reachBytes := fun m hm => hsz2 m (by simp only [DataW.weightsEach, List.mem_append]; exact .inl hm)
  obtain ⟨a0, rfl, _, _, w0⟩ := open_string oL (hval 0 9 v0 rfl rfl) h0
  have hA0k := hA0
  clear hA0 hval0
  refine (Lx.nb a0 (cS.all W) hg [] W (Sat.all W)).mono fun e W' ⟨I', F', hl, hs, he⟩ => ?_
  subst he
  exact ⟨_, rfl, vv (pv := []) hW' (fun _ _ _ => by rw [iy]; exact trodAll_mk1 (shut_bool jC _))
    (fun sp hsp => mv (kids_rows (by kernel_rfl) (by kernel_rfl)) (fun {t e} h1 h2 => slices_full_of Tryd.prog (by kernel_rfl) t e h1 h2) (jL.of hl hs) (by rw [gh]; exact me) hA0k (fun p hp => hsp p (by simpa using hp))) (fun _ _ => rfl) (by simp) (jL.of hl hs)
    (ok_one iy rfl (okWide_bool_mk jC _))⟩
theorem mf : Rows.ParseBracketsSaid :=
  OpenClaim.holds_of_wide 3 Tryd.f3 rfl rfl rfl rfl rfl rfl rfl ⟨rfl, rfl, rfl, rfl, rfl⟩ rfl rfl rfl rfl rfl (by kernel_rfl) Tryd.func3 (by kernel_rfl)
    (of_decide_eq_true (by kernel_rfl)) (by unfold Func.isWrapper; first | (rw [if_pos (by decide +kernel)]; kernel_rfl) | (rw [if_neg (by decide +kernel)]; exact ⟨rfl, rfl⟩))
    (fun os started H enc _ => lD os started H enc)
theorem parseBrackets_card : Rows.ParseBracketsCardSaid :=
  Claim7.holds_tied_plain_at .later [] [.handle] true (true, "daa81fee97470b41755a1a2ba18836a16b76c092bc2f1a7dc1222b0c1475c420") true
    mf (fun _ h => by cases h) (by kernel_rfl) (fun _ h => by cases h) parseBrackets_row_tie rfl ⟨rfl, rfl⟩ (by kernel_rfl) rfl
    (fun f fn hf hfn => by
      obtain rfl : f = 3 := Option.some.inj ((show Tryd.prog.funcNamed "tripwire/tripwirelaw13.ParseBrackets" = some 3 by kernel_rfl).symm.trans hf) |>.symm
      obtain rfl : fn = Tryd.f3 := (Option.some.inj (Tryd.func3.symm.trans hfn)).symm
      refine ⟨by kernel_rfl, fun j t ht => ?_⟩
      rw [gh] at ht
      have hm : t = 9 := by simpa using Array.mem_of_getElem? ht
      rcases hm with rfl
      · exact (show Tryd.prog.wantsStandIn 9 = false by kernel_rfl))
    (by kernel_rfl)
end Go.Proofs.YtdhcodphiofhjaaDoor
#print axioms Go.Proofs.YtdhcodphiofhjaaDoor.parseBrackets_card
