/-
  The law ParseWrongs returns true for every input, never panics, and leaves its arguments and all memory that was there as it was. No conditions.
-/
import Derived.Test.YtdhcodphiofhjaaDoorParseWrongsB4
import Derived.Test.YtdhcodphiofhjaaDoorRows
import Derived.SizedLaws
import Derived.ChangeVars
import Derived.LaidLaws
import Derived.LaidHandle
import Derived.Handed
import Derived.JoinedOf
import Derived.RowKit
import Derived.RowKitTokens
import Derived.Stop.Joined
import Derived.SevenTiedAt
import Derived.Test.YtdhcodphiofhjaaDoorCards
import Derived.Test.YtdhcodphiofhjaaDoorTie
set_option linter.unusedVariables false
set_option linter.unusedSimpArgs false
namespace Go.Proofs.YtdhcodphiofhjaaDoor
open Go.ChangeMaps Go.ChangeShapes Go.WideShapes Go.ChangeAt Go.RowKit Go.Vc

theorem ng : ownKnob Tryd.prog.godebug = none := by kernel_rfl
theorem fN : Tryd.f4.params = #[3, 3, 3, 9] := by kernel_rfl
theorem gJ : Tryd.f4.resultTypes = #[4] := by kernel_rfl
theorem iY : Tryd.prog.underlying 4 = some .bool := by kernel_rfl
theorem ij : Tryd.prog.underlying 3 = some (.int .i64) := by kernel_rfl
theorem o1 : Tryd.prog.underlying 9 = some .string := by kernel_rfl
theorem lR : ∀ t ∈ ([3, 3, 3, 9] : List TypeId), t < Tryd.prog.types.size := by decide +kernel
theorem o2 : Tryd.prog.globalNamed "errors.errorType" = some 0 := by kernel_rfl
theorem o3 : (Tryd.prog.cutTypes.find? (·.1 == "internal/reflectlite.rtype")).map (·.2) = some 110 := by kernel_rfl
theorem kX : ((List.range 181).filter fun t => Tryd.prog.rowNamed t [101, 114, 114, 111, 114]) = [31] := by kernel_rfl
theorem mC : Tryd.prog.types.size = 181 := by kernel_rfl
theorem kY {W : World} (h : laidMetH Tryd.prog Rows.parseWrongsRow.laid W) : W.cell? ⟨0, 0, none⟩ = some (.iface 110 (.agg #[.pointer (some ⟨1, 31, none⟩)])) := by
  have h' : laidMet Tryd.prog [] W ∧ handlesMet Tryd.prog Rows.parseWrongsRow.laid W := h
  obtain ⟨name, u, ty, e1, e2, e3, e4, e5⟩ := h'.2 _ (List.mem_singleton.2 rfl)
  have en : name = [101, 114, 114, 111, 114] := (Option.some.inj e1).symm
  subst en
  obtain rfl := Option.some.inj (o3.symm.trans e2)
  have hm : ty ∈ (List.range 181).filter fun t => Tryd.prog.rowNamed t [101, 114, 114, 111, 114] := List.mem_filter.2 ⟨List.mem_range.2 (by rw [← mC]; exact e3), e4⟩
  rw [kX] at hm
  obtain rfl := List.mem_singleton.1 hm
  have hh : typeHandle Tryd.prog 31 = .pointer (some ⟨1, 31, none⟩) := by kernel_rfl
  rw [hh] at e5
  simpa using World.var?_cell o2 e5 0
noncomputable def iC (os : Os) (args : Array Value) : World :=
  let w0 := World.holding Tryd.prog os ⟨#[], args, []⟩
  { w0 with heap := w0.heap.modify 0 fun
      | .cells _ t frozen => .cells #[.iface 110 (.agg #[.pointer (some ⟨1, 31, none⟩)])] t frozen
      | o => o }
theorem nh (os : Os) (args args' : Array Value) : laidMetH Tryd.prog Rows.parseWrongsRow.laid ((iC os args).forCall (fun _ _ => 0) ⟨#[], args', []⟩).memory :=
  laidMetH_of_parts (laidMet_nil _ _) (by kernel_rfl)
set_option maxRecDepth 100000 in
theorem kZ (os : Os) (started : os.Started) (H : Type) (enc : TypeId × Value → H) :
    ReturnsInHanded {} Tryd.checked os 4 .any (fun w args => (Rows.parseWrongsSpec.pre enc Tryd.prog Tryd.f4 Rows.parseWrongsRow.domain false w args ∧ laidMetH Tryd.prog Rows.parseWrongsRow.laid w) ∧ sizedMet enc Tryd.prog Tryd.f4 (OpenSpec.ofChange Rows.parseWrongsSpec) false w args) (Rows.parseWrongsSpec.post enc Tryd.prog Tryd.f4 false true false false) := by
  refine returnsInHanded_of_change_and (C := Tryd.checked) (X := fun w _ => laidMetH Tryd.prog Rows.parseWrongsRow.laid w) (fun _ _ _ hh h => laidMetH.of_heap hh h) ng started (by kernel_rfl) Tryd.func4
    (ChangeSpec.witness_at (enc := enc) (C := Tryd.checked) (os := os) (X := fun w _ => laidMetH Tryd.prog Rows.parseWrongsRow.laid w) false (iC os #[.int .i64 0, .int .i64 0, .int .i64 0, .string (⟨#[]⟩ : ByteArray)]) #[.int .i64 0, .int .i64 0, .int .i64 0, .string (⟨#[]⟩ : ByteArray)] 8 rfl (by kernel_rfl) (by kernel_rfl) (by kernel_rfl) (by kernel_rfl) (by kernel_rfl) (nh os _ _)) ?_
  intro W base args ds gs before hval0 hW hcnd hsz hL _
  have hg : Lx.Gl (cS.all W) := Lx.Gl.wQ (kY hL)
  have hval : ∀ (j : Nat) t v, Tryd.f4.params[j]? = some t → args[j]? = some v → Value.okWide Tryd.prog W .any base t v := hval0
  have hW' := hW
  obtain ⟨p, q, hA0, hV, rfl, hfz, hnd⟩ := hW
  have hA : DataW.TrodAll enc Tryd.prog W 0 (fun _ => true) true Tryd.f4.params.toList args.toList ds p := hA0
  rw [fN] at hA hval
  obtain ⟨v0, v1, v2, v3, d0, d1, d2, d3, p0, p1, p2, p3, rfl, rfl, rfl, h0, h1, h2, h3⟩ := trodAll_four hA
  obtain ⟨rfl, rfl⟩ := trodVars_none hV
  have hsz2 : ∀ m ∈ DataW.weightsEach Lx.P [3, 3, 3, 9] [d0, d1, d2, d3], m ≤ reachBytes := fun m hm => by
    have := List.all_eq_true.1 hsz m hm
    exact of_decide_eq_true this
  have hw0 : ∀ m ∈ d0.weights Lx.P 3, m ≤ reachBytes := fun m hm => hsz2 m (by simp only [DataW.weightsEach, List.mem_append]; exact .inl hm)
  obtain ⟨a0, rfl, _, _, w0⟩ := open_int ij (hval 0 3 v0 rfl rfl) h0
  have hw1 : ∀ m ∈ d1.weights Lx.P 3, m ≤ reachBytes := fun m hm => hsz2 m (by simp only [DataW.weightsEach, List.mem_append]; exact .inr (.inl hm))
  obtain ⟨a1, rfl, _, _, w1⟩ := open_int ij (hval 1 3 v1 rfl rfl) h1
  have hw2 : ∀ m ∈ d2.weights Lx.P 3, m ≤ reachBytes := fun m hm => hsz2 m (by simp only [DataW.weightsEach, List.mem_append]; exact .inr (.inr (.inl hm)))
  obtain ⟨a2, rfl, _, _, w2⟩ := open_int ij (hval 2 3 v2 rfl rfl) h2
  have hw3 : ∀ m ∈ d3.weights Lx.P 9, m ≤ reachBytes := fun m hm => hsz2 m (by simp only [DataW.weightsEach, List.mem_append]; exact .inr (.inr (.inr (.inl hm))))
  obtain ⟨a3, rfl, _, _, w3⟩ := open_string o1 (hval 3 9 v3 rfl rfl) h3
  have hA0k := hA0
  clear hA0 hval0
  refine (Lx.mB a0 a1 a2 a3 (cS.all W) hg [] W (Sat.all W)).mono fun e W' ⟨I', F', hl, hs, he⟩ => ?_
  subst he
  exact ⟨_, rfl, s6 (pv := []) hW' (fun _ _ _ => by rw [gJ]; exact trodAll_mk1 (shut_bool iY _))
    (fun sp hsp => kx (kids_rows (by kernel_rfl) (by kernel_rfl)) (fun {t e} h1 h2 => slices_full_of Tryd.prog (by kernel_rfl) t e h1 h2) (iz.of hl hs) (by rw [fN]; exact lR) hA0k (fun p hp => hsp p (by simpa using hp))) (fun _ _ => rfl) (by simp) (iz.of hl hs)
    (ok_one gJ rfl (okWide_bool_mk iY _))⟩
theorem lT : Rows.ParseWrongsSaid :=
  OpenClaim.holds_of_wide 4 Tryd.f4 rfl rfl rfl rfl rfl rfl rfl ⟨rfl, rfl, rfl, rfl, rfl⟩ rfl rfl rfl rfl rfl (by kernel_rfl) Tryd.func4 (by kernel_rfl)
    (of_decide_eq_true (by kernel_rfl)) (by unfold Func.isWrapper; first | (rw [if_pos (by decide +kernel)]; kernel_rfl) | (rw [if_neg (by decide +kernel)]; exact ⟨rfl, rfl⟩))
    (fun os started H enc _ => kZ os started H enc)
theorem parseWrongs_card : Rows.ParseWrongsCardSaid :=
  Claim7.holds_tied_plain_at .later [] [.handle] true (true, "daa81fee97470b41755a1a2ba18836a16b76c092bc2f1a7dc1222b0c1475c420") true
    lT (fun _ h => by cases h) (by kernel_rfl) (fun _ h => by cases h) parseWrongs_row_tie rfl ⟨rfl, rfl⟩ (by kernel_rfl) rfl
    (fun f fn hf hfn => by
      obtain rfl : f = 4 := Option.some.inj ((show Tryd.prog.funcNamed "tripwire/tripwirelaw13.ParseWrongs" = some 4 by kernel_rfl).symm.trans hf) |>.symm
      obtain rfl : fn = Tryd.f4 := (Option.some.inj (Tryd.func4.symm.trans hfn)).symm
      refine ⟨by kernel_rfl, fun j t ht => ?_⟩
      rw [fN] at ht
      have hm : t = 3 ∨ t = 3 ∨ t = 3 ∨ t = 9 := by simpa using Array.mem_of_getElem? ht
      rcases hm with rfl | rfl | rfl | rfl
      · exact (show Tryd.prog.wantsStandIn 3 = false by kernel_rfl)
      · exact (show Tryd.prog.wantsStandIn 3 = false by kernel_rfl)
      · exact (show Tryd.prog.wantsStandIn 3 = false by kernel_rfl)
      · exact (show Tryd.prog.wantsStandIn 9 = false by kernel_rfl))
    (by kernel_rfl)
end Go.Proofs.YtdhcodphiofhjaaDoor
#print axioms Go.Proofs.YtdhcodphiofhjaaDoor.parseWrongs_card
