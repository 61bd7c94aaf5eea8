import Derived.Test.YtlcjphbjddbgkaaLn
import Derived.Test.YtlcjphbjddbgkaaVx5
set_option linter.unusedVariables false
set_option linter.unusedSimpArgs false
namespace Go.Lx
open Go.Vc

theorem Tri.pre {P : Program} {f : FuncId} {args : Array Value} {I : Imm} {F : Heap} {Q : Ending → Imm → Heap → Prop} (h : ∀ w, Sat I F w → ∃ J G, Imm.le I J ∧ Sat J G w ∧ Tri P f args J G Q) : Tri P f args I F Q := fun w hw =>
  let ⟨J, G, hl, hs, ht⟩ := h w hw
  (ht w hs).mono fun e w' ⟨I', F', h1, h2, h3⟩ => ⟨I', F', Imm.le_trans hl h1, h2, h3⟩
def _root_.Go.Vc.Row.v (r : Row) : Value := .slice r.a r.n r.c
/-- a call of an own* takes a list of lists with all that is of it, and says true -/
def OwnCall (f : Nat) (r : Row) (H : Heap) : Prop := ∀ (I : Imm) (F : Heap), Tri P f #[r.v] I (H ++ F) fun e I' G => e = .returned (.bool true) ∧ G = F
theorem own_call {f z e S : Nat} (spec : ∀ {rs : List Row} {ls : List (List (Ck z))} {H F : Heap} {la : Option Addr} {ln lc : Nat} {I : Imm}, Sl I 1 Row.enc la ln rs → RowsH z e rs ls H → Bd ls → rs.length ≤ 1000000000 →
      Tri P f #[.slice la ln lc] I (H ++ F) fun e I' G => e = .returned (.bool true) ∧ G = F)
    {r : Row} {rs : List Row} {ls : List (List (Ck z))} {Al H : Heap} (hA : Acc 1 Row.enc S r.a r.n r.c rs Al) (hH : RowsH z e rs ls H) (hb : Bd ls) (hl : rs.length ≤ 1000000000) : OwnCall f r (Al ++ H) := by
  intro I F
  refine Tri.pre fun w hw => ?_
  rw [List.append_assoc] at hw
  obtain ⟨J, hJ, hs, hS⟩ := Acc.keep (z := 1) (f := Row.enc) (fun _ => rfl) hA hw
  exact ⟨J, _, hJ, hs, spec hS hH hb hl⟩
theorem own_nil {f z e : Nat} (spec : ∀ {rs : List Row} {ls : List (List (Ck z))} {H F : Heap} {la : Option Addr} {ln lc : Nat} {I : Imm}, Sl I 1 Row.enc la ln rs → RowsH z e rs ls H → Bd ls → rs.length ≤ 1000000000 →
      Tri P f #[.slice la ln lc] I (H ++ F) fun e I' G => e = .returned (.bool true) ∧ G = F) : OwnCall f ⟨none, 0, 0⟩ [] := fun I F =>
  spec (rs := []) (ls := []) (H := []) ⟨rfl, fun h => absurd rfl h⟩ rfl (fun j l h => by simp at h) (by decide)

theorem ownLongs_nil : OwnCall 43 ⟨none, 0, 0⟩ [] := by
  intro I F
  refine ref00_ownLongs.vc (fun i m I0 F0 I' F' => i = 0 ∧ F' = F) (fun k m I0 F0 I' F' => False) (fun a n c i m I0 F0 I' F' => i = 0 ∧ F' = F) (fun _ _ _ _ _ _ _ _ _ _ _ => False)
    (fun _ x i m I0 F0 I' F' => i = 0 ∧ F' = F) (fun _ _ _ _ _ _ _ _ _ _ => False) (fun _ _ _ _ _ _ _ _ _ _ => False) ?_
  unfold ref00_ownLongs.V
  refine ⟨⟨0, rfl, rfl⟩, fun i m1 I1 F1 _ ⟨hi, hF⟩ => ?_⟩
  subst hi hF
  refine ⟨fun h => absurd h (by decide), fun _ => ⟨⟨0, rfl, rfl⟩, fun a n c i m7 I4 F4 _ ⟨hi, hF⟩ => ?_⟩⟩
  subst hi hF
  refine ⟨fun h => absurd h (by decide), fun _ => ⟨⟨0, rfl, rfl⟩, fun x i m I11 F9 _ ⟨hi, hF⟩ => ?_⟩⟩
  subst hi hF
  exact ⟨fun h => absurd h (by decide), fun _ => ⟨rfl, rfl⟩⟩

/-- the book's block -/
def treeCells (rw : Nat → Row) : Array Value := #[(rw 0).v, (rw 1).v, (rw 2).v, (rw 3).v, (rw 4).v, (rw 5).v, (rw 6).v, (rw 7).v, (rw 8).v, (rw 9).v, (rw 10).v, (rw 11).v]
theorem tree_rd {I : Imm} {G : Heap} {b : Nat} {cells : Array Value} (h : (b, Obj.cells cells 37 (0, 0)) ∈ G) {k : Nat} {v : Value} (hv : cells[k]? = some v) : Rd I G ((⟨b, 0, none⟩ : Addr).add k) [v] := by
  rw [add_lit0]
  refine ⟨rfl, _, _, _, .inr h, fun j hj => ?_⟩
  have : j = 0 := by simpa using hj
  subst this
  simpa using hv
theorem own_step {f : Nat} {r : Row} {H R : Heap} {I : Imm} {b : Nat × Obj} {Q : Ending → Imm → Heap → Prop} (h : OwnCall f r H) (k : ∀ I', Imm.le I I' → Q (.returned (.bool true)) I' (b :: R)) : Tri P f #[r.v] I (b :: (H ++ R)) Q :=
  Tri.perm ((h I (b :: R)).mono fun e I' G hl ⟨he, hG⟩ => by subst he; subst hG; exact k I' hl) List.perm_middle.symm
theorem TreesOwn_spec {rw : Nat → Row} {Hs : Nat → Heap} {b : Nat} {I : Imm} {F : Heap} (h0 : OwnCall 32 (rw 0) (Hs 0)) (h1 : OwnCall 33 (rw 1) (Hs 1)) (h2 : OwnCall 34 (rw 2) (Hs 2)) (h3 : OwnCall 35 (rw 3) (Hs 3))
    (h6 : OwnCall 36 (rw 6) (Hs 6)) (h5 : OwnCall 37 (rw 5) (Hs 5)) (h4 : OwnCall 38 (rw 4) (Hs 4)) (h7 : OwnCall 39 (rw 7) (Hs 7)) (h9 : OwnCall 40 (rw 9) (Hs 9)) (h8 : OwnCall 41 (rw 8) (Hs 8)) (h10 : OwnCall 42 (rw 10) (Hs 10)) (h11 : OwnCall 43 (rw 11) (Hs 11)) :
    Tri P 15 #[.pointer (some ⟨b, 0, none⟩)] I ((b, Obj.cells (treeCells rw) 37 (0, 0)) :: (Hs 0 ++ (Hs 1 ++ (Hs 2 ++ (Hs 3 ++ (Hs 6 ++ (Hs 5 ++ (Hs 4 ++ (Hs 7 ++ (Hs 9 ++ (Hs 8 ++ (Hs 10 ++ (Hs 11 ++ F)))))))))))))
      fun e I' G => e = .returned (.bool true) ∧ G = F := by
  refine Tri.keep (Q := fun e I' G => e = .returned (.bool true) ∧ G = (b, Obj.cells (treeCells rw) 37 (0, 0)) :: F) ?_ fun e I' G w hl hs ⟨he, hG⟩ => ⟨I', F, Imm.le_refl _, by subst hG; exact hs.sub (List.sublist_cons_self _ _), he, rfl⟩
  refine ref00_Trees_Own.vc ?_
  unfold ref00_Trees_Own.V
  refine ⟨_, rfl, _, _, _, tree_rd (List.mem_cons_self ..) rfl, own_step h0 fun I1 g1 => ⟨_, rfl, _, .refl _, ?_⟩⟩
  refine ⟨_, rfl, _, _, _, tree_rd (List.mem_cons_self ..) rfl, own_step h1 fun I1 g1 => ⟨_, rfl, _, .refl _, ?_⟩⟩
  refine ⟨_, rfl, _, _, _, tree_rd (List.mem_cons_self ..) rfl, own_step h2 fun I1 g1 => ⟨_, rfl, _, .refl _, ?_⟩⟩
  refine ⟨_, rfl, _, _, _, tree_rd (List.mem_cons_self ..) rfl, own_step h3 fun I1 g1 => ⟨_, rfl, _, .refl _, ?_⟩⟩
  refine ⟨_, rfl, _, _, _, tree_rd (List.mem_cons_self ..) rfl, own_step h6 fun I1 g1 => ⟨_, rfl, _, .refl _, ?_⟩⟩
  refine ⟨_, rfl, _, _, _, tree_rd (List.mem_cons_self ..) rfl, own_step h5 fun I1 g1 => ⟨_, rfl, _, .refl _, ?_⟩⟩
  refine ⟨_, rfl, _, _, _, tree_rd (List.mem_cons_self ..) rfl, own_step h4 fun I1 g1 => ⟨_, rfl, _, .refl _, ?_⟩⟩
  refine ⟨_, rfl, _, _, _, tree_rd (List.mem_cons_self ..) rfl, own_step h7 fun I1 g1 => ⟨_, rfl, _, .refl _, ?_⟩⟩
  refine ⟨_, rfl, _, _, _, tree_rd (List.mem_cons_self ..) rfl, own_step h9 fun I1 g1 => ⟨_, rfl, _, .refl _, ?_⟩⟩
  refine ⟨_, rfl, _, _, _, tree_rd (List.mem_cons_self ..) rfl, own_step h8 fun I1 g1 => ⟨_, rfl, _, .refl _, ?_⟩⟩
  refine ⟨_, rfl, _, _, _, tree_rd (List.mem_cons_self ..) rfl, own_step h10 fun I1 g1 => ⟨_, rfl, _, .refl _, ?_⟩⟩
  refine ⟨_, rfl, _, _, _, tree_rd (List.mem_cons_self ..) rfl, own_step h11 fun I1 g1 => ⟨_, rfl, _, .refl _, ?_⟩⟩
  repeat (refine ⟨fun _ => ?_, fun h => by (cases h)⟩)
  exact ⟨rfl, rfl⟩
end Go.Lx
