import Derived.Test.YtlcjphbjddbgkaaLo
import Derived.Test.YtlcjphbjddbgkaaVx6
set_option linter.unusedVariables false
set_option linter.unusedSimpArgs false
namespace Go.Lx
open Go.Vc

theorem SameTokens_spec {a b : Option Addr} {n m c d : Nat} {l : List Tok} {I : Imm} {F : Heap} (ha : SlG I F 5 Tok.enc a n l) (hb : SlG I F 5 Tok.enc b m l) (hl : l.length ≤ 1000000000) :
    Tri P 13 #[.slice a n c, .slice b m d] I F (Ret (.bool true) F) := by
  have e1 := ha.1
  have e2 := hb.1
  refine ref00_SameTokens.vc (fun x i k I' F' => 0 ≤ i ∧ i ≤ n ∧ k = (n - i).toNat ∧ F' = F) ?_
  unfold ref00_SameTokens.V
  refine ⟨fun h => ?_, fun _ => ⟨⟨_, by omega, by omega, rfl, rfl⟩, fun x i k I1 F1 hI ⟨g0, g1, gk, gF⟩ => ?_⟩⟩
  · have : n = m := by omega
    subst this; simp at h
  subst gF
  refine ⟨fun hlt => ?_, fun _ => ⟨rfl, rfl⟩⟩
  have hlt := of_decide_eq_true hlt
  obtain ⟨ad, t, had, ht, hr⟩ := (ha.mono hI fun _ h => h).at (i := i) g0 hlt
  obtain ⟨ad', t', had', ht', hr'⟩ := (hb.mono hI fun _ h => h).at (i := i) g0 (by omega)
  obtain rfl : t = t' := by rw [ht] at ht'; exact Option.some.inj ht'
  refine ⟨⟨g0, hlt⟩, ad, had, _, _, _, _, _, hr, ⟨g0, by omega⟩, ad', had', _, _, _, _, _, hr', _, tok_neq t t, fun h => ?_, fun _ => ?_⟩
  · rw [tokEq_self] at h; cases h
  · rw [w64 (by omega)]
    exact ⟨_, by omega, by omega, by omega, rfl, rfl⟩

/-- a list is put into the book -/
theorem TreesTokens_spec {rw : Nat → Row} {b : Nat} {r : Row} {rs : List Row} {Al R : Heap} (hA : Acc 1 Row.enc 39 (rw 0).a (rw 0).n (rw 0).c rs Al) (hl : rs.length ≤ 1000000000) (I : Imm) :
    Tri P 14 #[.pointer (some ⟨b, 0, none⟩), r.v] I ((b, Obj.cells (treeCells rw) 37 (0, 0)) :: (Al ++ R)) fun e I' G => e = .returned (.tuple #[]) ∧
      ∃ r' Al', Acc 1 Row.enc 39 r'.a r'.n r'.c (rs ++ [r]) Al' ∧ G.Perm ((b, Obj.cells (treeCells fun k => if k = 0 then r' else rw k) 37 (0, 0)) :: (Al' ++ R)) := by
  refine ref00_Trees_Tokens.vc ?_
  unfold ref00_Trees_Tokens.V
  refine ⟨_, rfl, _, _, _, tree_rd (List.mem_cons_self ..) rfl, ?_⟩
  intro b1 I1 hI1 hb1
  refine TriE.perm (TriE.mono (append_spec' (f := Row.enc) (z := 1) (zv := .slice none 0 0) (fun _ => rfl) (by' := 24) (by kernel_rfl) (by kernel_rfl) rfl (by decide) hA (xs := [r]) (fun x _ => rows_one x) (by simp) rfl ?_ ?_ (F := (b, Obj.cells (treeCells rw) 37 (0, 0)) :: R))
    fun v I' G hI ⟨a', n', c', A', hv, hA', hG, _⟩ => ?_) List.perm_middle.symm
  · exact ⟨rfl, _, _, _, .inl hb1, fun j hj => by simp [Row.enc]⟩
  · simp only [List.length_cons, List.length_nil]; omega
  subst hG
  refine ⟨_, _, _, hv, _, .refl _, _, rfl, (treeCells rw).toList, 37, A' ++ R, ?_, ?_, ?_, rfl, ⟨a', n', c'⟩, A', hA', ?_⟩
  · exact List.perm_middle
  · rw [add_lit0]
  · rw [add_lit0]; exact (by decide : 0 + 1 ≤ 12)
  · rw [add_lit0]
    exact .refl _
end Go.Lx
