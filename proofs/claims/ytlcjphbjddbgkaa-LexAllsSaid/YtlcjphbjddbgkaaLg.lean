import Derived.Test.YtlcjphbjddbgkaaLf
import Derived.Test.YtlcjphbjddbgkaaVx1
set_option linter.unusedVariables false
set_option linter.unusedSimpArgs false
namespace Go.Lx
open Go.Vc

/-! ### the reference reads alike -/
theorem rletter_spec (c : Int) (I : Imm) (F : Heap) : Tri P 58 #[.int .u8 c] I F (Ret (.bool (smallB c)) F) := by
  refine ref11_letter.vc ⟨fun h => ⟨?_, rfl⟩, fun h => ⟨?_, rfl⟩⟩ <;> simp_all [smallB] <;> omega
theorem rdigit_spec (c : Int) (I : Imm) (F : Heap) : Tri P 70 #[.int .u8 c] I F (Ret (.bool (digitB c)) F) := by
  refine ref11_digit.vc ⟨fun h => ⟨?_, rfl⟩, fun h => ⟨?_, rfl⟩⟩ <;> simp_all [digitB] <;> omega
theorem rgoes_spec (c : Int) (I : Imm) (F : Heap) : Tri P 59 #[.int .u8 c] I F (Ret (.bool (innerB c)) F) := by
  refine ref11_goes.vc ?_
  unfold ref11_goes.V
  refine Tri.ret (rletter_spec c I F) fun I1 h1 => ⟨_, rfl, F, .refl _, fun hs => ⟨?_, rfl⟩, fun hs => ?_⟩
  · simp [innerB, hs]
  · refine Tri.ret (rdigit_spec c I1 F) fun I2 h2 => ⟨_, rfl, F, .refl _, fun hd => ⟨?_, rfl⟩, fun hd => ⟨?_, rfl⟩⟩
    · simp [innerB, hd]
    · simp [innerB, hs, hd]

theorem rover_spec {s : ByteArray} (hs : Short s) {i : Int} (h0 : 0 ≤ i) (h1 : i ≤ s.size) (I : Imm) (F : Heap) :
    Tri P 68 #[.string s, .int .i64 i] I F (Ret (.int .i64 (overAt s i)) F) := by
  have hs' := hs
  unfold Short at hs'
  refine ref11_over.vc (fun x r j m I' F' => 0 ≤ j ∧ j ≤ s.size ∧ m = (s.size - j).toNat ∧ overR s r j = overAt s i ∧ F' = F) ?_
  unfold ref11_over.V
  refine ⟨⟨_, h0, h1, rfl, rfl, rfl⟩, fun x r j m I1 F1 hI ⟨g0, g1, gm, gr, gF⟩ => ⟨fun hlt => ?_, fun hlt => ?_⟩⟩
  · have hlt : j < (s.size : Int) := by simpa using hlt
    subst gF
    have step := overR_step (r := r) hlt
    have stop : ∀ J : Imm, remB (bt s j) r = false → blank (bt s j) = false → Ret (.int .i64 (overAt s i)) F1 (.returned (.int .i64 j)) J F1 := fun J a b => by
      rw [a, b, gr] at step
      exact ⟨by rw [step]; rfl, rfl⟩
    have cont : ∀ r', remB (bt s j) r = r' → (r' = true ∨ blank (bt s j) = true) → ∃ m2 : Nat, m2 < m ∧ (0 ≤ IntKind.wrap .i64 (j + 1) ∧ IntKind.wrap .i64 (j + 1) ≤ s.size ∧ m2 = (s.size - IntKind.wrap .i64 (j + 1)).toNat ∧
        overR s r' (IntKind.wrap .i64 (j + 1)) = overAt s i ∧ F1 = F1) := fun r' a b => by
      rw [w64 (by omega)]
      refine ⟨_, by omega, by omega, by omega, rfl, ?_, rfl⟩
      rw [a, gr] at step
      rw [step, if_neg]
      rcases b with b | b <;> simp [b]
    refine ⟨⟨g0, hlt⟩, ?_⟩
    clear step gr
    repeat' (first | (with_reducible apply And.intro) | (with_reducible intro h))
    all_goals first
      | (refine stop I1 ?_ ?_ <;> simp_all [remB, blank]; done)
      | (refine cont _ ?_ ?_ <;> simp_all [remB, blank]; done)
      | (exfalso; simp_all; done)
  · have hlt : ¬ j < (s.size : Int) := by simpa using hlt
    refine ⟨?_, gF⟩
    rw [overR_end (by omega)] at gr
    rw [← gr]
    have : j = s.size := by omega
    rw [this]

theorem rWords_spec (I : Imm) (F : Heap) : Tri P 20 #[] I F fun e I' G => ∃ b : Nat, e = .returned (.slice (some ⟨b, 0, none⟩) 41 41) ∧ Sl I' 1 encS (some ⟨b, 0, none⟩) 41 wordsL ∧ G = F := by
  refine ref11_Words.vc fun b I1 hI hb => ⟨b, rfl, ?_, rfl⟩
  exact Sl.of_cells (f := encS) (z := 1) (l := wordsL) (fun _ => rfl) hb (by kernel_rfl)

theorem drop_any {α : Type} {l : List α} {p : α → Bool} {k : Nat} {x : α} (h : l[k]? = some x) : (l.drop k).any p = (p x || (l.drop (k + 1)).any p) := by
  obtain ⟨hk, rfl⟩ := List.getElem?_eq_some_iff.1 h
  rw [List.drop_eq_getElem_cons hk, List.any_cons]
theorem drop_find {α : Type} {l : List α} {p : α → Bool} {k : Nat} {x : α} (h : l[k]? = some x) : (l.drop k).find? p = if p x then some x else (l.drop (k + 1)).find? p := by
  obtain ⟨hk, rfl⟩ := List.getElem?_eq_some_iff.1 h
  rw [List.drop_eq_getElem_cons hk, List.find?_cons]
  split <;> simp_all

theorem rWord_spec (t : ByteArray) (I : Imm) (F : Heap) : Tri P 25 #[.string t] I F (Ret (.bool (wordB t)) F) := by
  refine ref11_Word.vc (fun x i m I' F' => 0 ≤ i ∧ i ≤ 41 ∧ m = (41 - i).toNat ∧ wordB t = (wordsL.drop i.toNat).any (fun w => w.toList == t.toList) ∧ F' = F) ?_
  unfold ref11_Word.V
  refine (rWords_spec I F).mono fun e I1 G hI ⟨b, he, hS, hG⟩ => ?_
  subst hG
  refine ⟨_, _, _, he, _, .refl _, ⟨_, by omega, by omega, rfl, rfl, rfl⟩, fun x i m I2 F2 hI2 ⟨g0, g1, gm, gw, gF⟩ => ⟨fun hlt => ?_, fun hlt => ?_⟩⟩
  · have hlt : i < 41 := of_decide_eq_true hlt
    obtain ⟨ad, w, ha, hw, hrd⟩ := (hS.mono hI2).at (i := i) g0 hlt
    subst gF
    rw [drop_any hw] at gw
    refine ⟨⟨g0, hlt⟩, ad, ha, w, hrd _, fun h => ⟨?_, rfl⟩, fun h => ⟨(41 - (i + 1)).toNat, by omega, ?_⟩⟩
    · rw [gw, h]; rfl
    · rw [w64 (by omega)]
      refine ⟨by omega, by omega, rfl, ?_, rfl⟩
      rw [gw, h, show (i + 1).toNat = i.toNat + 1 by omega]; rfl
  · have hlt : ¬ i < 41 := of_decide_eq_false hlt
    refine ⟨?_, gF⟩
    rw [gw, List.drop_eq_nil_of_le (by show 41 ≤ _; omega)]; rfl

theorem rnamed_spec {s : ByteArray} (hs : Short s) {i : Int} (h0 : 0 ≤ i) (h1 : i < s.size) (I : Imm) (F : Heap) : Tri P 69 #[.string s, .int .i64 i] I F (Ret (nameR s i).v2 F) := by
  have hs' := hs
  unfold Short at hs'
  have hE := runAt_le (p := innerB) (s := s) (i := i) (by omega)
  refine ref11_named.vc (fun j m I' F' => i ≤ j ∧ j ≤ s.size ∧ m = (s.size - j).toNat ∧ runAt innerB s j = runAt innerB s i ∧ F' = F) ?_
  unfold ref11_named.V
  intro b
  refine ⟨⟨_, by omega, by omega, rfl, rfl, rfl⟩, fun j m I1 F1 hI ⟨g0, g1, gm, gr, gF⟩ => ⟨fun hlt => ?_, fun hlt => ?_⟩⟩
  · have hlt : j < (s.size : Int) := of_decide_eq_true hlt
    subst gF
    refine ⟨⟨by omega, hlt⟩, ?_⟩
    refine Tri.ret (rgoes_spec (bt s j) I1 _) fun I2 hI2 => ⟨_, rfl, F1, .refl _, fun hc => ?_, fun hc => ⟨⟨h0, g0, g1⟩, fun b_t => ?_⟩⟩
    · refine ⟨m - 1, by omega, ?_⟩
      rw [w64 (by omega)]
      rw [runAt_step hlt, if_pos hc] at gr
      exact ⟨by omega, by omega, by omega, gr, rfl⟩
    · rw [runAt_step hlt, if_neg (by rw [hc]; exact Bool.false_ne_true)] at gr
      unfold nameR
      simp only [← gr]
      rw [w64 (by omega)]
      refine ⟨fun h => ⟨?_, rfl⟩, fun h => ?_⟩
      · rw [if_pos (of_decide_eq_true h)]; rfl
      · rw [if_neg (of_decide_eq_false h)]
        refine Tri.ret (rWord_spec (cut s i j) I2 _) fun I3 hI3 => ⟨_, rfl, F1, .refl _, fun hw => ⟨?_, rfl⟩, fun hw => ⟨?_, rfl⟩⟩
        · rw [if_pos hw]; rfl
        · rw [if_neg (by rw [hw]; exact Bool.false_ne_true)]; rfl
  · have hlt : ¬ j < (s.size : Int) := of_decide_eq_false hlt
    subst gF
    refine ⟨⟨h0, g0, g1⟩, fun b_t => ?_⟩
    rw [runAt_end (by omega)] at gr
    unfold nameR
    simp only [← gr]
    rw [w64 (by omega)]
    refine ⟨fun h => ⟨?_, rfl⟩, fun h => ?_⟩
    · rw [if_pos (of_decide_eq_true h)]; rfl
    · rw [if_neg (of_decide_eq_false h)]
      refine Tri.ret (rWord_spec (cut s i j) I1 _) fun I3 hI3 => ⟨_, rfl, F1, .refl _, fun hw => ⟨?_, rfl⟩, fun hw => ⟨?_, rfl⟩⟩
      · rw [if_pos hw]; rfl
      · rw [if_neg (by rw [hw]; exact Bool.false_ne_true)]; rfl
end Go.Lx
