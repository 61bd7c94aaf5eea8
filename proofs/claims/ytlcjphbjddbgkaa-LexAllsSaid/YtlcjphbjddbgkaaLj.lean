import Derived.Test.YtlcjphbjddbgkaaLi
set_option linter.unusedVariables false
set_option linter.unusedSimpArgs false
namespace Go.Lx
open Go.Vc

theorem markN_range' (s : ByteArray) (i : Int) : 0 ≤ markN s i ∧ markN s i ≤ 2 := markN_range s i
theorem marks_small {k : Nat} {m : ByteArray} (h : marksL[k]? = some m) : m.size ≤ 2 := by
  have := List.mem_of_getElem? h
  simp only [marksL, List.mem_cons, List.not_mem_nil, or_false] at this
  rcases this with h | h | h | h | h | h | h | h | h | h | h | h | h | h | h | h | h | h | h | h | h | h | h <;> (subst h; decide)
theorem rmark_spec {s : ByteArray} (hs : Short s) {i : Int} (h0 : 0 ≤ i) (h1 : i < s.size) (I : Imm) (F : Heap) : Tri P 72 #[.string s, .int .i64 i] I F (Ret (markR s i).v2 F) := by
  unfold Short at hs
  have hm := mark_find h0 h1
  refine ref11_mark.vc (fun x k b0 b1 b2 b3 b4 m I' F' => 0 ≤ k ∧ k ≤ 23 ∧ m = (23 - k).toNat ∧ marksL.find? (hitB s i) = (marksL.drop k.toNat).find? (hitB s i) ∧ F' = F) ?_
  unfold ref11_mark.V
  intro b b1 I1 hI1 hb1
  have hS : Sl I1 1 encS (some ⟨b1, 0, none⟩) 23 marksL := Sl.of_cells (f := encS) (z := 1) (l := marksL) (fun _ => rfl) hb1 (by kernel_rfl)
  refine ⟨⟨_, by omega, by omega, rfl, rfl, rfl⟩, fun x k c0 c1 c2 c3 c4 m I2 F2 hI2 ⟨g0, g1, gm, gf, gF⟩ => ⟨fun hlt => ?_, fun hlt => ?_⟩⟩
  · have hlt : k < 23 := of_decide_eq_true hlt
    obtain ⟨ad, w, ha, hw, hrd⟩ := (hS.mono hI2).at (i := k) g0 hlt
    have hwz := marks_small hw
    subst gF
    rw [drop_find hw] at gf
    have cont : hitB s i w = false → ∃ m6, m6 < m ∧ (0 ≤ IntKind.wrap .i64 (k + 1) ∧ IntKind.wrap .i64 (k + 1) ≤ 23 ∧ m6 = (23 - IntKind.wrap .i64 (k + 1)).toNat ∧
        marksL.find? (hitB s i) = (marksL.drop (IntKind.wrap .i64 (k + 1)).toNat).find? (hitB s i) ∧ F2 = F2) := fun h => by
      rw [w64 (by omega)]
      refine ⟨(23 - (k + 1)).toNat, by omega, by omega, by omega, rfl, ?_, rfl⟩
      rw [gf, h, show (k + 1).toNat = k.toNat + 1 by omega]; rfl
    refine ⟨⟨g0, hlt⟩, ad, ha, w, hrd _, ?_⟩
    rw [w64 (n := i + w.size) (by omega)]
    refine ⟨fun hle => ⟨⟨h0, by omega, of_decide_eq_true hle⟩, ⟨g0, hlt⟩, ad, ha, w, hrd _, fun he => ⟨⟨g0, hlt⟩, ad, ha, w, hrd _, ?_, rfl⟩, fun he => cont ?_⟩, fun hle => cont ?_⟩
    · have hhit : hitB s i w = true := by
        unfold hitB; rw [hle, Bool.true_and]; exact he
      rw [hhit, if_pos rfl] at gf
      rcases hm with ⟨h, _⟩ | ⟨w', h, hsz, hp, hcut⟩
      · rw [h] at gf; cases gf
      · rw [h] at gf; cases gf
        unfold markR
        rw [if_neg (by omega), hcut]; rfl
    · unfold hitB; rw [hle, Bool.true_and]; exact he
    · unfold hitB; rw [hle]; rfl
  · have hlt : ¬ k < 23 := of_decide_eq_false hlt
    refine ⟨?_, gF⟩
    rw [List.drop_eq_nil_of_le (by show 23 ≤ _; omega)] at gf
    rcases hm with ⟨h, hz⟩ | ⟨w', h, _⟩
    · unfold markR
      rw [if_pos hz]; rfl
    · rw [h] at gf; cases gf

def TR.v3 : TR → Value
  | .ok t => .tuple #[t.v, .int .i64 0, .int .i64 0]
  | .bad e p => .tuple #[(zTok 0).v, .int .i64 e, .int .i64 p]
/-- what one reader hands on -/
theorem numR_err (s : ByteArray) (i : Int) : (∃ t, numR s i = .ok t) ∨ ∃ e, numR s i = .bad e i ∧ (e != 0) = true := by
  rcases numR_shape s i with ⟨t, h, _⟩ | h
  · exact .inl ⟨t, h⟩
  · exact .inr ⟨_, h, rfl⟩
theorem nameR_err (s : ByteArray) (i : Int) : (∃ t, nameR s i = .ok t) ∨ ∃ e, nameR s i = .bad e i ∧ (e != 0) = true := by
  unfold nameR; simp only; split
  · exact .inr ⟨_, rfl, rfl⟩
  · exact .inl ⟨_, rfl⟩
theorem markR_err (s : ByteArray) (i : Int) : (∃ t, markR s i = .ok t) ∨ ∃ e, markR s i = .bad e i ∧ (e != 0) = true := by
  unfold markR; split
  · exact .inr ⟨_, rfl, rfl⟩
  · exact .inl ⟨_, rfl⟩
theorem not_both {c : Int} (h : smallB c = true) : digitB c = false := by
  simp only [smallB, digitB, Bool.and_eq_true, decide_eq_true_eq, Bool.and_eq_false_iff, decide_eq_false_iff_not] at h ⊢
  omega
theorem One_spec {s : ByteArray} (hs : Short s) {f : Int} (h0 : 0 ≤ f) (h1 : f ≤ s.size) (I : Imm) (F : Heap) : Tri P 44 #[.string s, .int .i64 f] I F (Ret (tokR s f).v3 F) := by
  have hs' := hs
  unfold Short at hs'
  refine ref11_One.vc ?_
  unfold ref11_One.V
  intro b
  have ho := overAt_le (s := s) h1
  refine Tri.ret (rover_spec hs h0 h1 I _) fun I1 hI1 => ⟨_, rfl, F, .refl _, ?_⟩
  unfold tokR
  simp only
  generalize overAt s f = r at ho ⊢
  refine ⟨fun h => ⟨?_, rfl⟩, fun h b_t => ?_⟩
  · rw [if_pos (by simpa using h)]; rfl
  · have hne : r ≠ s.size := by simpa using h
    have hlt : r < s.size := by omega
    rw [if_neg hne]
    refine ⟨⟨by omega, hlt⟩, ?_⟩
    refine Tri.ret (rletter_spec (bt s r) I1 _) fun I2 hI2 => ⟨_, rfl, F, .refl _, fun hm => ?_, fun hm => ⟨⟨by omega, hlt⟩, ?_⟩⟩
    · rw [if_neg (by rw [not_both hm]; exact Bool.false_ne_true), if_pos hm]
      refine Tri.ret (rnamed_spec hs (by omega) hlt I2 _) fun I3 hI3 => ?_
      rcases nameR_err s r with ⟨t, ht⟩ | ⟨e, ht, he⟩
      · rw [ht]; exact ⟨_, _, _, _, _, _, rfl, F, .refl _, fun h => absurd h (by decide), fun _ => ⟨rfl, rfl⟩⟩
      · rw [ht]; exact ⟨_, _, _, _, _, _, rfl, F, .refl _, fun h => ⟨rfl, rfl⟩, fun h => by rw [he] at h; cases h⟩
    · rw [if_neg (c := smallB (bt s r) = true) (by rw [hm]; exact Bool.false_ne_true)]
      refine Tri.ret (rdigit_spec (bt s r) I2 _) fun I3 hI3 => ⟨_, rfl, F, .refl _, fun hd => ?_, fun hd => ?_⟩
      · rw [if_pos hd]
        refine Tri.ret (rnumber_spec hs (by omega) hlt I3 _) fun I4 hI4 => ?_
        rcases numR_err s r with ⟨t, ht⟩ | ⟨e, ht, he⟩
        · rw [ht]; exact ⟨_, _, _, _, _, _, rfl, F, .refl _, fun h => absurd h (by decide), fun _ => ⟨rfl, rfl⟩⟩
        · rw [ht]; exact ⟨_, _, _, _, _, _, rfl, F, .refl _, fun h => ⟨rfl, rfl⟩, fun h => by rw [he] at h; cases h⟩
      · rw [if_neg (by rw [hd]; exact Bool.false_ne_true)]
        refine Tri.ret (rmark_spec hs (by omega) hlt I3 _) fun I4 hI4 => ?_
        rcases markR_err s r with ⟨t, ht⟩ | ⟨e, ht, he⟩
        · rw [ht]; exact ⟨_, _, _, _, _, _, rfl, F, .refl _, fun h => absurd h (by decide), fun _ => ⟨rfl, rfl⟩⟩
        · rw [ht]; exact ⟨_, _, _, _, _, _, rfl, F, .refl _, fun h => ⟨rfl, rfl⟩, fun h => by rw [he] at h; cases h⟩

theorem rNext_spec {s : ByteArray} (hs : Short s) {f : Int} (I : Imm) (F : Heap) : Tri P 17 #[.string s, .int .i64 f] I F (Ret (nextV s f) F) := by
  refine ref11_Next.vc ?_
  unfold ref11_Next.V
  intro b
  unfold nextV
  refine ⟨fun h => ⟨by rw [if_pos (of_decide_eq_true h)]; rfl, rfl⟩, fun h => ?_⟩
  rw [if_neg (of_decide_eq_false h)]
  refine ⟨fun h => ⟨by rw [if_pos (.inl (of_decide_eq_true h))]; rfl, rfl⟩, fun h => ⟨fun h => ⟨by rw [if_pos (.inr (of_decide_eq_true h))]; rfl, rfl⟩, fun h' => ?_⟩⟩
  have h := of_decide_eq_false h
  have h' := of_decide_eq_false h'
  have hs' := hs
  unfold Short at hs'
  rw [if_neg (by omega)]
  refine Tri.ret (One_spec hs (by omega) (by omega) I _) fun I1 hI1 => ?_
  rcases tokR_cases (s := s) (f := f) (by omega) (by omega) with ⟨t, ht, hp, hl, _⟩ | ⟨e, ht, he⟩
  · rw [ht]
    refine ⟨_, _, _, _, _, _, _, rfl, F, .refl _, fun b_t => ⟨fun h => absurd h (by decide), fun _ => ⟨?_, rfl⟩⟩⟩
    have := overAt_le (s := s) (i := f) (by omega)
    rw [w64 (n := t.pos + t.text.size) (by omega)]; rfl
  · rw [ht]
    refine ⟨_, _, _, _, _, _, _, rfl, F, .refl _, fun b_t => ⟨fun h => ⟨rfl, rfl⟩, fun h => ?_⟩⟩
    rcases he with rfl | rfl | rfl <;> exact absurd h (by decide)
end Go.Lx
