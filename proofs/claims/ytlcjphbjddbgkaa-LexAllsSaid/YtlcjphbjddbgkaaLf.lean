import Derived.Test.YtlcjphbjddbgkaaLe
set_option linter.unusedVariables false
set_option linter.unusedSimpArgs false
namespace Go.Lx
open Go.Vc

theorem ite_is {α : Type} {C : Prop} [d : Decidable C] {x y z : α} (h : z = if C then x else y) : ∃ C' : Prop, (C' ∧ z = x) ∨ (¬ C' ∧ z = y) :=
  ⟨C, (Classical.em C).imp (fun c => ⟨c, by rw [h, if_pos c]⟩) fun c => ⟨c, by rw [h, if_neg c]⟩⟩
theorem numR_is (s : ByteArray) (i : Int) : ∃ C : Prop, (C ∧ numR s i = .bad 113 i) ∨ (¬ C ∧ numR s i =
    .ok ⟨3, cut s i (if typOf (byteOr0 s (runAt digitB s i)) = 1 then runAt digitB s i else runAt digitB s i + 1), typOf (byteOr0 s (runAt digitB s i)), valAt s i 0, i⟩) := by
  exact ite_is rfl
theorem numR_shape (s : ByteArray) (i : Int) : (∃ t, numR s i = .ok t ∧ t.pos = i) ∨ numR s i = .bad 113 i := by
  obtain ⟨C, ⟨_, h⟩ | ⟨_, h⟩⟩ := numR_is s i
  · exact .inr h
  · exact .inl ⟨_, h, rfl⟩

theorem token_spec {s : ByteArray} (hs : Short s) {f : Int} (h0 : 0 ≤ f) (h1 : f ≤ s.size) (I : Imm) (F : Heap) : Tri P 31 #[.string s, .int .i64 f] I F (Ret (tokR s f).v2p F) := by
  have hs' := hs
  unfold Short at hs'
  refine lex_token.vc ?_
  unfold lex_token.V
  intro b
  have ho := overAt_le (s := s) h1
  refine Tri.ret (skip_spec' hs h0 h1 I _) fun I1 hI1 => ⟨_, rfl, F, .refl _, ?_⟩
  unfold tokR
  simp only
  generalize overAt s f = r at ho ⊢
  refine ⟨fun h => ⟨?_, rfl⟩, fun h => ⟨?_, ?_⟩⟩
  · rw [if_pos (by simpa using h)]; rfl
  · have : r ≠ s.size := by simpa using h
    omega
  · have hlt : r < s.size := by have : r ≠ s.size := by simpa using h
                                omega
    rw [if_neg (by omega)]
    refine Tri.ret (digit_spec (bt s r) I1 _) fun I2 hI2 => ⟨_, rfl, F, .refl _, fun hd => ?_, fun hd => ?_⟩
    · rw [if_pos hd]
      refine Tri.ret (number_spec hs (by omega) hlt I2 _) fun I3 hI3 => ?_
      rcases numR_shape s r with ⟨t, ht, hp⟩ | ht
      · rw [ht]; exact ⟨_, _, _, _, _, _, rfl, F, .refl _, fun b_t => ⟨by rw [← hp]; rfl, rfl⟩⟩
      · rw [ht]; exact ⟨_, _, _, _, _, _, rfl, F, .refl _, fun b_t => ⟨rfl, rfl⟩⟩
    · rw [if_neg (by rw [hd]; exact Bool.false_ne_true)]
      refine Tri.ret (small_spec (bt s r) I2 _) fun I3 hI3 => ⟨_, rfl, F, .refl _, fun hm => ?_, fun hm => ?_⟩
      · rw [if_pos hm]
        have hn := runAt_le (p := innerB) (s := s) (i := r) (by omega)
        refine Tri.ret (run_spec hs (by omega) (by omega) inner_spec enters47 I3 _) fun I4 hI4 => ⟨_, rfl, F, .refl _, ?_⟩
        unfold nameR
        simp only
        generalize runAt innerB s r = e at hn ⊢
        rw [w64 (by omega)]
        refine ⟨fun h => ⟨?_, rfl⟩, fun h => ⟨⟨by omega, hn⟩, fun b_t => ?_⟩⟩
        · rw [if_pos (of_decide_eq_true h)]; rfl
        · rw [if_neg (of_decide_eq_false h)]
          refine Tri.ret (Word_spec (cut s r e) I4 _) fun I5 hI5 => ⟨_, rfl, F, .refl _, fun hw => ⟨?_, rfl⟩, fun hw => ⟨?_, rfl⟩⟩
          · rw [if_pos hw]; rfl
          · rw [if_neg (by rw [hw]; exact Bool.false_ne_true)]; rfl
      · rw [if_neg (by rw [hm]; exact Bool.false_ne_true)]
        refine Tri.ret (mark_spec hs (by omega) hlt I3 _) fun I4 hI4 => ⟨_, rfl, F, .refl _, ?_⟩
        have hr := markN_range s r
        have hl := markN_le hlt
        unfold markR
        generalize markN s r = k at hr hl ⊢
        rw [w64 (by omega)]
        refine ⟨fun h => ⟨?_, rfl⟩, fun h => ⟨by omega, ?_, rfl⟩⟩
        · rw [if_pos (by simpa using h)]; rfl
        · rw [if_neg (by simpa using h)]; rfl

def nextV (s : ByteArray) (f : Int) : Value :=
  if (s.size : Int) > 4096 then .tuple #[(zTok 0).v, .int .i64 0, .int .i64 110]
  else if f < 0 ∨ f > s.size then .tuple #[(zTok 0).v, .int .i64 0, .int .i64 1]
  else match tokR s f with
    | .ok t => .tuple #[t.v, .int .i64 (t.pos + t.text.size), .int .i64 0]
    | .bad e p => .tuple #[(zTok 0).v, .int .i64 0, .int .i64 e]
/-- what a token holds, and where -/
def TokAt (s : ByteArray) (i : Int) (t : Tok) : Prop :=
  t.pos = i ∧ t.pos + t.text.size ≤ s.size ∧ t.text = cut s t.pos (t.pos + t.text.size) ∧ ((t.kind = 0 ∧ i = s.size ∧ t = zTok s.size) ∨ (0 < t.kind ∧ t.kind ≤ 4 ∧ 0 < t.text.size))
theorem TokAt.mk' {s : ByteArray} {i e k y n : Int} (h0 : 0 ≤ i) (h : i < e) (h1 : e ≤ s.size) (hk : 0 < k ∧ k ≤ 4) : TokAt s i ⟨k, cut s i e, y, n, i⟩ := by
  have hc := cut_size h0 (by omega : i ≤ e) h1
  refine ⟨rfl, ?_, ?_, .inr ⟨hk.1, hk.2, ?_⟩⟩
  · show i + ((cut s i e).size : Int) ≤ _; omega
  · show cut s i e = cut s i (i + (cut s i e).size); rw [hc]; congr 1; omega
  · show 0 < (cut s i e).size; omega
theorem cut_self (s : ByteArray) (i : Int) : cut s i i = ⟨#[]⟩ := by
  unfold cut
  have : (s.extract i.toNat i.toNat).size = 0 := by rw [ByteArray.size_extract]; omega
  exact ByteArray.size_eq_zero_iff.1 this
theorem tokR_cases {s : ByteArray} {f : Int} (h0 : 0 ≤ f) (h1 : f ≤ s.size) :
    (∃ t, tokR s f = .ok t ∧ TokAt s (overAt s f) t) ∨ (∃ e, tokR s f = .bad e (overAt s f) ∧ (e = 111 ∨ e = 112 ∨ e = 113)) := by
  have ho := overAt_le (s := s) h1
  unfold tokR
  simp only
  generalize overAt s f = i at ho ⊢
  by_cases hi : i = s.size
  · rw [if_pos hi]
    refine .inl ⟨_, rfl, rfl, ?_, ?_, .inl ⟨rfl, hi, by rw [hi]⟩⟩
    · show i + ((0 : Nat) : Int) ≤ _; omega
    · show (⟨#[]⟩ : ByteArray) = cut s i (i + ((0 : Nat) : Int))
      rw [show i + ((0 : Nat) : Int) = i by omega, cut_self]
  · have hlt : i < s.size := by omega
    rw [if_neg hi]
    by_cases hd : digitB (bt s i) = true
    · rw [if_pos hd]
      obtain ⟨C, ⟨_, h⟩ | ⟨_, h⟩⟩ := numR_is s i
      · exact .inr ⟨_, h, by simp⟩
      · refine .inl ⟨_, h, ?_⟩
        have hr := runAt_step (p := digitB) hlt
        rw [if_pos hd] at hr
        have := runAt_le (p := digitB) (s := s) (i := i + 1) (by omega)
        refine TokAt.mk' (by omega) ?_ ?_ (by decide)
        · split <;> omega
        · split
          · omega
          · rename_i hne
            have : runAt digitB s i < s.size := by
              rcases Int.lt_or_le (runAt digitB s i) s.size with h | h
              · exact h
              · rw [show byteOr0 s (runAt digitB s i) = 0 by unfold byteOr0; rw [if_neg (by omega)]] at hne
                exact absurd rfl hne
            omega
    · rw [if_neg hd]
      by_cases hm : smallB (bt s i) = true
      · rw [if_pos hm]
        have hr := runAt_step (p := innerB) hlt
        rw [if_pos (by simp [innerB, hm])] at hr
        have := runAt_le (p := innerB) (s := s) (i := i + 1) (by omega)
        unfold nameR
        simp only
        split
        · exact .inr ⟨_, rfl, by simp⟩
        · exact .inl ⟨_, rfl, TokAt.mk' (by omega) (by omega) (by omega) (by split <;> decide)⟩
      · rw [if_neg hm]
        have hr := markN_range s i
        have hl := markN_le hlt
        unfold markR
        split
        · exact .inr ⟨_, rfl, by simp⟩
        · exact .inl ⟨_, rfl, TokAt.mk' (by omega) (by omega) (by omega) (by decide)⟩
theorem Next_spec {s : ByteArray} (hs : Short s) {f : Int} (I : Imm) (F : Heap) : Tri P 16 #[.string s, .int .i64 f] I F (Ret (nextV s f) F) := by
  refine lex_Next.vc ?_
  unfold lex_Next.V
  intro b
  unfold nextV
  refine ⟨fun h => ⟨by rw [if_pos (of_decide_eq_true h)]; rfl, rfl⟩, fun h => ?_⟩
  rw [if_neg (of_decide_eq_false h)]
  refine ⟨fun h => ⟨by rw [if_pos (.inl (of_decide_eq_true h))]; rfl, rfl⟩, fun h => ⟨fun h => ⟨by rw [if_pos (.inr (of_decide_eq_true h))]; rfl, rfl⟩, fun h' => ?_⟩⟩
  have h := of_decide_eq_false h
  have h' := of_decide_eq_false h'
  unfold Short at hs
  rw [if_neg (by omega)]
  refine Tri.ret (token_spec hs (by omega) (by omega) I _) fun I1 hI1 => ?_
  rcases tokR_cases (s := s) (f := f) (by omega) (by omega) with ⟨t, ht, hp, hl, _⟩ | ⟨e, ht, he⟩
  · rw [ht]
    refine ⟨_, _, _, _, _, _, rfl, F, .refl _, fun b_t => ⟨fun h => absurd h (by decide), fun _ => ⟨?_, rfl⟩⟩⟩
    have := overAt_le (s := s) (i := f) (by omega)
    rw [w64 (n := t.pos + t.text.size) (by omega)]; rfl
  · rw [ht]
    refine ⟨_, _, _, _, _, _, rfl, F, .refl _, fun b_t => ⟨fun h => ⟨rfl, rfl⟩, fun h => ?_⟩⟩
    rcases he with rfl | rfl | rfl <;> exact absurd h (by decide)
end Go.Lx
