import Derived.Test.YtlcjphbjddbgkaaLr
import Derived.Test.YtlcjphbjddbgkaaLp
import Derived.Test.YtlcjphbjddbgkaaVx7
set_option linter.unusedVariables false
set_option linter.unusedSimpArgs false
namespace Go.Lx
open Go.Vc

theorem free_spec {s : ByteArray} (hs : Short s) (I : Imm) (F : Heap) : Tri P 27 #[.string s] I F (Ret (.bool (decide (overAt s 0 = s.size))) F) := by
  have hs' := hs
  unfold Short at hs'
  refine law11_free.vc (fun x r j m I' F' => 0 ≤ j ∧ j ≤ s.size ∧ m = (s.size - j).toNat ∧ overR s r j = overAt s 0 ∧ F' = F) ?_
  unfold law11_free.V
  refine ⟨⟨_, by omega, by omega, rfl, rfl, rfl⟩, fun x r j m I1 F1 hI ⟨g0, g1, gm, gr, gF⟩ => ⟨fun hlt => ?_, fun hlt => ?_⟩⟩
  · have hlt : j < (s.size : Int) := by simpa using hlt
    subst gF
    have step := overR_step (r := r) hlt
    have stop : ∀ J : Imm, remB (bt s j) r = false → blank (bt s j) = false → Ret (.bool (decide (overAt s 0 = s.size))) F1 (.returned (.bool false)) J F1 := fun J a b => by
      rw [a, b, gr] at step
      simp only [Bool.not_false, Bool.and_self, if_true] at step
      exact ⟨by rw [decide_eq_false (by omega)], rfl⟩
    have cont : ∀ r', remB (bt s j) r = r' → (r' = true ∨ blank (bt s j) = true) → ∃ m2 : Nat, m2 < m ∧ (0 ≤ IntKind.wrap .i64 (j + 1) ∧ IntKind.wrap .i64 (j + 1) ≤ s.size ∧ m2 = (s.size - IntKind.wrap .i64 (j + 1)).toNat ∧
        overR s r' (IntKind.wrap .i64 (j + 1)) = overAt s 0 ∧ F1 = F1) := fun r' a b => by
      rw [w64 (by omega)]
      refine ⟨_, by omega, by omega, by omega, rfl, ?_, rfl⟩
      rw [a, gr] at step
      rw [step, if_neg]
      rcases b with b | b <;> simp [b]
    clear step gr
    have hr : 0 ≤ j ∧ j < (s.size : Int) := ⟨g0, hlt⟩
    repeat' (first | exact hr | (with_reducible apply And.intro) | (with_reducible intro h))
    all_goals first
      | (refine stop I1 ?_ ?_ <;> simp_all [remB, blank]; done)
      | (refine cont _ ?_ ?_ <;> simp_all [remB, blank]; done)
      | (exfalso; simp_all; done)
  · have hlt : ¬ j < (s.size : Int) := by simpa using hlt
    refine ⟨?_, gF⟩
    rw [overR_end (by omega)] at gr
    rw [← gr, decide_eq_true (by omega)]
/-- what lies ahead of a token is blank, by itself too -/
theorem over_cut {s : ByteArray} {a : Int} (h0 : 0 ≤ a) (h : a ≤ s.size) : overAt (cut s a (overAt s a)) 0 = (cut s a (overAt s a)).size := by
  have ho := overAt_le h
  have hsz := cut_size h0 ho.1 ho.2
  have key : ∀ (n : Nat) (r : Bool) (j : Int), 0 ≤ j → a + j ≤ overAt s a → (overAt s a - (a + j)).toNat = n → overR s r (a + j) = overAt s a → overR (cut s a (overAt s a)) r j = (cut s a (overAt s a)).size := by
    intro n
    induction n with
    | zero =>
      intro r j g0 g1 gn gr
      rw [overR_end (by omega)]; omega
    | succ n ih =>
      intro r j g0 g1 gn gr
      have hb := cut_bt (s := s) (i := a) (j := overAt s a) (k := j) h0 g0 (by omega) ho.2
      have st := overR_step (s := s) (r := r) (i := a + j) (by omega)
      rw [overR_step (by omega), hb]
      split at st
      · rw [gr] at st; omega
      · rename_i hc
        rw [if_neg hc]
        refine ih _ (j + 1) (by omega) (by omega) (by omega) ?_
        rw [show a + (j + 1) = a + j + 1 by omega, ← st, gr]
  exact key _ false 0 (Int.le_refl 0) (by omega) rfl (by rw [Int.add_zero]; rfl)
theorem tok_shape {s : ByteArray} {f : Int} (h0 : 0 ≤ f) (h1 : f ≤ s.size) {t : Tok} (ht : tokR s f = .ok t) : TokAt s (overAt s f) t := by
  rcases tokR_cases h0 h1 with ⟨t', ht', h⟩ | ⟨e, ht', _⟩
  · rw [ht] at ht'; cases ht'; exact h
  · rw [ht] at ht'; cases ht'
theorem tok_read {s : ByteArray} {f : Int} (h0 : 0 ≤ f) (h1 : f ≤ s.size) {t : Tok} (ht : tokR s f = .ok t) (hk : t.kind ≠ 0) : overAt s f < s.size ∧ readR s (overAt s f) = .ok t := by
  have ho := overAt_le h1
  have hat := tok_shape h0 h1 ht
  rw [tokR_read] at ht
  by_cases he : overAt s f = s.size
  · rcases hat.2.2.2 with ⟨h, _⟩ | ⟨_, _, h⟩
    · exact absurd h hk
    · have := hat.1; have := hat.2.1; omega
  · rw [if_neg he] at ht; exact ⟨by omega, ht⟩
/-- a text that begins with a token's bytes, and parts behind them -/
theorem tokR_at {s : ByteArray} {i : Int} {t : Tok} (h0 : 0 ≤ i) (hi : i < s.size) (hb : blank (bt s i) = false) (h35 : bt s i ≠ 35) (hr : readR s i = .ok t) : tokR s i = .ok t := by
  rw [tokR_read, overAt_token hi hb h35, if_neg (by omega), hr]
theorem toks_end {s : ByteArray} {f : Int} (h0 : 0 ≤ f) (h1 : f ≤ s.size) (ho : overAt s f = s.size) : toks s f = ([zTok s.size], none) := by
  rw [toks_step h0 h1, tokR_read, if_pos ho, ho]; rfl
theorem tokens_alone {s : ByteArray} {f : Int} (h0 : 0 ≤ f) (h1 : f ≤ s.size) (hs : (s.size : Int) ≤ 4096) {t : Tok} (ht : tokR s f = .ok t) (hk : t.kind ≠ 0) :
    tokensR t.text = .ok [⟨t.kind, t.text, t.typ, t.n, 0⟩, zTok t.text.size] := by
  have hat := tok_shape h0 h1 ht
  obtain ⟨hlt, hr⟩ := tok_read h0 h1 ht hk
  have ho := overAt_le h1
  have hst := overAt_stops h1 hlt
  obtain ⟨hpos, hle, htx, hsz⟩ := hat
  have hsz : 0 < t.text.size := by
    rcases hsz with ⟨h, _⟩ | ⟨_, _, h⟩
    · exact absurd h hk
    · exact h
  have hag : ∀ k, 0 ≤ k → k < (t.text.size : Int) → bt t.text (0 + k) = bt s (overAt s f + k) := fun k g0 g1 => by
    rw [htx, Int.zero_add, cut_bt (by omega) g0 (by omega) hle, hpos]
  have h00 : bt t.text 0 = bt s (overAt s f) := by have := hag 0 (Int.le_refl 0) (by omega); rwa [Int.add_zero, Int.add_zero] at this
  have hr' := read_move (s' := t.text) (i' := 0) (by omega) hlt (Int.le_refl 0) hr (by omega) hag (fun h => by omega)
  have htok : tokR t.text 0 = .ok ⟨t.kind, t.text, t.typ, t.n, 0⟩ := tokR_at (Int.le_refl 0) (by omega) (by rw [h00]; exact hst.1) (by rw [h00]; exact hst.2) hr'
  unfold tokensR
  rw [if_neg (by omega), toks_step (Int.le_refl 0) (by omega), htok]
  simp only [hk, if_false]
  rw [toks_end (f := 0 + t.text.size) (by omega) (by omega) (by unfold overAt; rw [overR_end (by omega)]; omega)]
theorem toksF_len' (s : ByteArray) : ∀ (n : Nat) (f : Int), (toksF s n f).1.length ≤ n
  | 0, f => Nat.le_refl _
  | n + 1, f => by
    unfold toksF
    cases tokR s f with
    | bad e p => simp
    | ok t =>
      simp only
      split
      · simp
      · simp only [List.length_cons]; exact Nat.succ_le_succ (toksF_len' s n _)
theorem tokensR_len' {s : ByteArray} {l : List Tok} (h : tokensR s = .ok l) : l.length ≤ 4097 := by
  unfold tokensR at h
  split at h
  · cases h
  · rename_i hs
    have hl := toksF_len' s ((s.size : Int) - 0 + 1).toNat 0
    split at h
    · rename_i l' hl'
      cases h
      unfold toks at hl'
      rw [hl'] at hl
      simp only at hl
      omega
    · cases h

theorem tokens_empty : tokensR ⟨#[]⟩ = .ok [zTok 0] := by kernel_rfl
theorem toks_ne {s : ByteArray} {f : Int} (h0 : 0 ≤ f) (h1 : f ≤ s.size) {l : List Tok} (h : toks s f = (l, none)) : ∃ t r, l = t :: r ∧ tokR s f = .ok t ∧ ((t.kind = 0 ∧ r = []) ∨ (t.kind ≠ 0 ∧ toks s (t.pos + t.text.size) = (r, none))) := by
  rw [toks_step h0 h1] at h
  cases ht : tokR s f with
  | bad e p => rw [ht] at h; cases h
  | ok t =>
    rw [ht] at h
    by_cases hk : t.kind = 0
    · simp only [hk, if_true] at h
      cases h
      exact ⟨t, [], rfl, rfl, .inl ⟨hk, rfl⟩⟩
    · simp only [hk, if_false] at h
      obtain ⟨e1, e2⟩ := Prod.mk.inj h
      exact ⟨t, _, e1.symm, rfl, .inr ⟨hk, Prod.ext rfl e2⟩⟩
end Go.Lx
