import Derived.Test.YtlcjphbjddbgkaaLl
set_option linter.unusedVariables false
set_option linter.unusedSimpArgs false
namespace Go.Lx
open Go.Vc

/-! ### a token is what its own bytes say, where what stands behind it parts -/
def readR (s : ByteArray) (i : Int) : TR := if digitB (bt s i) then numR s i else if smallB (bt s i) then nameR s i else markR s i
theorem tokR_read (s : ByteArray) (f : Int) : tokR s f = if overAt s f = s.size then .ok (zTok (overAt s f)) else readR s (overAt s f) := rfl
def sepB (c : Int) : Bool := blank c || c == 35
theorem sep_cases {c : Int} (h : sepB c = true) : c = 32 ∨ c = 9 ∨ c = 10 ∨ c = 13 ∨ c = 35 := by
  simp only [sepB, blank, Bool.or_eq_true, beq_iff_eq] at h; omega
theorem runAt_eq {p : Int → Bool} {s : ByteArray} {i E : Int} (h : i ≤ E) (hE : E ≤ s.size) (hall : ∀ k, i ≤ k → k < E → p (bt s k) = true) (hend : E < s.size → p (bt s E) = false) : runAt p s i = E := by
  obtain ⟨n, hn⟩ : ∃ n : Nat, n = (E - i).toNat := ⟨_, rfl⟩
  induction n generalizing i with
  | zero =>
    have : i = E := by omega
    subst this
    rcases Int.lt_or_le i s.size with h' | h'
    · rw [runAt_step h', hend h']; rfl
    · exact runAt_end h'
  | succ n ih =>
    rw [runAt_step (by omega), if_pos (hall i (Int.le_refl i) (by omega))]
    exact ih (by omega) (fun k h1 h2 => hall k (by omega) h2) (by omega)
theorem runAt_all {p : Int → Bool} {s : ByteArray} {i k : Int} (h1 : i ≤ k) (h2 : k < runAt p s i) (h3 : i ≤ (s.size : Int)) : p (bt s k) = true := (runAt_in h1 h2 h3).1
/-- the number is that of its digits -/
theorem valAt_move {s s' : ByteArray} {i i' E : Int} (hE : i ≤ E) (hEs : E ≤ s.size) (hE' : i' + (E - i) ≤ s'.size) (hag : ∀ k, 0 ≤ k → k < E - i → bt s' (i' + k) = bt s (i + k)) (hd : ∀ k, i ≤ k → k < E → digitB (bt s k) = true)
    (h1 : E < s.size → digitB (bt s E) = false) (h2 : i' + (E - i) < s'.size → digitB (bt s' (i' + (E - i))) = false) (v : Int) : valAt s' i' v = valAt s i v := by
  obtain ⟨n, hn⟩ : ∃ n : Nat, n = (E - i).toNat := ⟨_, rfl⟩
  induction n generalizing i i' v with
  | zero =>
    have hi : i = E := by omega
    subst hi
    have e1 : valAt s i v = v := by
      rcases Int.lt_or_le i s.size with h | h
      · rw [valAt_step h, h1 h]; rfl
      · exact valAt_end h
    have e2 : valAt s' i' v = v := by
      rcases Int.lt_or_le i' s'.size with h | h
      · rw [valAt_step h, show digitB (bt s' i') = false by have := h2 (by omega); rwa [show i' + (i - i) = i' by omega] at this]; rfl
      · exact valAt_end h
    rw [e1, e2]
  | succ n ih =>
    have hb : bt s' i' = bt s i := by have := hag 0 (Int.le_refl 0) (by omega); rwa [Int.add_zero, Int.add_zero] at this
    rw [valAt_step (s := s) (by omega), valAt_step (s := s') (by omega), hb, hd i (Int.le_refl i) (by omega)]
    simp only [if_true]
    refine ih (i := i + 1) (i' := i' + 1) (by omega) (by omega) (fun k g0 g1 => ?_) (fun k g0 g1 => hd k (by omega) g1) (fun h => ?_) _ (by omega)
    · have := hag (k + 1) (by omega) (by omega)
      rw [show i' + 1 + k = i' + (k + 1) by omega, show i + 1 + k = i + (k + 1) by omega]; exact this
    · have := h2 (by omega)
      rwa [show i' + 1 + (E - (i + 1)) = i' + (E - i) by omega]
theorem cut_move {s s' : ByteArray} {i i' : Int} {n : Int} (h0 : 0 ≤ i) (h0' : 0 ≤ i') (hn : 0 ≤ n) (hle : i + n ≤ s.size) (hle' : i' + n ≤ s'.size) (hag : ∀ k, 0 ≤ k → k < n → bt s' (i' + k) = bt s (i + k)) : cut s' i' (i' + n) = cut s i (i + n) := by
  have h1 := cut_size h0 (by omega : i ≤ i + n) hle
  have h2 := cut_size h0' (by omega : i' ≤ i' + n) hle'
  refine ba_ext (by omega) fun k hk => ?_
  rw [cut_bt h0' (by omega) (by omega) hle', cut_bt h0 (by omega) (by omega) hle]
  exact hag k (by omega) (by omega)
theorem numR_ok {s : ByteArray} {i : Int} {t : Tok} (h : numR s i = .ok t) :
    ∃ E e2, E = runAt digitB s i ∧ e2 = (if typOf (byteOr0 s E) = 1 then E else E + 1) ∧ ¬(valAt s i 0 > 9223372036854775807 ∨ (E - i > 1 ∧ bt s i = 48) ∨ (e2 < s.size ∧ (innerB (bt s e2) = true ∨ (65 ≤ bt s e2 ∧ bt s e2 ≤ 90)))) ∧
      t = ⟨3, cut s i e2, typOf (byteOr0 s E), valAt s i 0, i⟩ := by
  refine ⟨_, _, rfl, rfl, ?_, ?_⟩
  · intro hc
    have : numR s i = .bad 113 i := if_pos hc
    rw [this] at h; cases h
  · have : ∀ C : Prop, [Decidable C] → ∀ x y : TR, (if C then x else y) = .ok t → x = .bad 113 i → y = .ok t := fun C _ x y h hx => by
      split at h
      · rw [hx] at h; cases h
      · exact h
    have := this _ _ _ h rfl
    cases this; rfl
theorem numR_mk {s : ByteArray} {i E e2 : Int} (hE : runAt digitB s i = E) (he2 : e2 = (if typOf (byteOr0 s E) = 1 then E else E + 1)) (hc : ¬(valAt s i 0 > 9223372036854775807 ∨ (E - i > 1 ∧ bt s i = 48) ∨ (e2 < s.size ∧ (innerB (bt s e2) = true ∨ (65 ≤ bt s e2 ∧ bt s e2 ≤ 90))))) :
    numR s i = .ok ⟨3, cut s i e2, typOf (byteOr0 s E), valAt s i 0, i⟩ := by
  subst hE he2
  exact if_neg hc
theorem read_move {s s' : ByteArray} {i i' : Int} {t : Tok} (h0 : 0 ≤ i) (hi : i < s.size) (h0' : 0 ≤ i') (ht : readR s i = .ok t) (hle : i' + t.text.size ≤ s'.size)
    (hag : ∀ k, 0 ≤ k → k < (t.text.size : Int) → bt s' (i' + k) = bt s (i + k)) (hsep : i' + t.text.size < s'.size → sepB (bt s' (i' + t.text.size)) = true) : readR s' i' = .ok ⟨t.kind, t.text, t.typ, t.n, i'⟩ := by
  have hsn : ∀ {c : Int}, sepB c = true → digitB c = false ∧ innerB c = false ∧ typOf c = 1 ∧ c ≠ 61 ∧ ¬(65 ≤ c ∧ c ≤ 90) ∧ c ≠ 38 ∧ c ≠ 124 := fun {c} h => by
    rcases sep_cases h with h | h | h | h | h <;> subst h <;> decide
  unfold readR at ht
  by_cases hd : digitB (bt s i) = true
  · rw [if_pos hd] at ht
    obtain ⟨E, e2, hE, he2, hc, htt⟩ := numR_ok ht
    have hr := runAt_step (p := digitB) hi
    rw [if_pos hd] at hr
    have hEb := runAt_le (p := digitB) (s := s) (i := i + 1) (by omega)
    rw [← hr, ← hE] at hEb
    have hdE : E < s.size → digitB (bt s E) = false := fun h => by rw [hE] at h ⊢; exact runAt_stops (by omega) h
    have htE : typOf (byteOr0 s E) ≠ 1 → E < s.size := fun hne => by
      rcases Int.lt_or_le E s.size with h | h
      · exact h
      · rw [show byteOr0 s E = 0 by unfold byteOr0; rw [if_neg (by omega)]] at hne; exact absurd rfl hne
    have he2b : E ≤ e2 ∧ e2 ≤ s.size := by
      rw [he2]; split
      · omega
      · rename_i h; have := htE h; omega
    have hn : (t.text.size : Int) = e2 - i := by rw [htt]; exact cut_size h0 (by omega) he2b.2
    rw [hn] at hle hag hsep
    have hdig : ∀ k, i ≤ k → k < E → digitB (bt s k) = true := fun k g0 g1 => runAt_all (p := digitB) g0 (by omega) (by omega)
    have hag' : ∀ k, 0 ≤ k → k < E - i → bt s' (i' + k) = bt s (i + k) := fun k g0 g1 => hag k g0 (by omega)
    -- what stands at the end of the digits
    have hend : byteOr0 s' (i' + (E - i)) = byteOr0 s E ∨ (typOf (byteOr0 s E) = 1 ∧ typOf (byteOr0 s' (i' + (E - i))) = 1) := by
      by_cases h1 : typOf (byteOr0 s E) = 1
      · right
        refine ⟨h1, ?_⟩
        rw [if_pos h1] at he2
        subst he2
        unfold byteOr0
        split
        · rename_i h; exact (hsn (hsep h)).2.2.1
        · rfl
      · left
        have := htE h1
        rw [if_neg h1] at he2
        unfold byteOr0
        rw [if_pos (by omega), if_pos this, hag (E - i) (by omega) (by omega)]
        congr 1; omega
    have hty : typOf (byteOr0 s' (i' + (E - i))) = typOf (byteOr0 s E) := by
      rcases hend with h | ⟨h1, h2⟩
      · rw [h]
      · rw [h1, h2]
    have hdE' : i' + (E - i) < s'.size → digitB (bt s' (i' + (E - i))) = false := fun h => by
      by_cases h1 : typOf (byteOr0 s E) = 1
      · rw [if_pos h1] at he2
        subst he2
        exact (hsn (hsep h)).1
      · have hlt := htE h1
        rw [if_neg h1] at he2
        rw [hag (E - i) (by omega) (by omega), show i + (E - i) = E by omega]
        exact hdE hlt
    have hE' : runAt digitB s' i' = i' + (E - i) := by
      refine runAt_eq (by omega) (by omega) (fun k g0 g1 => ?_) hdE'
      rw [show k = i' + (k - i') by omega, hag' (k - i') (by omega) (by omega)]
      exact hdig _ (by omega) (by omega)
    have hv : valAt s' i' 0 = valAt s i 0 := valAt_move (by omega) (by omega) (by omega) hag' hdig hdE hdE' 0
    have hb0 : bt s' i' = bt s i := by have := hag 0 (Int.le_refl 0) (by omega); rwa [Int.add_zero, Int.add_zero] at this
    have he2' : i' + (e2 - i) = (if typOf (byteOr0 s' (i' + (E - i))) = 1 then i' + (E - i) else i' + (E - i) + 1) := by
      rw [hty, he2]; split <;> omega
    unfold readR
    rw [hb0, if_pos hd, numR_mk hE' he2' (fun hc' => hc ?_), hty, hv]
    · rw [htt]
      rw [cut_move h0 h0' (by omega) (by omega) (by omega) hag, show i + (e2 - i) = e2 by omega]
    · rcases hc' with h | ⟨h, h'⟩ | ⟨h, h'⟩
      · exact .inl (by rw [← hv]; exact h)
      · exact .inr (.inl ⟨by omega, by rw [← hb0]; exact h'⟩)
      · have hs := hsn (hsep h)
        rcases h' with h' | h'
        · rw [hs.2.1] at h'; cases h'
        · exact absurd h' hs.2.2.2.2.1
  · rw [if_neg hd] at ht
    by_cases hm : smallB (bt s i) = true
    · rw [if_pos hm] at ht
      have hr := runAt_step (p := innerB) hi
      rw [if_pos (by simp [innerB, hm])] at hr
      have hEb := runAt_le (p := innerB) (s := s) (i := i + 1) (by omega)
      rw [← hr] at hEb
      unfold nameR at ht
      simp only at ht
      split at ht
      · cases ht
      · rename_i h16
        have htt := TR.ok.inj ht
        have hn : (t.text.size : Int) = runAt innerB s i - i := by rw [← htt]; exact cut_size h0 (by omega) hEb.2
        rw [hn] at hle hag hsep
        have hb0 : bt s' i' = bt s i := by have := hag 0 (Int.le_refl 0) (by omega); rwa [Int.add_zero, Int.add_zero] at this
        have hE' : runAt innerB s' i' = i' + (runAt innerB s i - i) := by
          refine runAt_eq (by omega) (by omega) (fun k g0 g1 => ?_) (fun h => (hsn (hsep h)).2.1)
          rw [show k = i' + (k - i') by omega, hag (k - i') (by omega) (by omega)]
          exact runAt_all (p := innerB) (i := i) (k := i + (k - i')) (by omega) (by omega) (by omega)
        have hcut : cut s' i' (i' + (runAt innerB s i - i)) = cut s i (runAt innerB s i) := by
          rw [cut_move h0 h0' (by omega) (by omega) (by omega) hag, show i + (runAt innerB s i - i) = runAt innerB s i by omega]
        unfold readR
        rw [hb0, if_neg hd, if_pos hm]
        unfold nameR
        simp only [hE']
        rw [if_neg (by omega), hcut, ← htt]
    · rw [if_neg hm] at ht
      have hr := markN_range s i
      have hl := markN_le hi
      unfold markR at ht
      split at ht
      · cases ht
      · rename_i hz
        have htt := TR.ok.inj ht
        have hn : (t.text.size : Int) = markN s i := by
          rw [← htt]
          have := cut_size h0 (by omega : i ≤ i + markN s i) hl
          show ((cut s i (i + markN s i)).size : Int) = _
          omega
        rw [hn] at hle hag hsep
        have hb0 : bt s' i' = bt s i := by have := hag 0 (Int.le_refl 0) (by omega); rwa [Int.add_zero, Int.add_zero] at this
        have hmk : markN s' i' = markN s i := by
          rcases (by omega : markN s i = 1 ∨ markN s i = 2) with h1 | h2
          · -- the next byte parts
            have hnx : byteOr0 s' (i' + 1) = 0 ∨ sepB (byteOr0 s' (i' + 1)) = true := by
              unfold byteOr0
              split
              · rename_i h; right; have := hsep (by omega); rwa [h1] at this
              · exact .inl rfl
            have hnx' : byteOr0 s' (i' + 1) ≠ 61 ∧ byteOr0 s' (i' + 1) ≠ 38 ∧ byteOr0 s' (i' + 1) ≠ 124 := by
              rcases hnx with h | h
              · rw [h]; decide
              · exact ⟨(hsn h).2.2.2.1, (hsn h).2.2.2.2.2.1, (hsn h).2.2.2.2.2.2⟩
            rw [h1]
            unfold markN at h1 ⊢
            simp only [hb0] at h1 ⊢
            generalize byteOr0 s' (i' + 1) = d' at hnx'
            split at h1
            · rw [if_pos (by assumption)]
            · rw [if_neg (by assumption)]
              split at h1
              · split at h1 <;> omega
              · rw [if_neg (by assumption)]
                split at h1
                · rw [if_pos (by assumption), if_neg hnx'.1]
                · omega
          · have hnx : byteOr0 s' (i' + 1) = byteOr0 s (i + 1) := by
              unfold byteOr0
              rw [if_pos (by omega), if_pos (by omega)]
              exact hag 1 (by decide) (by omega)
            unfold markN
            rw [hnx, hb0]
        have hcut : cut s' i' (i' + markN s i) = cut s i (i + markN s i) := cut_move h0 h0' hr.1 hl hle hag
        unfold readR
        rw [hb0, if_neg hd, if_neg hm]
        unfold markR
        rw [hmk, if_neg hz, hcut, ← htt]
end Go.Lx
