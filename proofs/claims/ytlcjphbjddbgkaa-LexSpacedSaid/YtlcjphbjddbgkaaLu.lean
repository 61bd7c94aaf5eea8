import Derived.Test.YtlcjphbjddbgkaaLs
set_option linter.unusedVariables false
set_option linter.unusedSimpArgs false
namespace Go.Lx
open Go.Vc

/-! ### a text ahead of a line's end -/
structure Ahead (a z : ByteArray) : Prop where
  lt : (a.size : Int) < z.size
  same : ∀ k, 0 ≤ k → k < (a.size : Int) → bt z k = bt a k
  nl : bt z a.size = 10
theorem Ahead.run {a z : ByteArray} (h : Ahead a z) {p : Int → Bool} (hp : p 10 = false) {i : Int} (h0 : 0 ≤ i) (h1 : i ≤ a.size) : runAt p z i = runAt p a i := by
  have hE := runAt_le (p := p) h1
  have := h.lt
  refine runAt_eq hE.1 (by omega) (fun k g0 g1 => ?_) fun hl => ?_
  · rw [h.same k (by omega) (by omega)]; exact runAt_all g0 g1 h1
  · rcases Int.lt_or_le (runAt p a i) a.size with hh | hh
    · rw [h.same _ (by omega) hh]; exact runAt_stops h1 hh
    · rw [show runAt p a i = a.size by omega, h.nl, hp]
theorem Ahead.byte {a z : ByteArray} (h : Ahead a z) {i : Int} (h0 : 0 ≤ i) (h1 : i ≤ a.size) : byteOr0 z i = byteOr0 a i ∨ (byteOr0 z i = 10 ∧ byteOr0 a i = 0) := by
  have := h.lt
  unfold byteOr0
  rcases Int.lt_or_le i a.size with hh | hh
  · left; rw [if_pos (by omega), if_pos hh, h.same i h0 hh]
  · right; rw [if_pos (by omega), if_neg (by omega), show i = a.size by omega, h.nl]; exact ⟨rfl, rfl⟩
theorem Ahead.cut {a z : ByteArray} (h : Ahead a z) {i e : Int} (h0 : 0 ≤ i) (h1 : i ≤ e) (h2 : e ≤ a.size) : cut z i e = cut a i e := by
  have := h.lt
  have hc := cut_move (s := a) (s' := z) (i := i) (i' := i) (n := e - i) h0 h0 (by omega) (by omega) (by omega) fun k g0 g1 => h.same _ (by omega) (by omega)
  rwa [show i + (e - i) = e by omega] at hc
theorem Ahead.val {a z : ByteArray} (h : Ahead a z) {i : Int} (h0 : 0 ≤ i) (h1 : i ≤ a.size) : valAt z i 0 = valAt a i 0 := by
  have := h.lt
  have hE := runAt_le (p := digitB) h1
  refine valAt_move (E := runAt digitB a i) hE.1 hE.2 (by omega) (fun k g0 g1 => h.same _ (by omega) (by omega)) (fun k g0 g1 => runAt_all g0 g1 h1) (fun hl => runAt_stops h1 hl) (fun hl => ?_) 0
  rw [show i + (runAt digitB a i - i) = runAt digitB a i by omega]
  rcases Int.lt_or_le (runAt digitB a i) a.size with hh | hh
  · rw [h.same _ (by omega) hh]; exact runAt_stops h1 hh
  · rw [show runAt digitB a i = a.size by omega, h.nl]; rfl
theorem ite_iff {C D : Prop} [Decidable C] [Decidable D] (h : C ↔ D) {α : Type} (x y : α) : (if C then x else y) = if D then x else y := by
  by_cases hc : C
  · rw [if_pos hc, if_pos (h.1 hc)]
  · rw [if_neg hc, if_neg (fun hd => hc (h.2 hd))]
theorem Ahead.num {a z : ByteArray} (h : Ahead a z) {i : Int} (h0 : 0 ≤ i) (h1 : i < a.size) : numR z i = numR a i := by
  have hlt := h.lt
  have hE := runAt_le (p := digitB) (s := a) (i := i) (by omega)
  have hr : runAt digitB z i = runAt digitB a i := h.run (by decide) h0 (by omega)
  have hv : valAt z i 0 = valAt a i 0 := h.val h0 (by omega)
  generalize hEd : runAt digitB a i = E at hE hr
  have hty : typOf (byteOr0 z E) = typOf (byteOr0 a E) := by
    rcases h.byte (i := E) (by omega) hE.2 with hb | ⟨hb, hb'⟩
    · rw [hb]
    · rw [hb, hb']; rfl
  have htE : typOf (byteOr0 a E) ≠ 1 → E < a.size := fun hne => by
    rcases Int.lt_or_le E a.size with h | h
    · exact h
    · rw [show byteOr0 a E = 0 by unfold byteOr0; rw [if_neg (by omega)]] at hne; exact absurd rfl hne
  have he2 : ∃ e2, e2 = (if typOf (byteOr0 a E) = 1 then E else E + 1) ∧ E ≤ e2 ∧ e2 ≤ a.size := by
    refine ⟨_, rfl, ?_⟩
    split
    · omega
    · rename_i hne; have := htE hne; omega
  obtain ⟨e2, he2, hb1, hb2⟩ := he2
  have hb0 : bt z i = bt a i := h.same i h0 h1
  have hc : (e2 < z.size ∧ (innerB (bt z e2) = true ∨ (65 ≤ bt z e2 ∧ bt z e2 ≤ 90))) ↔ (e2 < a.size ∧ (innerB (bt a e2) = true ∨ (65 ≤ bt a e2 ∧ bt a e2 ≤ 90))) := by
    rcases Int.lt_or_le e2 a.size with hh | hh
    · rw [h.same e2 (by omega) hh]
      exact ⟨fun x => ⟨hh, x.2⟩, fun x => ⟨by omega, x.2⟩⟩
    · refine ⟨fun x => ?_, fun x => by omega⟩
      have he : e2 = a.size := by omega
      rw [he, h.nl] at x
      rcases x.2 with y | y
      · exact absurd y (by decide)
      · exact absurd y (by decide)
  unfold numR
  simp only [hr, hEd, hty, ← he2, hv, hb0, h.cut h0 (by omega : i ≤ e2) hb2]
  exact ite_iff (or_congr Iff.rfl (or_congr Iff.rfl hc)) _ _
theorem Ahead.mark {a z : ByteArray} (h : Ahead a z) {i : Int} (h0 : 0 ≤ i) (h1 : i < a.size) : markN z i = markN a i := by
  have hb0 : bt z i = bt a i := h.same i h0 h1
  rcases h.byte (i := i + 1) (by omega) (by omega) with hb | ⟨hb, hb'⟩
  · unfold markN; rw [hb0, hb]
  · unfold markN
    simp only [hb0, hb, hb']
    by_cases h1 : single (bt a i) = true
    · rw [if_pos h1, if_pos h1]
    · rw [if_neg h1, if_neg h1]
      by_cases h2 : bt a i = 38 ∨ bt a i = 124
      · rw [if_pos h2, if_pos h2, if_neg (by omega), if_neg (by omega)]
      · rw [if_neg h2, if_neg h2]; rfl
theorem Ahead.read {a z : ByteArray} (h : Ahead a z) {i : Int} (h0 : 0 ≤ i) (h1 : i < a.size) : readR z i = readR a i := by
  have hb0 : bt z i = bt a i := h.same i h0 h1
  have hn : nameR z i = nameR a i := by
    have hE := runAt_le (p := innerB) (s := a) (i := i) (by omega)
    unfold nameR
    simp only [h.run (p := innerB) (by decide) h0 (by omega), h.cut h0 hE.1 hE.2]
  have hm : markR z i = markR a i := by
    have hr := markN_range a i
    have hl := markN_le h1
    unfold markR
    rw [h.mark h0 h1, h.cut h0 (by omega) hl]
  unfold readR
  rw [hb0, h.num h0 h1, hn, hm]
theorem Ahead.over {a z : ByteArray} (h : Ahead a z) : ∀ (n : Nat) (r : Bool) (f : Int), 0 ≤ f → f ≤ a.size → (a.size - f).toNat = n →
    (overR a r f < a.size → overR z r f = overR a r f) ∧ (overR a r f = a.size → overR z r f = overAt z (a.size + 1)) := by
  have hlt := h.lt
  intro n
  induction n with
  | zero =>
    intro r f h0 h1 hn
    have hf : f = a.size := by omega
    subst hf
    rw [overR_end (Int.le_refl _)]
    refine ⟨fun h => by omega, fun _ => ?_⟩
    rw [overR_step (by omega), h.nl]
    rw [show remB 10 r = false from rfl]
    rfl
  | succ n ih =>
    intro r f h0 h1 hn
    have hb := h.same f h0 (by omega)
    have st := overR_step (s := a) (r := r) (i := f) (by omega)
    have st' := overR_step (s := z) (r := r) (i := f) (by omega)
    rw [hb] at st'
    split at st
    · rename_i hc
      rw [if_pos hc] at st'
      exact ⟨fun _ => by rw [st, st'], fun e => by omega⟩
    · rename_i hc
      rw [if_neg hc] at st'
      rw [st, st']
      exact ih _ (f + 1) (by omega) (by omega) (by omega)
theorem tokR_over {s : ByteArray} {f g : Int} (h : overAt s f = overAt s g) : tokR s f = tokR s g := by rw [tokR_read, tokR_read, h]
theorem toks_over {s : ByteArray} {f g : Int} (h0 : 0 ≤ f) (h1 : f ≤ s.size) (g0 : 0 ≤ g) (g1 : g ≤ s.size) (h : overAt s f = overAt s g) : toks s f = toks s g := by
  rw [toks_step h0 h1, toks_step g0 g1, tokR_over h]
theorem Ahead.toks {a z : ByteArray} (h : Ahead a z) : ∀ (n : Nat) (f : Int), 0 ≤ f → f ≤ a.size → (a.size - f).toNat = n →
    toks z f = match toks a f with
      | (l, some ep) => (l, some ep)
      | (l, none) => (l.dropLast ++ (Lx.toks z (a.size + 1)).1, (Lx.toks z (a.size + 1)).2) := by
  have hlt := h.lt
  intro n
  induction n using Nat.strongRecOn with
  | _ n ih =>
    intro f h0 h1 hn
    obtain ⟨o1, o2⟩ := h.over n false f h0 h1 hn
    have ho := overAt_le (s := a) h1
    by_cases he : overAt a f = a.size
    · have hz : overAt z f = overAt z (a.size + 1) := o2 he
      rw [toks_end h0 h1 he, toks_over h0 (by omega) (by omega) (by omega) hz]
      simp
    · have hz : overAt z f = overAt a f := o1 (by unfold overAt at he ho; omega)
      have htok : tokR z f = tokR a f := by
        rw [tokR_read, tokR_read, hz, if_neg (by omega), if_neg he, h.read (by omega) (by omega)]
      rw [toks_step h0 (by omega), toks_step h0 h1, htok]
      cases ht : tokR a f with
      | bad e p => rfl
      | ok t =>
        have hk : t.kind ≠ 0 := fun hk => by
          have hat := tok_shape h0 h1 ht
          rcases hat.2.2.2 with ⟨_, hh, _⟩ | ⟨hh, _⟩
          · exact he hh
          · omega
        have hnx := tok_next h0 h1 ht
        have := hnx.2.2 hk
        simp only [hk, if_false]
        have hi := ih (a.size - (t.pos + t.text.size)).toNat (by omega) (t.pos + t.text.size) (by omega) (by omega) rfl
        rw [hi]
        cases hR : Lx.toks a (t.pos + t.text.size) with
        | mk l o =>
          cases o with
          | some ep => rfl
          | none =>
            obtain ⟨t2, r2, hl2, _⟩ := toks_ne (by omega) hnx.1 hR
            simp only [hl2, List.dropLast_cons_cons, List.cons_append]

/-! ### a text behind others -/
structure Behind (b z : ByteArray) (d : Int) : Prop where
  d0 : 0 ≤ d
  size : (z.size : Int) = b.size + d
  same : ∀ k, 0 ≤ k → k < (b.size : Int) → bt z (k + d) = bt b k
theorem Behind.run {b z : ByteArray} {d : Int} (h : Behind b z d) {p : Int → Bool} {i : Int} (h0 : 0 ≤ i) (h1 : i ≤ b.size) : runAt p z (i + d) = runAt p b i + d := by
  have hE := runAt_le (p := p) h1
  have hd := h.d0
  have hs := h.size
  refine runAt_eq (by omega) (by omega) (fun k g0 g1 => ?_) fun hl => ?_
  · rw [show k = k - d + d by omega, h.same (k - d) (by omega) (by omega)]; exact runAt_all (by omega) (by omega) h1
  · rw [h.same _ (by omega) (by omega)]; exact runAt_stops h1 (by omega)
theorem Behind.byte {b z : ByteArray} {d : Int} (h : Behind b z d) {i : Int} (h0 : 0 ≤ i) : byteOr0 z (i + d) = byteOr0 b i := by
  have hs := h.size
  unfold byteOr0
  by_cases hh : i < b.size
  · rw [if_pos (by omega), if_pos hh, h.same i h0 hh]
  · rw [if_neg (by omega), if_neg hh]
theorem Behind.cut {b z : ByteArray} {d : Int} (h : Behind b z d) {i e : Int} (h0 : 0 ≤ i) (h1 : i ≤ e) (h2 : e ≤ b.size) : cut z (i + d) (e + d) = cut b i e := by
  have hd := h.d0
  have hs := h.size
  have hc := cut_move (s := b) (s' := z) (i := i) (i' := i + d) (n := e - i) h0 (by omega) (by omega) (by omega) (by omega) fun k g0 g1 => by
    rw [show i + d + k = i + k + d by omega]; exact h.same _ (by omega) (by omega)
  rwa [show i + (e - i) = e by omega, show i + d + (e - i) = e + d by omega] at hc
theorem Behind.val {b z : ByteArray} {d : Int} (h : Behind b z d) {i : Int} (h0 : 0 ≤ i) (h1 : i ≤ b.size) : valAt z (i + d) 0 = valAt b i 0 := by
  have hd := h.d0
  have hs := h.size
  have hE := runAt_le (p := digitB) h1
  refine valAt_move (E := runAt digitB b i) hE.1 hE.2 (by omega) (fun k g0 g1 => ?_) (fun k g0 g1 => runAt_all g0 g1 h1) (fun hl => runAt_stops h1 hl) (fun hl => ?_) 0
  · rw [show i + d + k = i + k + d by omega]; exact h.same _ (by omega) (by omega)
  · rw [show i + d + (runAt digitB b i - i) = runAt digitB b i + d by omega, h.same _ (by omega) (by omega)]; exact runAt_stops h1 (by omega)
def TR.shift (d : Int) : TR → TR
  | .ok t => .ok ⟨t.kind, t.text, t.typ, t.n, t.pos + d⟩
  | .bad e p => .bad e (p + d)
theorem shift_ite {C : Prop} [Decidable C] {d : Int} {x y : TR} : TR.shift d (if C then x else y) = if C then x.shift d else y.shift d := by split <;> rfl
theorem Behind.num {b z : ByteArray} {d : Int} (h : Behind b z d) {i : Int} (h0 : 0 ≤ i) (h1 : i < b.size) : numR z (i + d) = (numR b i).shift d := by
  have hd := h.d0
  have hs := h.size
  have hE := runAt_le (p := digitB) (s := b) (i := i) (by omega)
  have hr := h.run (p := digitB) (i := i) h0 (by omega)
  have hv := h.val (i := i) h0 (by omega)
  generalize hEd : runAt digitB b i = E at hE hr
  have hby := h.byte (i := E) (by omega)
  have htE : typOf (byteOr0 b E) ≠ 1 → E < b.size := fun hne => by
    rcases Int.lt_or_le E b.size with h | h
    · exact h
    · rw [show byteOr0 b E = 0 by unfold byteOr0; rw [if_neg (by omega)]] at hne; exact absurd rfl hne
  have he2 : ∃ e2, e2 = (if typOf (byteOr0 b E) = 1 then E else E + 1) ∧ (if typOf (byteOr0 b E) = 1 then E + d else E + d + 1) = e2 + d ∧ E ≤ e2 ∧ e2 ≤ b.size := by
    refine ⟨_, rfl, ?_⟩
    split
    · exact ⟨rfl, by omega⟩
    · rename_i hne; have := htE hne; exact ⟨by omega, by omega⟩
  obtain ⟨e2, he2, he2', hb1, hb2⟩ := he2
  have hb0 : bt z (i + d) = bt b i := h.same i h0 h1
  have hc : (e2 + d < z.size ∧ (innerB (bt z (e2 + d)) = true ∨ (65 ≤ bt z (e2 + d) ∧ bt z (e2 + d) ≤ 90))) ↔ (e2 < b.size ∧ (innerB (bt b e2) = true ∨ (65 ≤ bt b e2 ∧ bt b e2 ≤ 90))) := by
    rcases Int.lt_or_le e2 b.size with hh | hh
    · rw [h.same e2 (by omega) hh]
      exact ⟨fun x => ⟨hh, x.2⟩, fun x => ⟨by omega, x.2⟩⟩
    · exact ⟨fun x => by omega, fun x => by omega⟩
  have hdig : (E + d - (i + d) > 1 ∧ bt b i = 48) ↔ (E - i > 1 ∧ bt b i = 48) := by rw [show E + d - (i + d) = E - i by omega]
  unfold numR
  simp only [hr, hEd, hby, he2', ← he2, hv, hb0, h.cut h0 (by omega : i ≤ e2) hb2]
  rw [shift_ite]
  exact ite_iff (or_congr (Iff.refl (valAt b i 0 > 9223372036854775807)) (or_congr hdig hc)) _ _
theorem Behind.read {b z : ByteArray} {d : Int} (h : Behind b z d) {i : Int} (h0 : 0 ≤ i) (h1 : i < b.size) : readR z (i + d) = (readR b i).shift d := by
  have hb0 : bt z (i + d) = bt b i := h.same i h0 h1
  have hn : nameR z (i + d) = (nameR b i).shift d := by
    have hE := runAt_le (p := innerB) (s := b) (i := i) (by omega)
    unfold nameR
    simp only [h.run (p := innerB) (i := i) h0 (by omega), h.cut h0 hE.1 hE.2, show runAt innerB b i + d - (i + d) = runAt innerB b i - i by omega]
    rw [shift_ite]
    rfl
  have hm : markR z (i + d) = (markR b i).shift d := by
    have hr := markN_range b i
    have hl := markN_le h1
    have hmn : markN z (i + d) = markN b i := by
      unfold markN
      rw [hb0, show i + d + 1 = i + 1 + d by omega, h.byte (i := i + 1) (by omega)]
    unfold markR
    rw [hmn, show i + d + markN b i = i + markN b i + d by omega, h.cut h0 (by omega) hl, shift_ite]
    rfl
  unfold readR
  rw [hb0, h.num h0 h1, hn, hm, shift_ite, shift_ite]
theorem Behind.over {b z : ByteArray} {d : Int} (h : Behind b z d) : ∀ (n : Nat) (r : Bool) (f : Int), 0 ≤ f → f ≤ b.size → (b.size - f).toNat = n → overR z r (f + d) = overR b r f + d := by
  have hs := h.size
  intro n
  induction n with
  | zero =>
    intro r f h0 h1 hn
    rw [overR_end (by omega), overR_end (by omega)]
  | succ n ih =>
    intro r f h0 h1 hn
    rw [overR_step (s := b) (by omega), overR_step (s := z) (by omega), h.same f h0 (by omega)]
    split
    · rfl
    · rw [show f + d + 1 = f + 1 + d by omega]
      exact ih _ (f + 1) (by omega) (by omega) (by omega)
theorem Behind.tok {b z : ByteArray} {d : Int} (h : Behind b z d) {f : Int} (h0 : 0 ≤ f) (h1 : f ≤ b.size) : tokR z (f + d) = (tokR b f).shift d := by
  have hs := h.size
  have ho := overAt_le (s := b) h1
  have hz : overAt z (f + d) = overAt b f + d := h.over _ false f h0 h1 rfl
  rw [tokR_read, tokR_read, hz]
  by_cases he : overAt b f = b.size
  · rw [if_pos (by omega), if_pos he]; rfl
  · rw [if_neg (by omega), if_neg he, h.read (by omega) (by omega)]
def Tok.shift (d : Int) (t : Tok) : Tok := ⟨t.kind, t.text, t.typ, t.n, t.pos + d⟩
theorem Behind.toks {b z : ByteArray} {d : Int} (h : Behind b z d) : ∀ (n : Nat) (f : Int), 0 ≤ f → f ≤ b.size → (b.size - f).toNat = n →
    toks z (f + d) = ((toks b f).1.map (Tok.shift d), (toks b f).2.map fun ep => (ep.1, ep.2 + d)) := by
  have hs := h.size
  have hd := h.d0
  intro n
  induction n using Nat.strongRecOn with
  | _ n ih =>
    intro f h0 h1 hn
    rw [toks_step (by omega) (by omega), toks_step h0 h1, h.tok h0 h1]
    cases ht : tokR b f with
    | bad e p => rfl
    | ok t =>
      have hnx := tok_next h0 h1 ht
      simp only [TR.shift]
      by_cases hk : t.kind = 0
      · simp only [hk, if_true]; simp [Tok.shift, hk]
      · have := hnx.2.2 hk
        simp only [hk, if_false]
        have hi := ih (b.size - (t.pos + t.text.size)).toNat (by omega) (t.pos + t.text.size) (by omega) hnx.1 rfl
        rw [show t.pos + d + (t.text.size : Int) = t.pos + t.text.size + d by omega, hi]
        rfl
end Go.Lx
