import Derived.Test.YtlcjphbjddbgkaaLj
import Derived.Test.YtlcjphbjddbgkaaVt
set_option linter.unusedVariables false
set_option linter.unusedSimpArgs false
namespace Go.Lx
open Go.Vc

/-! ### the tokens of a text -/
def toksF (s : ByteArray) : Nat → Int → List Tok × Option (Int × Int)
  | 0, _ => ([], none)
  | n + 1, f => match tokR s f with
    | .bad e p => ([], some (e, p))
    | .ok t => if t.kind = 0 then ([t], none) else (t :: (toksF s n (t.pos + t.text.size)).1, (toksF s n (t.pos + t.text.size)).2)
def toks (s : ByteArray) (f : Int) : List Tok × Option (Int × Int) := toksF s (s.size - f + 1).toNat f
/-- where a token ends -/
theorem tok_next {s : ByteArray} {f : Int} (h0 : 0 ≤ f) (h1 : f ≤ s.size) {t : Tok} (ht : tokR s f = .ok t) : t.pos + t.text.size ≤ s.size ∧ f ≤ t.pos ∧ (t.kind ≠ 0 → f + 1 ≤ t.pos + t.text.size) := by
  have ho := overAt_le (s := s) h1
  rcases tokR_cases h0 h1 with ⟨t', ht', hp, hl, _, hk⟩ | ⟨e, ht', _⟩
  · rw [ht] at ht'; cases ht'
    refine ⟨hl, by omega, fun hne => ?_⟩
    rcases hk with ⟨h, _⟩ | ⟨_, _, h⟩
    · exact absurd h hne
    · omega
  · rw [ht] at ht'; cases ht'
theorem toksF_fuel (s : ByteArray) : ∀ (n n' : Nat) (f : Int), 0 ≤ f → f ≤ s.size → (s.size - f + 1).toNat ≤ n → (s.size - f + 1).toNat ≤ n' → toksF s n f = toksF s n' f
  | 0, n', f, h0, h1, hn, hn' => by omega
  | n + 1, 0, f, h0, h1, hn, hn' => by omega
  | n + 1, n' + 1, f, h0, h1, hn, hn' => by
    unfold toksF
    cases ht : tokR s f with
    | bad e p => rfl
    | ok t =>
      have := tok_next h0 h1 ht
      by_cases hk : t.kind = 0
      · simp [hk]
      · have := this.2.2 hk
        simp only [hk, if_false]
        rw [toksF_fuel s n n' _ (by omega) (by omega) (by omega) (by omega)]
theorem toks_step {s : ByteArray} {f : Int} (h0 : 0 ≤ f) (h1 : f ≤ s.size) : toks s f = match tokR s f with
    | .bad e p => ([], some (e, p))
    | .ok t => if t.kind = 0 then ([t], none) else (t :: (toks s (t.pos + t.text.size)).1, (toks s (t.pos + t.text.size)).2) := by
  unfold toks
  obtain ⟨n, hn⟩ : ∃ n, (s.size - f + 1).toNat = n + 1 := ⟨(s.size - f + 1).toNat - 1, by omega⟩
  rw [hn]
  show (match tokR s f with
    | .bad e p => ([], some (e, p))
    | .ok t => if t.kind = 0 then ([t], none) else (t :: (toksF s n (t.pos + t.text.size)).1, (toksF s n (t.pos + t.text.size)).2)) = _
  cases ht : tokR s f with
  | bad e p => rfl
  | ok t =>
    have := tok_next h0 h1 ht
    by_cases hk : t.kind = 0
    · simp [hk]
    · have := this.2.2 hk
      simp only [hk, if_false]
      rw [toksF_fuel s n _ _ (by omega) (by omega) (by omega) (Nat.le_refl _)]

def tokensR (s : ByteArray) : Except (Int × Int) (List Tok) :=
  if (s.size : Int) > 4096 then .error (110, 0) else match toks s 0 with
    | (l, none) => .ok l
    | (_, some ep) => .error ep
def Tok.enc (t : Tok) : List Value := [.int .u8 t.kind, .string t.text, .int .u8 t.typ, .int .i64 t.n, .int .i64 t.pos]
/-- the tokens are handed back, held still -/
def RetToks (r : Except (Int × Int) (List Tok)) (F : Heap) (e : Ending) (I : Imm) (G : Heap) : Prop :=
  G = F ∧ match r with
    | .ok l => ∃ a n c, e = .returned (.tuple #[.slice a n c, .int .i64 0, .int .i64 0]) ∧ Sl I 5 Tok.enc a n l
    | .error (e', p) => e = .returned (.tuple #[.slice none 0 0, .int .i64 e', .int .i64 p])
def OwnToks (r : Except (Int × Int) (List Tok)) (F : Heap) (e : Ending) (I : Imm) (G : Heap) : Prop :=
  match r with
    | .ok l => ∃ a n c A, e = .returned (.tuple #[.slice a n c, .int .i64 0, .int .i64 0]) ∧ Acc 5 Tok.enc 49 a n c l A ∧ G = A ++ F
    | .error (e', p) => ∃ A, e = .returned (.tuple #[.slice none 0 0, .int .i64 e', .int .i64 p]) ∧ G = A ++ F
theorem OwnToks.keep {f : Nat} {args : Array Value} {I : Imm} {F : Heap} {r : Except (Int × Int) (List Tok)} (h : Tri P f args I F (OwnToks r F)) : Tri P f args I F (RetToks r F) := by
  refine h.keep fun e I' G w hl hs hq => ?_
  unfold OwnToks at hq
  split at hq
  · obtain ⟨a, n, c, A, he, hA, hG⟩ := hq
    subst hG
    obtain ⟨J, h1, h2, h3⟩ := Acc.keep (z := 5) (f := Tok.enc) (fun _ => rfl) hA hs
    exact ⟨J, F, h1, h2, rfl, a, n, c, he, h3⟩
  · obtain ⟨A, he, hG⟩ := hq
    subst hG
    exact ⟨I', F, Imm.le_refl _, hs.drop, rfl, he⟩
theorem tok_one : ∀ (t : Tok), ∀ u ∈ t.enc, u.oneCell' = true := by
  intro t u hu
  simp only [Tok.enc, List.mem_cons, List.not_mem_nil, or_false] at hu
  rcases hu with h | h | h | h | h <;> (subst h; rfl)
/-- one token more -/
theorem append_tok {a : Option Addr} {n c : Nat} {l : List Tok} {A F : Heap} (hA : Acc 5 Tok.enc 49 a n c l A) (hl : l.length ≤ 1000000000) (t : Tok) {b : Nat} {I : Imm} (hb : I b = some (.cells t.enc.toArray 49 (0, 0))) :
    TriE P (Builtin.append_ #[39, 39] 39 #[.slice a n c, .slice (some ⟨b, 0, none⟩) 1 1]) I (A ++ F) fun v I' G => ∃ a' n' c' A', v = .slice a' n' c' ∧ Acc 5 Tok.enc 49 a' n' c' (l ++ [t]) A' ∧ G = A' ++ F := by
  refine (append_spec' (f := Tok.enc) (zv := (zTok 0).v) (fun _ => rfl) (by' := 48) (by kernel_rfl) (by kernel_rfl) rfl (by decide) hA (xs := [t]) (fun x _ => tok_one x) (by simp) rfl ?_ (by simp only [List.length_cons, List.length_nil]; omega)).mono
    fun v I' G _ ⟨a', n', c', A', h1, h2, h3, _⟩ => ⟨a', n', c', A', h1, h2, h3⟩
  exact ⟨rfl, _, _, _, .inl hb, fun j hj => by simp⟩

theorem Tokens_own {s : ByteArray} (hs : Short s) (I : Imm) (F : Heap) : Tri P 11 #[.string s] I F (OwnToks (tokensR s) F) := by
  refine lex_Tokens.vc (fun x_a x_n x_c x x1 a n c f m I' F' => 0 ≤ f ∧ f ≤ s.size ∧ m = (s.size - f).toNat ∧ ∃ l A, Acc 5 Tok.enc 49 a n c l A ∧ F' = A ++ F ∧ l.length ≤ f ∧
    toks s 0 = (l ++ (toks s f).1, (toks s f).2)) ?_
  unfold lex_Tokens.V
  unfold tokensR
  refine ⟨fun h => ?_, fun h => ?_⟩
  · rw [if_pos (of_decide_eq_true h)]
    exact ⟨[], rfl, rfl⟩
  have h := of_decide_eq_false h
  rw [if_neg h]
  refine ⟨⟨_, by omega, by omega, rfl, [], [], Acc.nil, rfl, by decide, rfl⟩, ?_⟩
  intro x_a x_n x_c x x1 a n c f m I1 F1 hI1 ⟨h0, h1, gm, l, A, hA, hF, hl, ht⟩
  subst hF
  rw [toks_step h0 h1] at ht
  refine Tri.ret (token_spec hs h0 h1 I1 _) fun I2 hI2 => ?_
  rcases tokR_cases h0 h1 with ⟨t, htok, htat⟩ | ⟨e, htok, he⟩
  · rw [htok] at ht ⊢
    have hnx := tok_next h0 h1 htok
    refine ⟨_, _, _, _, _, _, rfl, _, .refl _, fun b_t => ⟨fun h => absurd h (by decide), fun _ => ?_⟩⟩
    intro b I3 hI3 hb
    refine TriE.perm ((append_tok hA (by omega) t hb (F := (b_t, _) :: F)).mono fun v I4 G2 hI4 ⟨a', n', c', A', hv, hA', hG⟩ => ?_) List.perm_middle.symm
    subst hG
    refine ⟨_, _, _, hv, A' ++ F, List.perm_middle, fun hk => ?_, fun hk => ?_⟩
    · have hk : t.kind = 0 := by simpa using hk
      simp only [hk, if_true] at ht
      rw [ht]
      exact ⟨_, _, _, _, rfl, hA', rfl⟩
    · have hk : t.kind ≠ 0 := by simpa using hk
      have := hnx.2.2 hk
      simp only [hk, if_false] at ht
      rw [w64 (by omega)]
      refine ⟨_, ?_, by omega, by omega, rfl, _, _, hA', rfl, ?_, ?_⟩
      · omega
      · rw [List.length_append, List.length_singleton]; omega
      · rw [ht, List.append_assoc]; rfl
  · rw [htok] at ht ⊢
    refine ⟨_, _, _, _, _, _, rfl, _, .refl _, fun b_t => ⟨fun _ => ?_, fun h => ?_⟩⟩
    · rw [ht]
      exact ⟨A, rfl, rfl⟩
    · rcases he with rfl | rfl | rfl <;> exact absurd h (by decide)

theorem Tokens_spec {s : ByteArray} (hs : Short s) (I : Imm) (F : Heap) : Tri P 11 #[.string s] I F (RetToks (tokensR s) F) := OwnToks.keep (Tokens_own hs I F)
/-- what the reference's first part hands back: all tokens ahead of a fault, and the fault -/
def OwnBegin (r : List Tok × Option (Int × Int)) (F : Heap) (e : Ending) (I : Imm) (G : Heap) : Prop :=
  ∃ a n c A, e = .returned (.tuple #[.slice a n c, .int .i64 ((r.2.map Prod.fst).getD 0), .int .i64 ((r.2.map Prod.snd).getD 0)]) ∧ Acc 5 Tok.enc 49 a n c r.1 A ∧ G = A ++ F
theorem Begin_spec {s : ByteArray} (hs : Short s) (hs2 : (s.size : Int) ≤ 1000000000) (I : Imm) (F : Heap) : Tri P 28 #[.string s] I F (OwnBegin (toks s 0) F) := by
  refine ref11_Begin.vc (fun x_a x_n x_c x x1 a n c f m I' F' => 0 ≤ f ∧ f ≤ s.size ∧ m = (s.size - f).toNat ∧ ∃ l A, Acc 5 Tok.enc 49 a n c l A ∧ F' = A ++ F ∧ l.length ≤ f ∧
    toks s 0 = (l ++ (toks s f).1, (toks s f).2)) ?_
  unfold ref11_Begin.V
  have h : True := trivial
  refine ⟨⟨_, by omega, by omega, rfl, [], [], Acc.nil, rfl, by decide, rfl⟩, ?_⟩
  intro x_a x_n x_c x x1 a n c f m I1 F1 hI1 ⟨h0, h1, gm, l, A, hA, hF, hl, ht⟩
  subst hF
  rw [toks_step h0 h1] at ht
  refine Tri.ret (One_spec hs h0 h1 I1 _) fun I2 hI2 => ?_
  rcases tokR_cases h0 h1 with ⟨t, htok, htat⟩ | ⟨e, htok, he⟩
  · rw [htok] at ht ⊢
    have hnx := tok_next h0 h1 htok
    refine ⟨_, _, _, _, _, _, _, rfl, _, .refl _, fun b_t => ⟨fun h => absurd h (by decide), fun _ => ?_⟩⟩
    intro b I3 hI3 hb
    refine TriE.perm ((append_tok hA (by omega) t hb (F := (b_t, _) :: F)).mono fun v I4 G2 hI4 ⟨a', n', c', A', hv, hA', hG⟩ => ?_) List.perm_middle.symm
    subst hG
    refine ⟨_, _, _, hv, A' ++ F, List.perm_middle, fun hk => ?_, fun hk => ?_⟩
    · have hk : t.kind = 0 := by simpa using hk
      simp only [hk, if_true] at ht
      rw [ht]
      exact ⟨_, _, _, _, rfl, hA', rfl⟩
    · have hk : t.kind ≠ 0 := by simpa using hk
      have := hnx.2.2 hk
      simp only [hk, if_false] at ht
      rw [w64 (by omega)]
      refine ⟨_, ?_, by omega, by omega, rfl, _, _, hA', rfl, ?_, ?_⟩
      · omega
      · rw [List.length_append, List.length_singleton]; omega
      · rw [ht, List.append_assoc]; rfl
  · rw [htok] at ht ⊢
    refine ⟨_, _, _, _, _, _, _, rfl, _, .refl _, fun b_t => ⟨fun _ => ?_, fun h => ?_⟩⟩
    · rw [ht]
      exact ⟨_, _, _, A, rfl, by simpa using hA, rfl⟩
    · rcases he with rfl | rfl | rfl <;> exact absurd h (by decide)
theorem toks_err {s : ByteArray} : ∀ (n : Nat) (f : Int), 0 ≤ f → f ≤ s.size → ∀ e p, (toksF s n f).2 = some (e, p) → (e != 0) = true
  | 0, f, _, _, e, p, h => by simp [toksF] at h
  | n + 1, f, h0, h1, e, p, h => by
    unfold toksF at h
    rcases tokR_cases h0 h1 with ⟨t, htok, htat⟩ | ⟨e', htok, he⟩
    · rw [htok] at h
      have hnx := tok_next h0 h1 htok
      by_cases hk : t.kind = 0
      · simp [hk] at h
      · simp only [hk, if_false] at h
        exact toks_err n _ (by omega) (by omega) e p h
    · rw [htok] at h
      simp only [Option.some.injEq, Prod.mk.injEq] at h
      rcases he with he | he | he <;> (rw [← h.1, he]; rfl)
theorem rTokens_spec {s : ByteArray} (hs : Short s) (I : Imm) (F : Heap) : Tri P 12 #[.string s] I F (RetToks (tokensR s) F) := by
  refine OwnToks.keep ?_
  refine ref11_Tokens.vc ?_
  unfold ref11_Tokens.V
  unfold tokensR
  refine ⟨fun h => ?_, fun h => ?_⟩
  · rw [if_pos (of_decide_eq_true h)]
    exact ⟨[], rfl, rfl⟩
  have h := of_decide_eq_false h
  rw [if_neg h]
  refine (Begin_spec hs (by omega) I F).mono fun e I1 G hI ⟨a, n, c, A, he, hA, hG⟩ => ?_
  subst hG
  refine ⟨_, _, _, _, _, he, _, .refl _, fun h => ?_, fun h => ?_⟩
  · cases ht : (toks s 0).2 with
    | none => rw [ht] at h; cases h
    | some ep =>
      have : toks s 0 = ((toks s 0).1, some ep) := by rw [← ht]
      rw [this]
      exact ⟨A, rfl, rfl⟩
  · cases ht : (toks s 0).2 with
    | none =>
      have : toks s 0 = ((toks s 0).1, none) := by rw [← ht]
      rw [this]
      exact ⟨_, _, _, A, rfl, hA, rfl⟩
    | some ep =>
      have := toks_err _ 0 (by omega) (by omega) ep.1 ep.2 ht
      rw [ht] at h
      simp only [Option.map_some, Option.getD_some] at h
      rw [this] at h; cases h
end Go.Lx
