import Derived.Test.YtlcjphbjddbgkaaLp
import Derived.Test.YtlcjphbjddbgkaaVx6
set_option linter.unusedVariables false
set_option linter.unusedSimpArgs false
namespace Go.Lx
open Go.Vc

theorem ownWhole_nil : OwnCall 42 ⟨none, 0, 0⟩ [] := by
  intro I F
  refine ref00_ownWhole.vc (fun i m I0 F0 I' F' => i = 0 ∧ F' = F) (fun _ k m I0 F0 I' F' => False) (fun a n c i m I0 F0 I' F' => i = 0 ∧ F' = F) (fun _ _ _ _ _ _ _ _ _ _ _ _ _ => False)
    (fun _ _ _ x i m I0 F0 I' F' => i = 0 ∧ F' = F) (fun _ _ _ _ _ _ _ _ _ _ _ _ => False) (fun _ _ _ _ _ _ _ _ _ _ _ _ => False) ?_
  unfold ref00_ownWhole.V
  refine ⟨⟨0, rfl, rfl⟩, fun i m1 I1 F1 _ ⟨hi, hF⟩ => ?_⟩
  subst hi hF
  refine ⟨fun h => absurd h (by decide), fun _ => ⟨⟨0, rfl, rfl⟩, fun a n c i m7 I4 F4 _ ⟨hi, hF⟩ => ?_⟩⟩
  subst hi hF
  refine ⟨fun h => absurd h (by decide), fun _ => ⟨⟨0, rfl, rfl⟩, fun x i m I11 F9 _ ⟨hi, hF⟩ => ?_⟩⟩
  subst hi hF
  exact ⟨fun h => absurd h (by decide), fun _ => ⟨rfl, rfl⟩⟩

/-- a book of lists of tokens alone -/
def tokRows (r : Row) (k : Nat) : Row := if k = 0 then r else ⟨none, 0, 0⟩
theorem TreesOwn_tok {r : Row} {rs : List Row} {ls : List (List (Ck 5))} {Al H F : Heap} {b : Nat} {I : Imm} (hA : Acc 1 Row.enc 39 r.a r.n r.c rs Al) (hH : RowsH 5 49 rs ls H) (hb : Bd ls) (hl : rs.length ≤ 1000000000) :
    Tri P 15 #[.pointer (some ⟨b, 0, none⟩)] I ((b, Obj.cells (treeCells (tokRows r)) 37 (0, 0)) :: ((Al ++ H) ++ F)) fun e I' G => e = .returned (.bool true) ∧ G = F :=
  TreesOwn_spec (rw := tokRows r) (Hs := fun k => if k = 0 then Al ++ H else []) (own_call ownTokens_spec hA hH hb hl) (own_nil ownNodes_spec) (own_nil ownRegs_spec) (own_nil ownSlots_spec) (own_nil ownDos_spec)
    (own_nil ownRules_spec) (own_nil ownStates_spec) (own_nil ownInstrs_spec) (own_nil ownRows_spec) (own_nil ownGuards_spec) ownWhole_nil ownLongs_nil

def tokCk (t : Tok) : Ck 5 := ⟨t.enc, rfl⟩
theorem Acc.ck {a : Option Addr} {n c e : Nat} {l : List Tok} {A : Heap} (h : Acc 5 Tok.enc e a n c l A) : Acc 5 cv e a n c (l.map tokCk) A := by
  have hf : (l.map tokCk).flatMap cv = l.flatMap Tok.enc := by
    induction l with
    | nil => rfl
    | cons x l ih =>
      rw [List.map_cons, List.flatMap_cons, List.flatMap_cons]
      congr 1
      have : ∀ l : List Tok, (l.map tokCk).flatMap cv = l.flatMap Tok.enc := by
        intro l
        induction l with
        | nil => rfl
        | cons y l ih => rw [List.map_cons, List.flatMap_cons, List.flatMap_cons, ih]; rfl
      exact this l
  obtain ⟨hn, ⟨h1, h2, h3, h4⟩ | ⟨b, cells, h1, h2, h3, h4, h5⟩⟩ := h
  · exact ⟨by rw [List.length_map]; exact hn, .inl ⟨h1, h2, by rw [h3]; rfl, h4⟩⟩
  · exact ⟨by rw [List.length_map]; exact hn, .inr ⟨b, cells, h1, h2, h3, h4, by rw [h5, hf]⟩⟩
theorem RowsH.snoc {z e : Nat} : ∀ {rs : List Row} {ls : List (List (Ck z))} {H : Heap} {r : Row} {l : List (Ck z)} {A : Heap}, RowsH z e rs ls H → Acc z cv e r.a r.n r.c l A → RowsH z e (rs ++ [r]) (ls ++ [l]) (H ++ A)
  | [], [], H, r, l, A, h, hA => by
    have : H = [] := h
    subst this
    exact ⟨A, [], by simp, hA, rfl⟩
  | r0 :: rs, l0 :: ls, H, r, l, A, ⟨B, H', hH, hB, hR⟩, hA => by
    subst hH
    exact ⟨B, H' ++ A, by rw [List.append_assoc], hB, RowsH.snoc hR hA⟩
  | [], _ :: _, _, _, _, _, h, _ => h.elim
  | _ :: _, [], _, _, _, _, h, _ => h.elim
theorem toksF_len (s : ByteArray) : ∀ (n : Nat) (f : Int), (toksF s n f).1.length ≤ n
  | 0, f => Nat.le_refl _
  | n + 1, f => by
    unfold toksF
    cases tokR s f with
    | bad e p => simp
    | ok t =>
      simp only
      split
      · simp
      · simp only [List.length_cons]; exact Nat.succ_le_succ (toksF_len s n _)
theorem tokensR_len {s : ByteArray} {l : List Tok} (h : tokensR s = .ok l) : l.length ≤ 4097 := by
  unfold tokensR at h
  split at h
  · cases h
  · rename_i hs
    have hl := toksF_len s ((s.size : Int) - 0 + 1).toNat 0
    split at h
    · rename_i l' hl'
      cases h
      unfold toks at hl'
      rw [hl'] at hl
      simp only at hl
      omega
    · cases h

/-- the tokens are their owner's -/
def OwnToks' (r : Except (Int × Int) (List Tok)) (F : Heap) (e : Ending) (I : Imm) (G : Heap) : Prop :=
  match r with
    | .ok l => ∃ a n c A, e = .returned (.tuple #[.slice a n c, .int .i64 0, .int .i64 0]) ∧ Acc 5 Tok.enc 49 a n c l A ∧ G = A ++ F
    | .error (e', p) => e = .returned (.tuple #[.slice none 0 0, .int .i64 e', .int .i64 p]) ∧ G = F
theorem Tokens_own' {s : ByteArray} (hs : Short s) (I : Imm) (F : Heap) : Tri P 11 #[.string s] I F (OwnToks' (tokensR s) F) := by
  refine (Tokens_own hs I F).keep fun e I' G w hl hsat hq => ?_
  cases hR : tokensR s with
  | ok l => rw [hR] at hq; exact ⟨I', G, Imm.le_refl _, hsat, hq⟩
  | error ep =>
    rw [hR] at hq
    obtain ⟨A, he, hG⟩ := hq
    subst hG
    exact ⟨I', F, Imm.le_refl _, hsat.drop, he, rfl⟩
theorem Bd.snoc {z : Nat} {ls : List (List (Ck z))} (h : Bd ls) {l : List (Ck z)} (hl : l.length ≤ 1000000000) : Bd (ls ++ [l]) := by
  intro j l' hj
  rw [List.getElem?_append] at hj
  split at hj
  · exact h j l' hj
  · have := List.mem_of_getElem? hj
    rw [List.mem_singleton] at this
    rw [this]; exact hl

theorem LexTokens_spec (s other : ByteArray) (I : Imm) (F : Heap) : Tri P 3 #[.string s, .string other] I F fun e I' G => e = .returned (.bool true) := by
  refine law11_LexTokens.vc (fun up bk ta tn tc x i m I0 F0 I' F' => 0 ≤ i ∧ i ≤ 3 ∧ m = (3 - i).toNat ∧ ∃ b, bk = some ⟨b, 0, none⟩ ∧ ∃ r rs ls Al H, F'.Perm ((b, Obj.cells (treeCells (tokRows r)) 37 (0, 0)) :: ((Al ++ H) ++ F)) ∧
    Acc 1 Row.enc 39 r.a r.n r.c rs Al ∧ RowsH 5 49 rs ls H ∧ Bd ls ∧ (rs.length : Int) = i) ?_
  unfold law11_LexTokens.V
  refine Tri.ret (awake_spec I F) fun I1 hI1 => ⟨_, rfl, _, .refl _, fun h => by (cases h), fun _ => ⟨fun _ => rfl, fun hs => ⟨fun _ => rfl, fun ho => ?_⟩⟩⟩
  have hs : Short s := short_small (by have := of_decide_eq_false hs; omega)
  have ho : Short other := short_small (by have := of_decide_eq_false ho; omega)
  intro b b1 I2 hI2 hb1
  have hSl : Sl I2 1 encS (some ⟨b1, 0, none⟩) 3 [s, other, s] := Sl.of_cells (f := encS) (z := 1) (l := [s, other, s]) (fun _ => rfl) hb1 rfl
  refine ⟨⟨_, by omega, by omega, rfl, b, rfl, ⟨none, 0, 0⟩, [], [], [], [], .refl _, Acc.nil, rfl, fun j l h => by simp at h, rfl⟩, ?_⟩
  intro x i m I3 F2 hI3 ⟨i0, i1, im, b', hb', r, rs, ls, Al, H, hp, hA, hH, hbd, hrl⟩
  obtain rfl : b = b' := by simpa using hb'
  refine ⟨fun hlt => ?_, fun hlt => ?_⟩
  · have hlt := of_decide_eq_true hlt
    obtain ⟨ad, t, had, ht, hrd⟩ := (hSl.mono hI3).at (i := i) i0 (by omega)
    have hts : Short t := by
      have := List.mem_of_getElem? ht
      simp only [List.mem_cons, List.not_mem_nil, or_false] at this
      rcases this with h | h | h <;> (subst h; assumption)
    refine ⟨⟨i0, hlt⟩, ad, had, t, hrd _, ?_⟩
    -- what is common: the row that comes out is put into the book
    have fin : ∀ (a : Option Addr) (n c : Nat) (l : List (Ck 5)) (A : Heap) (I6 : Imm) (F5 : Heap), Acc 5 cv 49 a n c l A → l.length ≤ 1000000000 → F5.Perm (A ++ F2) →
        Tri P 14 #[.pointer (some ⟨b, 0, none⟩), .slice a n c] I6 F5 fun e5 I7 G5 => e5 = .returned (.tuple #[]) ∧ ∃ F6 : Heap, G5.Perm F6 ∧ (∃ m4 : Nat, m4 < m ∧ (0 ≤ IntKind.wrap .i64 (i + 1) ∧ IntKind.wrap .i64 (i + 1) ≤ 3 ∧ m4 = (3 - IntKind.wrap .i64 (i + 1)).toNat ∧
          ∃ b_1, (some (⟨b, 0, none⟩ : Addr)) = some ⟨b_1, 0, none⟩ ∧ ∃ r rs ls Al H, F6.Perm ((b_1, Obj.cells (treeCells (tokRows r)) 37 (0, 0)) :: ((Al ++ H) ++ F)) ∧
          Acc 1 Row.enc 39 r.a r.n r.c rs Al ∧ RowsH 5 49 rs ls H ∧ Bd ls ∧ (rs.length : Int) = IntKind.wrap .i64 (i + 1))) := by
      intro a n c l A I6 F5 hAc hlen hp5
      have hperm : F5.Perm ((b, Obj.cells (treeCells (tokRows r)) 37 (0, 0)) :: (Al ++ (A ++ (H ++ F)))) := by
        refine hp5.trans ((List.Perm.append_left A hp).trans (List.perm_middle.trans (List.Perm.cons _ ?_)))
        rw [List.append_assoc]
        exact List.perm_append_comm_assoc A Al (H ++ F)
      refine Tri.perm ((TreesTokens_spec (rw := tokRows r) (r := ⟨a, n, c⟩) (R := A ++ (H ++ F)) hA (by omega) I6).mono fun e I7 G hI7 ⟨he, r', Al', hA', hG⟩ => ?_) hperm
      refine ⟨he, G, .refl _, m - 1, by omega, ?_⟩
      rw [w64 (by omega)]
      refine ⟨by omega, by omega, by omega, b, rfl, r', _, ls ++ [l], Al', H ++ A, ?_, hA', RowsH.snoc hH hAc, hbd.snoc hlen, ?_⟩
      · refine hG.trans (List.Perm.cons _ ?_)
        rw [List.append_assoc]
        refine List.Perm.append_left Al' ?_
        rw [List.append_assoc]
        exact List.perm_append_comm_assoc A H F
      · rw [List.length_append, List.length_singleton]; omega
    have htk := Tokens_own' hts I3 F2
    have hrt := fun I4 F3 => rTokens_spec hts I4 F3
    cases hR : tokensR t with
    | ok l =>
      rw [hR] at htk hrt
      have hl := tokensR_len hR
      refine htk.mono fun e I4 G hI4 ⟨a, n, c, A, he, hAc, hG⟩ => ?_
      subst hG
      refine ⟨_, _, _, _, _, he, _, .refl _, ⟨i0, hlt⟩, ad, had, t, (hrd _).mono hI4, ?_⟩
      refine (hrt I4 _).mono fun e I5 G hI5 ⟨hG, a2, n2, c2, he2, hS2⟩ => ?_
      subst hG
      refine ⟨_, _, _, _, _, he2, _, .refl _, ?_⟩
      refine Tri.ret (SameTokens_spec (l := l) (Acc.slg (z := 5) (f := Tok.enc) (fun _ => rfl) hAc I5 fun x hx => List.mem_append_left _ hx) (hS2.slg _) (by omega)) fun I6 hI6 => ⟨_, rfl, _, .refl _, fun h => by (cases h), fun _ => ⟨fun h => by simp at h, fun _ => ⟨fun h => by simp at h, fun _ => ?_⟩⟩⟩
      exact fin a n c _ A I6 _ (Acc.ck hAc) (by rw [List.length_map]; omega) (.refl _)
    | error ep =>
      obtain ⟨er, pl⟩ := ep
      rw [hR] at htk hrt
      refine htk.mono fun e I4 G hI4 ⟨he, hG⟩ => ?_
      subst hG
      refine ⟨_, _, _, _, _, he, _, .refl _, ⟨i0, hlt⟩, ad, had, t, (hrd _).mono hI4, ?_⟩
      refine (hrt I4 _).mono fun e I5 G hI5 ⟨hG, he2⟩ => ?_
      subst hG
      refine ⟨_, _, _, _, _, he2, _, .refl _, ?_⟩
      refine Tri.ret (SameTokens_spec (l := []) ⟨rfl, fun h => absurd rfl h⟩ ⟨rfl, fun h => absurd rfl h⟩ (by decide)) fun I6 hI6 => ⟨_, rfl, _, .refl _, fun h => by (cases h), fun _ => ⟨fun h => by simp at h, fun _ => ⟨fun h => by simp at h, fun _ => ?_⟩⟩⟩
      exact fin none 0 0 [] [] I6 _ Acc.nil (by decide) (.refl _)
  · -- they are their owner's, and come out alike once more
    refine Tri.perm ((TreesOwn_tok hA hH hbd (by omega)).mono fun e I8 G hI8 ⟨he, hG⟩ => ?_) hp
    subst hG
    refine ⟨_, he, _, .refl _, ?_⟩
    have htk := fun I F => Tokens_spec hs I F
    have hrt := fun I F => rTokens_spec hs I F
    cases hR : tokensR s with
    | ok l =>
      simp only [hR] at htk hrt
      have hl := tokensR_len hR
      refine (htk I8 _).mono fun e I9 G hI9 ⟨hG, a, n, c, he, hS⟩ => ?_
      subst hG
      refine ⟨_, _, _, _, _, he, _, .refl _, ?_⟩
      refine (hrt I9 _).mono fun e I10 G hI10 ⟨hG, a2, n2, c2, he2, hS2⟩ => ?_
      subst hG
      refine ⟨_, _, _, _, _, he2, _, .refl _, ?_⟩
      refine Tri.ret (SameTokens_spec (l := l) ((hS.mono hI10).slg _) (hS2.slg _) (by omega)) fun I11 hI11 => ⟨_, rfl, _, .refl _, fun _ => ⟨fun _ => by simp, fun h => by (cases h)⟩, fun h => by (cases h)⟩
    | error ep =>
      obtain ⟨er, pl⟩ := ep
      simp only [hR] at htk hrt
      refine (htk I8 _).mono fun e I9 G hI9 ⟨hG, he⟩ => ?_
      subst hG
      refine ⟨_, _, _, _, _, he, _, .refl _, ?_⟩
      refine (hrt I9 _).mono fun e I10 G hI10 ⟨hG, he2⟩ => ?_
      subst hG
      refine ⟨_, _, _, _, _, he2, _, .refl _, ?_⟩
      refine Tri.ret (SameTokens_spec (l := []) ⟨rfl, fun h => absurd rfl h⟩ ⟨rfl, fun h => absurd rfl h⟩ (by decide)) fun I11 hI11 => ⟨_, rfl, _, .refl _, fun _ => ⟨fun _ => by simp, fun h => by (cases h)⟩, fun h => by (cases h)⟩
end Go.Lx
