import Derived.Test.YtlcjphbjddbgkaaMa
import Derived.Test.YtlcjphbjddbgkaaLp
import Derived.Test.YtlcjphbjddbgkaaLl
set_option linter.unusedVariables false
set_option linter.unusedSimpArgs false
namespace Go.Lx
open Go.Vc

theorem nil73 {x : Operand} {f : Fn} {a b : Array Value} : BinRun P .eql 73 x (.const .nilFunc) (.func f a b) .nilFunc false := func_nil' (by kernel_rfl)
theorem take_snoc {α : Type} {l : List α} {k : Nat} {x : α} (h : l[k]? = some x) : l.take (k + 1) = l.take k ++ [x] := by
  obtain ⟨hk, rfl⟩ := List.getElem?_eq_some_iff.1 h
  rw [List.take_succ_eq_append_getElem hk]
theorem goT_len (s : ByteArray) (hs : Short s) : ((walkT s).length : Int) ≤ s.size := by
  unfold walkT
  split
  · simp
  · have key : ∀ (n : Nat) (f : Int), 0 ≤ f → f ≤ s.size → (s.size - f).toNat = n → ((goT s f).length : Int) ≤ s.size - f := by
      intro n
      induction n using Nat.strongRecOn with
      | ind n ih =>
        intro f h0 h1 hn
        rw [goT_step h0 h1]
        rcases tokR_cases h0 h1 with ⟨t, htok, _⟩ | ⟨e, htok, _⟩
        · rw [htok]
          have hnx := tok_next h0 h1 htok
          by_cases hk : t.kind = 0
          · simp only [hk, if_true, List.length_nil]; omega
          · simp only [hk, if_false, List.length_cons]
            have := hnx.2.2 hk
            have := ih _ (by omega) (t.pos + t.text.size) (by omega) (by omega) rfl
            omega
        · rw [htok]; simp only [List.length_nil]; omega
    exact Int.le_trans (key _ 0 (by omega) (by omega) rfl) (by omega)
abbrev cI (b : Nat) (n : Int) : Nat × Obj := (b, .cells #[.int .i64 n] 3 (0, 0))
abbrev cS (b : Nat) (a : Option Addr) (n c : Nat) : Nat × Obj := (b, .cells #[.slice a n c] 39 (0, 0))
theorem some_spec {s : ByteArray} (hs : Short s) (hs2 : (s.size : Int) ≤ 4194304) {most : Int} (hm : (s.size : Int) < most) (I : Imm) (F : Heap) :
    Tri P 30 #[.string s, .int .i64 most] I F fun e I' G => ∃ a n c A, e = .returned (.slice a n c) ∧ Acc 5 Tok.enc 49 a n c (walkT s) A ∧ G = A ++ F := by
  have hlen := goT_len s hs
  refine Tri.keep (Q := fun e I' G => ∃ a n c A, e = .returned (.slice a n c) ∧ Acc 5 Tok.enc 49 a n c (walkT s) A ∧ G.Perm (A ++ F)) ?_ fun e I' G w hl hsat ⟨a, n, c, A, he, hA, hp⟩ => ⟨I', _, Imm.le_refl _, hsat.perm hp, a, n, c, A, he, hA, rfl⟩
  refine law11_some.vc ?_
  unfold law11_some.V
  intro b_most b_l
  refine (All_spec s I _).mono fun e I1 G hI1 ⟨b, he, hb, hG⟩ => ?_
  subst hG
  refine ⟨_, _, _, he, F, .refl _, false, nil73, fun h => by (cases h), fun _ => ?_⟩
  intro Y L Lb Lx D hTr
  refine (All_iter hs hb Y #[] #[] (fun k I' G => ∃ a n c A, G.Perm (cI b_most most :: cS b_l a n c :: (L ++ (A ++ F))) ∧ Acc 5 Tok.enc 49 a n c ((walkT s).take k) A) (fun _ _ => False) I1 _ (Imm.le_refl _) ?_ (fun _ _ _ _ h => h.elim) ?_ ?_).mono ?_
  · exact fun k I2 I3 F' F'' ⟨a, n, c, A, hp, hA⟩ _ hp' => ⟨a, n, c, A, hp'.symm.trans hp, hA⟩
  · intro k t I2 F2 hk hle ⟨a, n, c, A, hp, hA⟩
    refine TriV.perm (hTr t.kind t.text t.typ t.n t.pos a n c I2 (A ++ F) _ hle ?_) hp
    intro b_t
    have hn : n = ((walkT s).take k).length := hA.1
    have hnk : n ≤ (walkT s).length := by rw [hn, List.length_take]; omega
    refine ⟨A ++ F, .refl _, fun h => ?_, fun _ => ?_⟩
    · exact absurd h (by simp; omega)
    intro b1 I4 hI4 hb1
    refine TriE.perm ((append_tok hA (by omega) t hb1).mono fun v I5 G hI5 ⟨a', n', c', A', hv, hA', hG⟩ => ?_)
      out3
    subst hG
    refine ⟨a', n', c', hv, Lb ++ (A' ++ F), out3.symm, A' ++ F, .refl _, .inl ⟨rfl, a', n', c', A', .refl _, ?_⟩⟩
    rw [take_snoc hk]; exact hA'
  · exact ⟨none, 0, 0, [], .refl _, Acc.nil⟩
  · intro e I6 G hI6 ⟨r, he, hq⟩
    rcases hq with ⟨a, n, c, A, hp, hA⟩ | hq
    · rw [List.take_length] at hA
      exact ⟨r, he, .inl ⟨a, n, c, A ++ F, hp, _, .refl _, a, n, c, A, rfl, hA, .refl _⟩⟩
    · exact hq.elim

theorem toksF_lenA (s : ByteArray) : ∀ (n : Nat) (f : Int), (toksF s n f).1.length ≤ n
  | 0, f => Nat.le_refl _
  | n + 1, f => by
    unfold toksF
    cases tokR s f with
    | bad e p => simp
    | ok t =>
      simp only
      split
      · simp
      · simp only [List.length_cons]; exact Nat.succ_le_succ (toksF_lenA s n _)
theorem toks_pre (s : ByteArray) : ∀ (n : Nat) (f : Int), ∃ pre : List Tok, (∀ t ∈ pre, (t.kind != 0) = true) ∧ ((toksF s n f).1 = pre ∨ ∃ z, z.kind = 0 ∧ (toksF s n f).1 = pre ++ [z])
  | 0, f => ⟨[], by simp, .inl rfl⟩
  | n + 1, f => by
    unfold toksF
    cases tokR s f with
    | bad e p => exact ⟨[], by simp, .inl rfl⟩
    | ok t =>
      by_cases hk : t.kind = 0
      · exact ⟨[], by simp, .inr ⟨t, hk, by simp [hk]⟩⟩
      · obtain ⟨pre, h1, h2⟩ := toks_pre s n (t.pos + t.text.size)
        refine ⟨t :: pre, fun u hu => ?_, ?_⟩
        · rcases List.mem_cons.1 hu with rfl | hu
          · simpa using hk
          · exact h1 u hu
        · simp only [hk, if_false]
          rcases h2 with h2 | ⟨z, hz, h2⟩
          · exact .inl (by rw [h2])
          · exact .inr ⟨z, hz, by rw [h2]; rfl⟩
theorem all_tw {α : Type} {p : α → Bool} : ∀ {l : List α}, (∀ x ∈ l, p x = true) → ∀ m, (l ++ m).takeWhile p = l ++ m.takeWhile p
  | [], _, m => rfl
  | x :: l, h, m => by
    rw [List.cons_append, List.takeWhile_cons, h x (List.mem_cons_self ..), if_pos rfl, all_tw (fun y hy => h y (List.mem_cons_of_mem _ hy)) m]; rfl
/-- what the law wants, and what of it the iterator goes through -/
def wantL (s : ByteArray) : List Tok := if (s.size : Int) ≤ 4096 then (toks s 0).1 else []
theorem want_cases (s : ByteArray) : (wantL s = walkT s ∧ ∀ t ∈ walkT s, t.kind ≠ 0) ∨ ∃ z, z.kind = 0 ∧ wantL s = walkT s ++ [z] := by
  unfold wantL walkT goT
  by_cases h : (s.size : Int) ≤ 4096
  · rw [if_pos h, if_neg (by omega)]
    unfold toks
    obtain ⟨pre, h1, h2⟩ := toks_pre s ((s.size : Int) - 0 + 1).toNat 0
    have h3 := all_tw h1 []
    rw [List.append_nil] at h3
    rcases h2 with h2 | ⟨z, hz, h2⟩
    · left
      rw [h2, h3]
      simp only [List.takeWhile_nil, List.append_nil]
      exact ⟨trivial, fun t ht => by simpa using h1 t ht⟩
    · right
      refine ⟨z, hz, ?_⟩
      rw [h2, all_tw h1]
      simp [hz]
  · rw [if_neg h, if_pos (by omega)]
    exact .inl ⟨rfl, by simp⟩
/-- the blocks of LexAlls -/
def hA (b : Nat) (bw : Nat) (a : Option Addr) (n c : Nat) (bn : Nat) (nv : Int) (bt : Nat) (f : Value) (bi : Nat) (k : Int) (G : Heap) : Heap :=
  (b, .cells #[.bool false] 4 (0, 0)) :: (bw, .cells #[.slice a n c] 39 (0, 0)) :: (bn, .cells #[.int .i64 nv] 3 (0, 0)) :: (bt, .cells #[f] 73 (0, 0)) :: (bi, .cells #[.int .i64 k] 3 (0, 0)) :: G
def hB (b : Nat) (bw : Nat) (a : Option Addr) (n c : Nat) (bn : Nat) (nv : Int) (bt : Nat) (f : Value) (bi : Nat) (k : Int) (bx : Nat) (t : Tok) (bk : Nat) (k2 : Int) (G : Heap) : Heap :=
  hA b bw a n c bn nv bt f bi k ((bx, .cells t.enc.toArray 49 (0, 0)) :: (bk, .cells #[.int .i64 k2] 3 (0, 0)) :: G)
theorem LexAlls_spec (s : ByteArray) (most : Int) (I : Imm) (F : Heap) : Tri P 9 #[.string s, .int .i64 most] I F fun e I' G => e = .returned (.bool true) := by
  refine law11_LexAlls.vc
    (fun r bw a n c I0 F0 I' F' => ∃ A, Acc 5 Tok.enc 49 a n c (wantL s) A ∧ F'.Perm (A ++ F))
    (fun r bw a n c I0 F0 I' F' => ∃ A l n0 c0, Acc 5 Tok.enc 49 a n0 c0 l A ∧ F'.Perm (A ++ F) ∧ n ≤ n0 ∧ l.take n = walkT s)
    (fun r bw bn nv I0 F0 I' F' => F' = F0 ∧ 0 ≤ nv ∧ nv ≤ (walkT s).length) ?_
  unfold law11_LexAlls.V
  intro b
  refine Tri.ret (awake_spec I _) fun I1 hI1 => ⟨_, rfl, F, .refl _, fun h => by (cases h), fun _ => ⟨fun _ => rfl, fun hsz => ?_⟩⟩
  have hsz := of_decide_eq_false hsz
  have hs : Short s := short_small (by omega)
  intro b_want
  refine ⟨⟨fun h => ?_, fun h => ?_⟩, ?_⟩
  · have h := of_decide_eq_true h
    refine (Begin_spec hs (by omega) I1 _).mono fun e I2 G hI2 ⟨a, n, c, A, he, hA, hG⟩ => ?_
    subst hG
    refine ⟨a, n, c, _, _, he, A ++ F, ahead2.symm, A, ?_, .refl _⟩
    unfold wantL; rw [if_pos h]; exact hA
  · have h := of_decide_eq_false h
    refine ⟨[], ?_, .refl _⟩
    unfold wantL; rw [if_neg h]; exact Acc.nil
  intro wa wn wc I3 F3 hI3 ⟨A, hAc, hp3⟩
  have hwn : wn = (wantL s).length := hAc.1
  have hbig : wn ≤ 1000000000 := by
    rw [hwn]
    unfold wantL
    split
    · have := toksF_lenA s ((s.size : Int) - 0 + 1).toNat 0
      unfold toks; omega
    · simp
  refine ⟨⟨fun h => ?_, fun h => ?_⟩, ?_⟩
  · have h := of_decide_eq_true h
    rw [w64 (by omega)]
    refine ⟨⟨by omega, by omega⟩, ?_⟩
    have hsl : SlG I3 ((b, .cells #[.bool false] 4 (0, 0)) :: (b_want, .cells #[.slice wa wn wc] 39 (0, 0)) :: F3) 5 Tok.enc wa wn (wantL s) :=
      hAc.slg (z := 5) (f := Tok.enc) (fun _ => rfl) I3 fun x hx => List.mem_cons_of_mem _ (List.mem_cons_of_mem _ (hp3.mem_iff.2 (List.mem_append_left _ hx)))
    obtain ⟨ad, x, had, hx, hrd⟩ := hsl.at (i := (wn : Int) - 1) (by omega) (by omega)
    refine ⟨ad, had, x.kind, hrd.field (o := 0) rfl, fun hk => ⟨⟨by decide, by omega, ?_⟩, ?_⟩, fun hk => ?_⟩
    · obtain ⟨_, ⟨h1, h2, h3, h4⟩ | ⟨b', cells, h1, h2, h3, h4, h5⟩⟩ := hAc
      · rw [h3] at hwn; simp at hwn; omega
      · omega
    · have hk : x.kind = 0 := by simpa using hk
      have ea : (if wc = Int.toNat 0 then wa else Option.map (fun x => x.add (Int.toNat 0 * 5)) wa) = wa := by
        split
        · rfl
        · cases wa <;> rfl
      rw [ea]
      refine ⟨A, wantL s, wn, wc, hAc, hp3, by omega, ?_⟩
      rcases want_cases s with ⟨h1, h2⟩ | ⟨z, hz, h1⟩
      · rw [h1] at hx
        exact absurd hk (h2 x (List.mem_of_getElem? hx))
      · rw [h1, List.length_append, List.length_singleton] at hwn
        rw [h1, show ((wn : Int) - 1).toNat - Int.toNat 0 = (walkT s).length by omega, List.take_left]
    · have hk : x.kind ≠ 0 := by simpa using hk
      refine ⟨A, wantL s, wn, wc, hAc, hp3, Nat.le_refl _, ?_⟩
      rw [hwn, List.take_length]
      rcases want_cases s with ⟨h1, h2⟩ | ⟨z, hz, h1⟩
      · exact h1
      · rw [h1] at hx hwn
        rw [List.length_append, List.length_singleton] at hwn
        rw [show ((wn : Int) - 1).toNat = (walkT s).length by omega, List.getElem?_append_right (Nat.le_refl _), Nat.sub_self] at hx
        simp only [List.getElem?_cons_zero, Option.some.injEq] at hx
        rw [← hx] at hk
        exact absurd hz hk
  · have h := of_decide_eq_false h
    refine ⟨A, wantL s, wn, wc, hAc, hp3, Nat.le_refl _, ?_⟩
    rw [hwn, List.take_length]
    rcases want_cases s with ⟨h1, h2⟩ | ⟨z, hz, h1⟩
    · exact h1
    · rw [h1, List.length_append, List.length_singleton] at hwn; omega
  intro a n c I4 F4 hI4 ⟨A4, l, n0, c0, hAc4, hp4, hn4, hl4⟩
  have hnl : n = (walkT s).length := by rw [← hl4, List.length_take, ← hAc4.1]; omega
  intro b_n
  refine ⟨⟨fun h => ⟨fun h2 => ⟨rfl, ?_⟩, fun h2 => ⟨rfl, ?_⟩⟩, fun h => ⟨rfl, ?_⟩⟩, ?_⟩
  · have h := of_decide_eq_true h; have h2 := of_decide_eq_true h2; omega
  · omega
  · omega
  intro nv I5 F5 hI5 ⟨hF5, nv0, nv1⟩
  subst hF5
  refine Tri.pre fun w hw => ?_
  obtain ⟨J, hJ, hsJ, hSJ⟩ := hAc4.keep (f := Tok.enc) (fun _ => rfl) (F := (b, .cells #[.bool false] 4 (0, 0)) :: (b_want, .cells #[.slice a n c] 39 (0, 0)) :: (b_n, .cells #[.int .i64 nv] 3 (0, 0)) :: F) (hw.perm (perm_of fun x => by
    have := cn_perm hp4 x
    simp only [cn_app, cn_cons] at this ⊢; omega))
  have hS : Sl J 5 Tok.enc a n (walkT s) := by
    have h1 : l = walkT s ++ l.drop n := by rw [← hl4, List.take_append_drop]
    rw [h1] at hSJ
    rw [hnl]; exact Sl.prefix hSJ
  refine ⟨J, _, hJ, hsJ, ?_⟩
  refine (All_spec s J _).mono fun e I6 G hI6 ⟨bA, he, hbA, hG⟩ => ?_
  subst hG
  refine ⟨_, _, _, he, F, .refl _, fun b_it => ⟨false, nil73, fun h => by (cases h), fun _ b_i => ?_⟩⟩
  have hS6 := hS.mono hI6
  have hit := All_iter hs hbA
  obtain ⟨fv, hfv⟩ : ∃ fv, fv = Value.func (.func 60) #[] #[.pointer (some ⟨bA, 0, none⟩)] := ⟨_, rfl⟩
  intro Y L Lb Lx D hTr
  refine (hit Y #[] #[] (fun k I' G => G.Perm (hA b b_want a n c b_n nv b_it fv b_i k (L ++ F)) ∧ (k : Int) ≤ nv)
    (fun I' G => G.Perm (hA b b_want a n c b_n nv b_it fv b_i nv (Lx (some 0) ++ F))) I6 _ (Imm.le_refl _) (fun k I2 I3 F' F'' ⟨hp, hk⟩ _ hp' => ⟨hp'.symm.trans hp, hk⟩) (fun I2 I3 F' F'' hp _ hp' => hp'.symm.trans hp) ?_ ?_).mono ?_
  · intro k t I7 G7 hk hle ⟨hp, hkn⟩
    have hkl : k < (walkT s).length := (List.getElem?_eq_some_iff.1 hk).1
    have hS7 := hS6.mono hle
    obtain ⟨ad, x, had, hx, hrd⟩ := hS7.at (i := (k : Int)) (by omega) (by omega)
    obtain rfl : t = x := by rw [show ((k : Int)).toNat = k by omega, hk] at hx; exact Option.some.inj hx
    subst hfv
    refine TriV.perm (hTr t.kind t.text t.typ t.n t.pos false k I7 F _ hle ?_) hp
    intro b_t
    refine ⟨F, .refl _, fun h => absurd (of_decide_eq_true h) (by omega), fun _ => ?_⟩
    refine ⟨⟨by omega, by omega⟩, ad, had, _, _, _, _, _, hrd _, !tokEq t t, tok_neq t t, fun h => ?_, fun _ => ⟨fun h => ?_, fun h => ?_⟩⟩
    · rw [tokEq_self] at h; cases h
    · have hkn : (k : Int) = nv := by simpa using h
      refine ⟨F, .refl _, .inr ⟨rfl, ?_⟩⟩
      rw [← hkn]; exact .refl _
    · have hne : (k : Int) ≠ nv := by simpa using h
      intro b_k
      refine ⟨⟨F, .refl _⟩, ?_⟩
      intro Y1 L1 Lb1 Lx1 D1 hTr2
      have hnext : ∀ I9, Imm.le I7 I9 → (fun e I3 G => (e = Ending.returned (.bool true) ∧ (G.Perm (hA b b_want a n c b_n nv b_it (.func (.func 60) #[] #[.pointer (some ⟨bA, 0, none⟩)]) b_i ((k + 1 : Nat) : Int) (L ++ F)) ∧ ((k + 1 : Nat) : Int) ≤ nv)) ∨ (e = .returned (.bool false) ∧ G.Perm (hA b b_want a n c b_n nv b_it (.func (.func 60) #[] #[.pointer (some ⟨bA, 0, none⟩)]) b_i nv (Lx (some 0) ++ F)))) (.returned (.bool true)) I9
            (hA b b_want a n c b_n nv b_it (.func (.func 60) #[] #[.pointer (some ⟨bA, 0, none⟩)]) b_i (IntKind.wrap .i64 ((k : Int) + 1)) (L ++ F)) := fun I9 _ => by
        refine .inl ⟨rfl, ?_, by omega⟩
        have : IntKind.wrap .i64 ((k : Int) + 1) = ((k + 1 : Nat) : Int) := by
          have := goT_len s hs
          rw [w64 (by omega)]; omega
        rw [this]
      refine (hit Y1 #[] #[] (fun k2 I' G => G.Perm (hB b b_want a n c b_n nv b_it (.func (.func 60) #[] #[.pointer (some ⟨bA, 0, none⟩)]) b_i k b_t t b_k k2 (L1 ++ (Lb ++ F))) ∧ (3 < (k : Int) → k2 = 0))
        (fun I' G => 3 < (k : Int) ∧ G.Perm (hB b b_want a n c b_n nv b_it (.func (.func 60) #[] #[.pointer (some ⟨bA, 0, none⟩)]) b_i k b_t t b_k 0 (Lx1 (some 2) ++ (Lb ++ F)))) I7 _ hle
        (fun k2 I2 I3 F' F'' ⟨hp, hk⟩ _ hp' => ⟨hp'.symm.trans hp, hk⟩) (fun I2 I3 F' F'' ⟨h1, hp⟩ _ hp' => ⟨h1, hp'.symm.trans hp⟩) ?_ ⟨.refl _, fun _ => rfl⟩).mono ?_
      · intro k2 u I8 G8 hk2 hle8 ⟨hp8, hk3⟩
        have hkl2 : k2 < (walkT s).length := (List.getElem?_eq_some_iff.1 hk2).1
        obtain ⟨ad2, x2, had2, hx2, hrd2⟩ := (hS7.mono hle8).at (i := (k2 : Int)) (by omega) (by omega)
        obtain rfl : u = x2 := by rw [show ((k2 : Int)).toNat = k2 by omega, hk2] at hx2; exact Option.some.inj hx2
        refine TriV.perm (hTr2 u.kind u.text u.typ u.n u.pos false k2 I8 (Lb ++ F) _ hle8 ?_) hp8
        intro b_u
        refine ⟨Lb ++ F, .refl _, fun h => ?_, fun h => ⟨fun h => absurd (of_decide_eq_true h) (by omega), fun _ => ?_⟩⟩
        · have h := of_decide_eq_true h
          refine ⟨Lb ++ F, .refl _, .inr ⟨rfl, h, ?_⟩⟩
          rw [hk3 h]; exact .refl _
        · have h := of_decide_eq_false h
          refine ⟨⟨by omega, by omega⟩, ad2, had2, _, _, _, _, _, hrd2 _, !tokEq u u, tok_neq u u, fun h => ?_, fun _ => ?_⟩
          · rw [tokEq_self] at h; cases h
          · refine ⟨Lb ++ F, .refl _, .inl ⟨rfl, ?_, fun h3 => absurd h3 h⟩⟩
            have : IntKind.wrap .i64 ((k2 : Int) + 1) = ((k2 + 1 : Nat) : Int) := by
              have := goT_len s hs
              rw [w64 (by omega)]; omega
            rw [this]; exact .refl _
      · intro e I9 G9 hI9 ⟨r, he, hq⟩
        refine ⟨r, he, ?_⟩
        rcases hq with ⟨hp9, hk3⟩ | ⟨h3, hp9⟩
        · refine .inl ⟨false, ((walkT s).length : Int), Lb ++ F, hp9, fun h => ⟨fun h2 => ?_, fun _ => ⟨F, .refl _, hnext I9 hI9⟩⟩, fun _ => ⟨F, .refl _, hnext I9 hI9⟩⟩
          simp [hnl] at h2
        · refine .inr (.inl ⟨false, 0, Lb ++ F, hp9, fun h => absurd (of_decide_eq_true h) (by omega), fun _ => ⟨F, .refl _, hnext I9 hI9⟩⟩)
  · subst hfv; exact ⟨.refl _, by omega⟩
  · have hfin : ∀ (I10 : Imm) (k : Int), Imm.le I6 I10 → Tri P 30 #[.string s, .int .i64 (IntKind.wrap .i64 ((s.size : Int) + 1))] I10 (hA b b_want a n c b_n nv b_it fv b_i k ((D, Obj.deferred (some [])) :: F)) fun e6 I11 G6 =>
        ∃ (ra : Option Addr) (rn rc : Nat), e6 = .returned (.slice ra rn rc) ∧ ∃ F30 : Heap, G6.Perm (hA b b_want a n c b_n nv b_it fv b_i k F30) ∧
          Tri P 13 #[.slice ra rn rc, .slice a n c] I11 (hA b b_want a n c b_n nv b_it fv b_i k F30) fun e7 I12 G7 => e7 = .returned (.bool true) ∧ ∃ F31 : Heap, G7.Perm (hA b b_want a n c b_n nv b_it fv b_i k F31) ∧ ∃ F32 : Heap, F31.Perm ((D, Obj.deferred (some [])) :: F32) := by
      intro I10 k hl10
      rw [w64 (by omega)]
      refine (some_spec hs (by omega) (by omega) I10 _).mono fun e6 I11 G hI11 ⟨ra, rn, rc, A, he, hA', hG⟩ => ?_
      subst hG
      refine ⟨ra, rn, rc, he, A ++ ((D, Obj.deferred (some [])) :: F), perm_of fun x => by unfold hA; simp only [cn_app, cn_cons]; omega, ?_⟩
      have hlen := goT_len s hs
      refine Tri.ret (SameTokens_spec (l := walkT s) (hA'.slg (z := 5) (f := Tok.enc) (fun _ => rfl) I11 fun x hx => ?_) ((hS6.mono (Imm.le_trans hl10 hI11)).slg _) (by omega)) fun I12 hI12 => ⟨rfl, _, .refl _, A ++ F, perm_of fun x => by simp only [cn_app, cn_cons]; omega⟩
      unfold hA
      simp only [List.mem_cons, List.mem_append]
      exact .inr (.inr (.inr (.inr (.inr (.inl hx)))))
    intro e I10 G10 hI10 ⟨r, he, hq⟩
    refine ⟨r, he, ?_⟩
    subst hfv
    rcases hq with ⟨hp, hkn⟩ | hp
    · refine .inl ⟨false, ((walkT s).length : Int), F, hp, (hfin I10 _ hI10).mono fun e6 I11 G6 hI11 ⟨ra, rn, rc, he6, F30, hp30, h13⟩ => ⟨ra, rn, rc, he6, F30, hp30, h13.mono fun e7 I12 G7 _ ⟨he7, F31, hp31, F32, hp32⟩ => ⟨true, he7, F31, hp31, fun _ => ⟨F32, hp32, rfl⟩, fun h => ?_⟩⟩⟩
      have : ((walkT s).length : Int) = nv := by omega
      rw [this] at h; simp at h
    · refine .inr (.inl ⟨false, nv, F, hp, (hfin I10 _ hI10).mono fun e6 I11 G6 hI11 ⟨ra, rn, rc, he6, F30, hp30, h13⟩ => ⟨ra, rn, rc, he6, F30, hp30, h13.mono fun e7 I12 G7 _ ⟨he7, F31, hp31, F32, hp32⟩ => ⟨true, he7, F31, hp31, fun _ => ⟨F32, hp32, rfl⟩, fun h => ?_⟩⟩⟩)
      simp at h
end Go.Lx
