import Derived.Test.YtlcjphbjddbgkaaLu
set_option linter.unusedVariables false
set_option linter.unusedSimpArgs false
namespace Go.Lx
open Go.Vc

theorem bt_app_left {x y : ByteArray} {k : Int} (h0 : 0 ≤ k) (h : k < x.size) : bt (x ++ y) k = bt x k := by
  obtain ⟨n, rfl⟩ : ∃ n : Nat, k = n := ⟨k.toNat, by omega⟩
  have hx : n < x.size := by omega
  have hxy : n < (x ++ y).size := by rw [ByteArray.size_append]; omega
  rw [bt_get hxy, bt_get hx]
  have : (x ++ y).data = x.data ++ y.data := ByteArray.data_append
  simp only [this]
  rw [Array.getElem_append_left (by exact hx)]
theorem bt_app_right {x y : ByteArray} {k : Int} (h0 : 0 ≤ k) (h : k < y.size) : bt (x ++ y) (x.size + k) = bt y k := by
  obtain ⟨n, rfl⟩ : ∃ n : Nat, k = n := ⟨k.toNat, by omega⟩
  have hy : n < y.size := by omega
  have hxy : x.size + n < (x ++ y).size := by rw [ByteArray.size_append]; omega
  rw [show (x.size : Int) + (n : Int) = ((x.size + n : Nat) : Int) by omega, bt_get hxy, bt_get hy]
  have : (x ++ y).data = x.data ++ y.data := ByteArray.data_append
  simp only [this]
  rw [Array.getElem_append_right (by show x.data.size ≤ x.size + n; exact Nat.le_add_right _ _)]
  have hh : x.size + n - x.data.size = n := Nat.add_sub_cancel_left x.size n
  simp only [hh]
def nlB : ByteArray := ⟨#[10]⟩
theorem join_size (a b : ByteArray) : ((a ++ nlB ++ b).size : Int) = a.size + 1 + b.size := by
  rw [ByteArray.size_append, ByteArray.size_append]; show ((a.size + 1 + b.size : Nat) : Int) = _; omega
theorem join_ahead (a b : ByteArray) : Ahead a (a ++ nlB ++ b) := by
  have hs := join_size a b
  have h1 : ((a ++ nlB).size : Int) = a.size + 1 := by rw [ByteArray.size_append]; show ((a.size + 1 : Nat) : Int) = _; omega
  refine ⟨by omega, fun k g0 g1 => ?_, ?_⟩
  · rw [bt_app_left g0 (by omega), bt_app_left g0 g1]
  · rw [bt_app_left (by omega) (by omega)]
    have := bt_app_right (x := a) (y := nlB) (k := 0) (Int.le_refl 0) (by decide)
    rw [Int.add_zero] at this
    rw [this]; rfl
theorem join_behind (a b : ByteArray) : Behind b (a ++ nlB ++ b) (a.size + 1) := by
  have hs := join_size a b
  have h1 : ((a ++ nlB).size : Int) = a.size + 1 := by rw [ByteArray.size_append]; show ((a.size + 1 : Nat) : Int) = _; omega
  refine ⟨by omega, by omega, fun k g0 g1 => ?_⟩
  rw [← bt_app_right (x := a ++ nlB) g0 g1, h1]; congr 1; omega
theorem toks_err_pos {s : ByteArray} : ∀ (n : Nat) (f : Int), 0 ≤ f → f ≤ s.size → ∀ e p, (toksF s n f).2 = some (e, p) → 0 ≤ p ∧ p ≤ s.size
  | 0, f, _, _, e, p, h => by simp [toksF] at h
  | n + 1, f, h0, h1, e, p, h => by
    unfold toksF at h
    rcases tokR_cases h0 h1 with ⟨t, htok, htat⟩ | ⟨e', htok, he⟩
    · rw [htok] at h
      have hnx := tok_next h0 h1 htok
      by_cases hk : t.kind = 0
      · simp [hk] at h
      · simp only [hk, if_false] at h
        exact toks_err_pos n _ (by omega) (by omega) e p h
    · rw [htok] at h
      simp only [Option.some.injEq, Prod.mk.injEq] at h
      have := overAt_le h1
      omega
theorem tokensR_small {s : ByteArray} (hs : (s.size : Int) ≤ 4096) : (∃ l, toks s 0 = (l, none) ∧ tokensR s = .ok l) ∨ ∃ l e p, toks s 0 = (l, some (e, p)) ∧ tokensR s = .error (e, p) ∧ (e != 0) = true ∧ 0 ≤ p ∧ p ≤ s.size := by
  cases h : toks s 0 with
  | mk l o =>
    cases o with
    | none => exact .inl ⟨l, rfl, by unfold tokensR; rw [if_neg (by omega), h]⟩
    | some ep =>
      obtain ⟨e, p⟩ := ep
      have h2 : (toksF s ((s.size : Int) - 0 + 1).toNat 0).2 = some (e, p) := by unfold toks at h; rw [h]
      exact .inr ⟨l, e, p, rfl, by unfold tokensR; rw [if_neg (by omega), h], toks_err _ 0 (by omega) (by omega) e p h2, toks_err_pos _ 0 (by omega) (by omega) e p h2⟩
theorem tok_pos {s : ByteArray} : ∀ (n : Nat) (f : Int), 0 ≤ f → f ≤ s.size → ∀ t ∈ (toksF s n f).1, 0 ≤ t.pos ∧ t.pos ≤ s.size
  | 0, f, _, _, t, h => by simp [toksF] at h
  | n + 1, f, h0, h1, t, h => by
    unfold toksF at h
    rcases tokR_cases h0 h1 with ⟨u, htok, htat⟩ | ⟨e', htok, he⟩
    · rw [htok] at h
      have hnx := tok_next h0 h1 htok
      have hu : 0 ≤ u.pos ∧ u.pos ≤ s.size := by have := htat.2.1; omega
      by_cases hk : u.kind = 0
      · simp only [hk, if_true, List.mem_singleton] at h
        subst h; exact hu
      · simp only [hk, if_false, List.mem_cons] at h
        rcases h with h | h
        · subst h; exact hu
        · exact tok_pos n _ (by omega) (by omega) t h
    · rw [htok] at h; simp at h
theorem tokEq_eq' {t u : Tok} (h : t = u) : tokEq t u = true := by subst h; exact tokEq_self t
theorem LexJoined_spec (a b : ByteArray) (I : Imm) (F : Heap) : Tri P 7 #[.string a, .string b] I F fun e I' G => e = .returned (.bool true) := by
  have hsz := join_size a b
  refine law11_LexJoined.vc (fun up xa xn xc e1 p1 ya yn yc e2 p2 za zn zc e3 p3 x i m I0 F0 I' F' => 0 ≤ i ∧ i ≤ zn ∧ m = (zn - i).toNat) ?_
  unfold law11_LexJoined.V
  refine Tri.ret (awake_spec I F) fun I1 hI1 => ⟨_, rfl, _, .refl _, fun h => by (cases h), fun _ => ⟨fun _ => rfl, fun ha => ⟨fun _ => rfl, fun hb => ⟨fun _ => rfl, fun hab => ?_⟩⟩⟩⟩
  have hab : (a.size : Int) + b.size ≤ 4095 := by
    have h1 := of_decide_eq_false ha
    have h2 := of_decide_eq_false hb
    have h3 := of_decide_eq_false hab
    rw [w64 (by omega)] at h3; omega
  have ha : Short a := short_small (by omega)
  have hb : Short b := short_small (by omega)
  have hz : Short (a ++ nlB ++ b) := short_small (by omega)
  have hA := (join_ahead a b).toks _ 0 (Int.le_refl 0) (by omega) rfl
  have hB := (join_behind a b).toks _ 0 (Int.le_refl 0) (by omega) rfl
  rw [Int.zero_add] at hB
  refine (Tokens_spec ha I1 _).mono fun ea I2 G hI2 ⟨hG, hqa⟩ => ?_
  subst hG
  have hmax : (IntKind.i64.max) = 9223372036854775807 := rfl
  have hj1 : ((a.size + nlB.size : Nat) : Int) ≤ IntKind.i64.max := by rw [hmax]; show ((a.size + 1 : Nat) : Int) ≤ _; omega
  have hj2 : (((a ++ nlB).size + b.size : Nat) : Int) ≤ IntKind.i64.max := by rw [hmax, ByteArray.size_append]; show ((a.size + 1 + b.size : Nat) : Int) ≤ _; omega
  have hbk : ∀ (I2 : Imm) (G : Heap), Tri P 11 #[.string b] I2 G (RetToks (tokensR b) G) := fun I2 G => Tokens_spec hb I2 G
  have hzk : ∀ (I2 : Imm) (G : Heap), Tri P 11 #[.string (a ++ nlB ++ b)] I2 G (RetToks (tokensR (a ++ nlB ++ b)) G) := fun I2 G => Tokens_spec hz I2 G
  have someB : ∀ (I3 : Imm) (G : Heap) (Q : Ending → Imm → Heap → Prop), (∀ I3' s n c e p, Imm.le I3 I3' → Q (.returned (.tuple #[.slice s n c, .int .i64 e, .int .i64 p])) I3' G) → Tri P 11 #[.string b] I3 G Q := fun I3 G Q k => by
    refine (hbk I3 G).mono fun e I3' G' hl ⟨hG, hq⟩ => ?_
    subst hG
    cases hR : tokensR b with
    | ok l => rw [hR] at hq; obtain ⟨s, n, c, he, _⟩ := hq; subst he; exact k _ _ _ _ _ _ hl
    | error ep => rw [hR] at hq; have he : e = _ := hq; subst he; exact k _ _ _ _ _ _ hl
  rcases tokensR_small (s := a) (by omega) with ⟨X, hXa, hXr⟩ | ⟨l, e, p, hl, hr, hne, _⟩
  · rw [hXr] at hqa
    obtain ⟨xa, xn, xc, hxe, hxS⟩ := hqa
    rw [hXa] at hA
    simp only at hA
    refine ⟨_, _, _, _, _, hxe, _, .refl _, ?_⟩
    refine (hbk I2 _).mono fun eb I3 G hI3 ⟨hG, hqb⟩ => ?_
    subst hG
    obtain ⟨t0, r0, hX0, _⟩ := toks_ne (Int.le_refl 0) (by omega) hXa
    rcases tokensR_small (s := b) (by omega) with ⟨Y, hYb, hYr⟩ | ⟨l, e, p, hl, hr, hne, hp0, hp1⟩
    · -- both are taken
      rw [hYr] at hqb
      obtain ⟨ya, yn, yc, hye, hyS⟩ := hqb
      rw [hYb] at hB
      rw [hB] at hA
      simp only [Option.map_none] at hA
      have hZ : tokensR (a ++ nlB ++ b) = .ok (X.dropLast ++ Y.map (Tok.shift (a.size + 1))) := by
        unfold tokensR; rw [if_neg (by omega), hA]
      have hpos : ∀ t ∈ Y, 0 ≤ t.pos ∧ t.pos ≤ b.size := fun t ht => by
        have h2 : (toksF b ((b.size : Int) - 0 + 1).toNat 0).1 = Y := by unfold toks at hYb; rw [hYb]
        exact tok_pos _ 0 (by omega) (by omega) t (by rw [h2]; exact ht)
      have hXl := tokensR_len' hXr
      have hYl := tokensR_len' hYr
      refine ⟨_, _, _, _, _, hye, _, .refl _, hj1, hj2, ?_⟩
      refine (hzk I3 _).mono fun ez I4 G hI4 ⟨hG, hqz⟩ => ?_
      subst hG
      rw [hZ] at hqz
      obtain ⟨za, zn, zc, hze, hzS⟩ := hqz
      have hxn := hxS.1
      have hyn := hyS.1
      have hzn := hzS.1
      rw [List.length_append, List.length_dropLast, List.length_map] at hzn
      have hX1 : 0 < X.length := by rw [hX0]; simp
      refine ⟨_, _, _, _, _, hze, _, .refl _, fun h => by simp at h, fun _ => ⟨fun h => by simp at h, fun _ => ⟨fun h => by simp at h, fun _ => ⟨fun h => ?_, fun _ => ⟨fun h => ?_, fun _ => ⟨⟨_, by omega, by omega, rfl⟩, ?_⟩⟩⟩⟩⟩⟩
      · have := of_decide_eq_true h; omega
      · rw [w64 (n := (xn : Int) + yn) (by omega), w64 (by omega)] at h
        have : ((zn : Nat) : Int) = (xn : Int) + yn - 1 := by omega
        rw [this] at h; simp at h
      intro x i m I5 F5 hI5 ⟨i0, i1, im⟩
      refine ⟨fun hlt => ?_, fun _ => rfl⟩
      have hlt := of_decide_eq_true hlt
      have hxS5 := hxS.mono (Imm.le_trans hI3 (Imm.le_trans hI4 hI5))
      have hyS5 := hyS.mono (Imm.le_trans hI4 hI5)
      have hzS5 := hzS.mono hI5
      obtain ⟨ad, t, had, ht, hrd⟩ := hxS5.at (i := 0) (by omega) (by omega)
      obtain ⟨adz, tz, hadz, htz, hrdz⟩ := hzS5.at (i := i) i0 hlt
      refine ⟨⟨by omega, by omega⟩, ad, had, _, _, _, _, _, hrd _, fun b_want => ?_⟩
      rw [w64 (n := (xn : Int) - 1) (by omega)]
      refine ⟨fun hc => ?_, fun hc => ?_⟩
      · have hc := of_decide_eq_true hc
        obtain ⟨ad1, t1, had1, ht1, hrd1⟩ := hxS5.at (i := i) i0 (by omega)
        have : tz = t1 := by
          rw [List.getElem?_append_left (by rw [List.length_dropLast]; omega), List.getElem?_dropLast, if_pos (by omega), ht1] at htz
          exact (Option.some.inj htz).symm
        subst this
        refine ⟨⟨i0, by omega⟩, ad1, had1, _, _, _, _, _, hrd1 _, ⟨i0, hlt⟩, adz, hadz, _, _, _, _, _, hrdz _, _, tok_neq tz tz, fun h => ?_, fun _ => ?_⟩
        · rw [tokEq_self] at h; cases h
        · rw [w64 (by omega)]; exact ⟨_, by omega, by omega, by omega, rfl⟩
      · have hc := of_decide_eq_false hc
        rw [w64 (n := i - (xn : Int)) (by omega), w64 (n := i - (xn : Int) + 1) (by omega)]
        obtain ⟨ad3, t3, had3, ht3, hrd3⟩ := hyS5.at (i := i - (xn : Int) + 1) (by omega) (by omega)
        have ht3p := hpos t3 (List.mem_of_getElem? ht3)
        have : tz = Tok.shift (a.size + 1) t3 := by
          rw [List.getElem?_append_right (by rw [List.length_dropLast]; omega), List.length_dropLast, List.getElem?_map, show i.toNat - (X.length - 1) = (i - (xn : Int) + 1).toNat by omega, ht3] at htz
          exact (Option.some.inj htz).symm
        subst this
        refine ⟨⟨by omega, by omega⟩, ad3, had3, _, _, _, _, _, hrd3 _, ⟨i0, hlt⟩, adz, hadz, _, _, _, _, _, hrdz _, ?_⟩
        rw [w64 (n := t3.pos + (a.size : Int)) (by omega), w64 (n := t3.pos + (a.size : Int) + 1) (by omega)]
        refine ⟨_, tok_neq (Tok.shift (a.size + 1) t3) ⟨t3.kind, t3.text, t3.typ, t3.n, t3.pos + (a.size : Int) + 1⟩, fun h => ?_, fun _ => ?_⟩
        · rw [tokEq_eq' (by unfold Tok.shift; congr 1; omega)] at h; cases h
        · rw [w64 (by omega)]; exact ⟨_, by omega, by omega, by omega, rfl⟩
    · rw [hr] at hqb
      rw [hl] at hB
      rw [hB] at hA
      simp only [Option.map_some] at hA
      have hZ : tokensR (a ++ nlB ++ b) = .error (e, p + (a.size + 1)) := by
        unfold tokensR; rw [if_neg (by omega), hA]
      refine ⟨_, _, _, _, _, hqb, _, .refl _, hj1, hj2, ?_⟩
      refine (hzk I3 _).mono fun ez I4 G hI4 ⟨hG, hqz⟩ => ?_
      subst hG
      rw [hZ] at hqz
      refine ⟨_, _, _, _, _, hqz, _, .refl _, fun h => by simp at h, fun _ => ⟨fun _ => ⟨fun _ => ?_, fun h => by simp at h⟩, fun h => ?_⟩⟩
      · show Ending.returned (.bool (p + ((a.size : Int) + 1) == _)) = _
        rw [w64 (n := p + (a.size : Int)) (by omega), w64 (by omega), show p + ((a.size : Int) + 1) = p + a.size + 1 by omega]; simp
      · rw [hne] at h; cases h
  · -- the first is not taken
    rw [hr] at hqa
    rw [hl] at hA
    simp only at hA
    have hZ : tokensR (a ++ nlB ++ b) = .error (e, p) := by
      unfold tokensR; rw [if_neg (by omega), hA]
    refine ⟨_, _, _, _, _, hqa, _, .refl _, ?_⟩
    refine someB I2 _ _ fun I3 s n c eb pb hI3 => ⟨_, _, _, _, _, rfl, _, .refl _, hj1, hj2, ?_⟩
    refine (hzk I3 _).mono fun ez I4 G hI4 ⟨hG, hqz⟩ => ?_
    subst hG
    rw [hZ] at hqz
    refine ⟨_, _, _, _, _, hqz, _, .refl _, fun _ => ?_, fun h => ?_⟩
    · show Ending.returned (.bool (e == e)) = _; simp
    · rw [hne] at h; cases h
end Go.Lx
