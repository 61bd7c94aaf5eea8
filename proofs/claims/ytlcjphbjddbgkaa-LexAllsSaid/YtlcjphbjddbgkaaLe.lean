import Derived.Test.YtlcjphbjddbgkaaLd
set_option linter.unusedVariables false
set_option linter.unusedSimpArgs false
namespace Go.Lx
open Go.Vc

/-- what the reader of one token hands back: the token and the error -/
def TR.v2 : TR → Value
  | .ok t => .tuple #[t.v, .int .i64 0]
  | .bad e p => .tuple #[(zTok 0).v, .int .i64 e]
def TR.v2p : TR → Value
  | .ok t => .tuple #[t.v, .int .i64 0]
  | .bad e p => .tuple #[(zTok p).v, .int .i64 e]

theorem typOf_cases (c : Int) : typOf c = 1 ∨ typOf c = 2 ∨ typOf c = 3 ∨ typOf c = 4 := by
  unfold typOf; repeat' split
  all_goals simp

theorem number_spec {s : ByteArray} (hs : Short s) {i : Int} (h0 : 0 ≤ i) (h1 : i < s.size) (I : Imm) (F : Heap) : Tri P 63 #[.string s, .int .i64 i] I F (Ret (numR s i).v2 F) := by
  have hs' := hs
  unfold Short at hs'
  have hE := runAt_le (p := digitB) (s := s) (i := i) (by omega)
  have hstop := runAt_stops (p := digitB) (s := s) (i := i) (by omega)
  have hcs := cut_size (s := s) h0 hE.1 hE.2
  generalize hEd : runAt digitB s i = E at hE hstop hcs
  have hEnd : ∀ n, valAt s E n = n := fun n => by
    rcases Int.lt_or_le E s.size with h | h
    · rw [valAt_step h, hstop h]; rfl
    · exact valAt_end h
  let e2 : Int := if typOf (byteOr0 s E) = 1 then E else E + 1
  have hbad : (valAt s i 0 > 9223372036854775807 ∨ (E - i > 1 ∧ bt s i = 48) ∨ (e2 < s.size ∧ (innerB (bt s e2) = true ∨ (65 ≤ bt s e2 ∧ bt s e2 ≤ 90)))) →
      (numR s i).v2 = .tuple #[(zTok 0).v, .int .i64 113] := fun h => by
    unfold numR; simp only [hEd]; rw [if_pos h]; rfl
  have hok : ¬(valAt s i 0 > 9223372036854775807 ∨ (E - i > 1 ∧ bt s i = 48) ∨ (e2 < s.size ∧ (innerB (bt s e2) = true ∨ (65 ≤ bt s e2 ∧ bt s e2 ≤ 90)))) →
      (numR s i).v2 = .tuple #[(⟨3, cut s i e2, typOf (byteOr0 s E), valAt s i 0, i⟩ : Tok).v, .int .i64 0] := fun h => by
    unfold numR; simp only [hEd]; rw [if_neg h]; rfl
  have he2r : e2 ≤ s.size ∧ E ≤ e2 ∧ e2 ≤ E + 1 := by
    show (if typOf (byteOr0 s E) = 1 then E else E + 1) ≤ _ ∧ _ ≤ (if typOf (byteOr0 s E) = 1 then E else E + 1) ∧ (if typOf (byteOr0 s E) = 1 then E else E + 1) ≤ _
    split
    · omega
    · rename_i hne
      have : E < s.size := by
        rcases Int.lt_or_le E s.size with h | h
        · exact h
        · rw [show byteOr0 s E = 0 by unfold byteOr0; rw [if_neg (by omega)]] at hne
          exact absurd rfl hne
      omega
  refine lex_number.vc (fun x k b0 b1 b2 b3 b4 t0 t1 t2 t3 t4 m I' F' => 0 ≤ k ∧ k ≤ E - i ∧ m = (E - i - k).toNat ∧ t0 = 3 ∧ t2 = 1 ∧ 0 ≤ t3 ∧ t3 ≤ 9223372036854775807 ∧ t4 = i ∧ valAt s (i + k) t3 = valAt s i 0 ∧ F' = F)
    (fun x b0 b1 b2 b3 b4 I' F' => ¬(E - i > 1 ∧ bt s i = 48) ∧ F' = F) (fun c I' F' => c = byteOr0 s E ∧ F' = F)
    (fun en st t0 t1 t2 t3 t4 I' F' => en = e2 ∧ t0 = 3 ∧ t2 = typOf (byteOr0 s E) ∧ t3 = valAt s i 0 ∧ t4 = i ∧ F' = F) ?_
  unfold lex_number.V
  intro b
  refine Tri.ret (run_spec hs h0 (by omega) digit_spec enters62 I _) fun I1 hI1 => ⟨_, rfl, F, .refl _, ?_⟩
  intro b_t
  rw [hEd]
  refine ⟨⟨h0, hE⟩, ?_⟩
  refine (conv_spec (cut s i E) I1 _).mono fun v I2 G2 hI2 ⟨bb, cc, hv, hSl, hG⟩ => ?_
  subst hG
  refine ⟨_, _, _, hv, F, .refl _, ⟨_, by omega, by omega, rfl, rfl, rfl, by omega, by omega, rfl, by rw [Int.add_zero], rfl⟩, ?_⟩
  intro x k b0 b1 b2 b3 b4 t0 t1 t2 t3 t4 m I3 F3 hI3 ⟨g0, g1, gm, gt0, gt2, gn0, gn1, gt4, gv, gF⟩
  subst gt0 gt2 gF
  obtain rfl : i = t4 := gt4.symm
  refine ⟨fun hk => ?_, fun hk => ?_⟩
  · have hk : k < E - i := by have := of_decide_eq_true hk; omega
    refine ⟨⟨g0, by omega⟩, ?_⟩
    obtain ⟨ad, c, had, hc, hrd⟩ := (hSl.mono hI3).at (i := k) g0 (by omega)
    have hbtc : c = bt s (i + k) := by
      rw [bytesOf_get (by omega)] at hc
      have := cut_bt (s := s) (i := i) (j := E) (k := k) h0 g0 (by omega) hE.2
      rw [Int.toNat_of_nonneg g0] at hc
      rw [this] at hc
      exact (Option.some.inj hc).symm
    obtain ⟨hd, _⟩ := runAt_in (p := digitB) (s := s) (i := i) (k := i + k) (by omega) (by omega) (by omega)
    rw [← hbtc] at hd
    obtain ⟨hw, hc0, hc1⟩ := byte_dig hd
    have hvs := valAt_step (s := s) (i := i + k) (v := t3) (by omega)
    rw [← hbtc, if_pos hd] at hvs
    refine ⟨ad, had, c, hrd _, ?_⟩
    rw [hw, tdiv_le (a := 0) (by omega) (by omega)]
    refine ⟨fun hgt => ⟨?_, rfl⟩, fun hgt => ?_⟩
    · refine (congrArg Ending.returned (hbad (.inl ?_)).symm)
      have hgt := of_decide_eq_true hgt
      have := valAt_ge (s := s) (i := i + k + 1) (v := 10 * t3 + (c - 48)) (by omega)
      omega
    · have hgt := of_decide_eq_false hgt
      refine ⟨_, ?_, ?_, ?_, rfl, rfl, rfl, ?_, ?_, rfl, ?_, rfl⟩
      · rw [w64 (by omega)]; omega
      · rw [w64 (by omega)]; omega
      · rw [w64 (by omega)]; omega
      · rw [w64 (n := 10 * t3) (by omega), w64 (by omega)]; omega
      · rw [w64 (n := 10 * t3) (by omega), w64 (by omega)]; omega
      · rw [w64 (n := 10 * t3) (by omega), w64 (n := k + 1) (by omega), w64 (n := 10 * t3 + (c - 48)) (by omega), ← gv, hvs]
        congr 1; omega
  · have hk : ¬ k < E - i := by have := of_decide_eq_false hk; omega
    have hkE : i + k = E := by omega
    rw [hkE, hEnd] at gv
    rw [w64 (n := E - i) (by omega)]
    refine ⟨⟨fun hl => ⟨⟨h0, h1⟩, fun h48 => ⟨?_, rfl⟩, fun h48 => ⟨?_, rfl⟩⟩, fun hl => ⟨?_, rfl⟩⟩, ?_⟩
    · exact congrArg Ending.returned (hbad (.inr (.inl ⟨of_decide_eq_true hl, by simpa using h48⟩))).symm
    · intro hc; rw [hc.2] at h48; simp at h48
    · intro hc; exact absurd hc.1 (of_decide_eq_false hl)
    intro x2 c0 c1 c2 c3 c4 I4 F4 hI4 ⟨hz, hF4⟩
    subst hF4
    refine ⟨⟨fun hl => ⟨⟨by omega, of_decide_eq_true hl⟩, ?_, rfl⟩, fun hl => ⟨?_, rfl⟩⟩, ?_⟩
    · unfold byteOr0; rw [if_pos (of_decide_eq_true hl)]
    · unfold byteOr0; rw [if_neg (of_decide_eq_false hl)]
    intro more I5 F5 hI5 ⟨hmore, hF5⟩
    subst hF5
    refine ⟨?_, ?_⟩
    · rw [show IntKind.wrap .i64 (IntKind.wrap .i64 (IntKind.wrap .i64 (-1 + 1) + 1) + 1) = 2 by decide, show IntKind.wrap .i64 (IntKind.wrap .i64 (-1 + 1) + 1) = 1 by decide,
        show IntKind.wrap .i64 (-1 + 1) = 0 by decide, w64 (n := E + 1) (by omega)]
      refine ⟨fun h => ?_, fun h => ⟨fun h' => ?_, fun h' => ⟨fun h'' => ?_, fun h'' => ?_⟩⟩⟩
      · have : more = 116 := by simpa using h
        have ht : typOf (byteOr0 s E) = 4 := by rw [← hmore, this]; rfl
        refine ⟨?_, rfl, by rw [ht]; decide, gv, rfl, rfl⟩
        show _ = if typOf (byteOr0 s E) = 1 then E else E + 1
        rw [ht]; rfl
      · have : more = 112 := by simpa using h'
        have ht : typOf (byteOr0 s E) = 3 := by rw [← hmore, this]; rfl
        refine ⟨?_, rfl, by rw [ht]; decide, gv, rfl, rfl⟩
        show _ = if typOf (byteOr0 s E) = 1 then E else E + 1
        rw [ht]; rfl
      · have : more = 113 := by simpa using h''
        have ht : typOf (byteOr0 s E) = 2 := by rw [← hmore, this]; rfl
        refine ⟨?_, rfl, by rw [ht]; decide, gv, rfl, rfl⟩
        show _ = if typOf (byteOr0 s E) = 1 then E else E + 1
        rw [ht]; rfl
      · have ht : typOf (byteOr0 s E) = 1 := by
          rw [← hmore]; unfold typOf
          rw [if_neg (by simpa using h), if_neg (by simpa using h'), if_neg (by simpa using h'')]
        refine ⟨?_, rfl, ht.symm, gv, rfl, rfl⟩
        show _ = if typOf (byteOr0 s E) = 1 then E else E + 1
        rw [ht]; rfl
    intro en st u0 u1 u2 u3 u4 I6 F6 hI6 ⟨hen, hu0, hu2, hu3, hu4, hF6⟩
    subst hu0 hu2 hF6 hen
    obtain rfl : i = u4 := hu4.symm
    have nov : ¬ valAt s i 0 > 9223372036854775807 := by omega
    have okk : ¬(e2 < s.size ∧ (innerB (bt s e2) = true ∨ (65 ≤ bt s e2 ∧ bt s e2 ≤ 90))) → 
        (0 ≤ i ∧ i ≤ e2 ∧ e2 ≤ (s.size : Int)) ∧ ∀ (J : Imm), Ret (numR s i).v2 F6 (.returned (Value.tuple #[Value.agg #[Value.int .u8 3, Value.string (s.extract (Int.toNat (i)) (Int.toNat (e2))), Value.int .u8 (typOf (byteOr0 s E)), Value.int .i64 u3, Value.int .i64 i], Value.int .i64 0])) J F6 := fun h => by
      refine ⟨by omega, fun J => ⟨?_, rfl⟩⟩
      rw [hok (fun h' => h'.elim nov fun h' => h'.elim hz h), hu3]
      rfl
    refine ⟨fun hl => ⟨⟨by omega, of_decide_eq_true hl⟩, ?_⟩, fun hl => ?_⟩
    · have hl := of_decide_eq_true hl
      refine Tri.ret (inner_spec (bt s e2) I6 _) fun I7 hI7 => ⟨_, rfl, F6, .refl _, fun hi => ⟨?_, rfl⟩, fun hi => ⟨⟨by omega, hl⟩, fun h65 => ⟨⟨by omega, hl⟩, fun h90 => ⟨?_, rfl⟩, fun h90 => ?_⟩, fun h65 => ?_⟩⟩
      · exact congrArg Ending.returned (hbad (.inr (.inr ⟨hl, .inl hi⟩))).symm
      · exact congrArg Ending.returned (hbad (.inr (.inr ⟨hl, .inr ⟨of_decide_eq_true h65, of_decide_eq_true h90⟩⟩))).symm
      · obtain ⟨a1, a2⟩ := okk (fun h => h.2.elim (fun h => by rw [hi] at h; cases h) fun h => of_decide_eq_false h90 h.2)
        exact ⟨a1, a2 _⟩
      · obtain ⟨a1, a2⟩ := okk (fun h => h.2.elim (fun h => by rw [hi] at h; cases h) fun h => of_decide_eq_false h65 h.1)
        exact ⟨a1, a2 _⟩
    · obtain ⟨a1, a2⟩ := okk (fun h => of_decide_eq_false hl h.1)
      exact ⟨a1, a2 _⟩
end Go.Lx
