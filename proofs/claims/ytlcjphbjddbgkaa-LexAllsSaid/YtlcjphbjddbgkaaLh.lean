import Derived.Test.YtlcjphbjddbgkaaLg
set_option linter.unusedVariables false
set_option linter.unusedSimpArgs false
namespace Go.Lx
open Go.Vc

theorem rbyte_dig {c : Int} (h : digitB c = true) : IntKind.wrap .u64 (IntKind.wrap .u8 (c - 48)) = c - 48 ∧ 48 ≤ c ∧ c ≤ 57 := by
  simp only [digitB, Bool.and_eq_true, decide_eq_true_eq] at h
  rw [w8 (by omega), wu64 (by omega)]
  exact ⟨rfl, h⟩
theorem rnumber_spec {s : ByteArray} (hs : Short s) {i : Int} (h0 : 0 ≤ i) (h1 : i < s.size) (I : Imm) (F : Heap) : Tri P 71 #[.string s, .int .i64 i] I F (Ret (numR s i).v2 F) := by
  have hs' := hs
  unfold Short at hs'
  have hE := runAt_le (p := digitB) (s := s) (i := i) (by omega)
  generalize hEd : runAt digitB s i = E at hE
  let e2 : Int := if typOf (byteOr0 s E) = 1 then E else E + 1
  have hbad : (valAt s i 0 > 9223372036854775807 ∨ (E - i > 1 ∧ bt s i = 48) ∨ (e2 < s.size ∧ (innerB (bt s e2) = true ∨ (65 ≤ bt s e2 ∧ bt s e2 ≤ 90)))) →
      (numR s i).v2 = .tuple #[(zTok 0).v, .int .i64 113] := fun h => by
    unfold numR; simp only [hEd]; rw [if_pos h]; rfl
  have hok : ¬(valAt s i 0 > 9223372036854775807 ∨ (E - i > 1 ∧ bt s i = 48) ∨ (e2 < s.size ∧ (innerB (bt s e2) = true ∨ (65 ≤ bt s e2 ∧ bt s e2 ≤ 90)))) →
      (numR s i).v2 = .tuple #[(⟨3, cut s i e2, typOf (byteOr0 s E), valAt s i 0, i⟩ : Tok).v, .int .i64 0] := fun h => by
    unfold numR; simp only [hEd]; rw [if_neg h]; rfl
  have he2r : e2 ≤ s.size ∧ E ≤ e2 ∧ e2 ≤ E + 1 := by
    show (if typOf (byteOr0 s E) = 1 then E else E + 1) ≤ _ ∧ _ ≤ (if typOf (byteOr0 s E) = 1 then E else E + 1) ∧ (if typOf (byteOr0 s E) = 1 then E else E + 1) ≤ _
    split
    · omega
    · rename_i hne
      have : E < s.size := by
        rcases Int.lt_or_le E s.size with h | h
        · exact h
        · rw [show byteOr0 s E = 0 by unfold byteOr0; rw [if_neg (by omega)]] at hne
          exact absurd rfl hne
      omega
  refine ref11_number.vc (fun x en n b0 b1 b2 b3 b4 I' F' => en = E ∧ n = valAt s i 0 ∧ F' = F)
    (fun x j n b0 b1 b2 b3 b4 m I' F' => i ≤ j ∧ j ≤ E ∧ m = (E - j).toNat ∧ 0 ≤ n ∧ n ≤ 18446744073709551615 ∧ runAt digitB s j = E ∧ valAt s j n = valAt s i 0 ∧ F' = F)
    (fun x b0 b1 b2 b3 b4 I' F' => ¬(E - i > 1 ∧ bt s i = 48) ∧ ¬ valAt s i 0 > 9223372036854775807 ∧ F' = F)
    (fun t0 t1 t2 t3 t4 I' F' => t0 = 3 ∧ t2 = (if byteOr0 s E = 113 then 2 else 1) ∧ t3 = valAt s i 0 ∧ t4 = i ∧ F' = F)
    (fun t0 t1 t2 t3 t4 I' F' => t0 = 3 ∧ t2 = (if byteOr0 s E = 112 then 3 else if byteOr0 s E = 113 then 2 else 1) ∧ t3 = valAt s i 0 ∧ t4 = i ∧ F' = F)
    (fun t0 t1 t2 t3 t4 I' F' => t0 = 3 ∧ t2 = typOf (byteOr0 s E) ∧ t3 = valAt s i 0 ∧ t4 = i ∧ F' = F)
    (fun en I' F' => en = e2 ∧ F' = F) ?_
  unfold ref11_number.V
  intro b b_t
  refine ⟨⟨⟨_, by omega, by omega, rfl, by omega, by omega, hEd, rfl, rfl⟩, ?_⟩, ?_⟩
  · intro x j n b0 b1 b2 b3 b4 m I1 F1 hI1 ⟨g0, g1, gm, gn0, gn1, gr, gv, gF⟩
    subst gF
    refine ⟨fun hlt => ?_, fun hlt => ?_⟩
    · have hlt : j < s.size := of_decide_eq_true hlt
      refine ⟨⟨by omega, hlt⟩, ?_⟩
      refine Tri.ret (rdigit_spec (bt s j) I1 _) fun I2 hI2 => ⟨_, rfl, F1, .refl _, fun hd => ?_, fun hd => ?_⟩
      · obtain ⟨hw, hc0, hc1⟩ := rbyte_dig hd
        rw [runAt_step hlt, if_pos hd] at gr
        rw [valAt_step hlt, if_pos hd] at gv
        have hr2 := runAt_le (p := digitB) (s := s) (i := j + 1) (by omega)
        refine ⟨fun hgt => ⟨?_, rfl⟩, fun hgt => ⟨⟨by omega, hlt⟩, ?_⟩⟩
        · refine (congrArg Ending.returned (hbad (.inl ?_)).symm)
          have hgt := of_decide_eq_true hgt
          have := valAt_ge (s := s) (i := j + 1) (v := 10 * n + (bt s j - 48)) (by omega)
          omega
        · have hgt := of_decide_eq_false hgt
          rw [hw, wu64 (n := 10 * n) (by omega), wu64 (n := 10 * n + _) (by omega), w64 (by omega)]
          exact ⟨_, by omega, by omega, by omega, rfl, by omega, by omega, gr, gv, rfl⟩
      · rw [runAt_step hlt, if_neg (by rw [hd]; exact Bool.false_ne_true)] at gr
        rw [valAt_step hlt, if_neg (by rw [hd]; exact Bool.false_ne_true)] at gv
        exact ⟨gr, gv, rfl⟩
    · have hlt : ¬ j < s.size := of_decide_eq_false hlt
      rw [runAt_end (by omega)] at gr
      rw [valAt_end (by omega)] at gv
      exact ⟨gr, gv, rfl⟩
  intro x en n b0 b1 b2 b3 b4 I3 F3 hI3 ⟨hen, hn, hF3⟩
  subst hen hF3
  rw [w64 (n := en - i) (by omega)]
  refine ⟨⟨fun h => ⟨?_, rfl⟩, fun h => ⟨fun hl => ⟨⟨h0, h1⟩, fun h48 => ⟨?_, rfl⟩, fun h48 => ⟨?_, ?_, rfl⟩⟩, fun hl => ⟨?_, ?_, rfl⟩⟩⟩, ?_⟩
  · exact congrArg Ending.returned (hbad (.inl (by have := of_decide_eq_true h; omega))).symm
  · exact congrArg Ending.returned (hbad (.inr (.inl ⟨of_decide_eq_true hl, by simpa using h48⟩))).symm
  · intro hc; rw [hc.2] at h48; simp at h48
  · have := of_decide_eq_false h; omega
  · intro hc; exact absurd hc.1 (of_decide_eq_false hl)
  · have := of_decide_eq_false h; omega
  intro x2 c0 c1 c2 c3 c4 I4 F4 hI4 ⟨hz, nov, hF4⟩
  subst hF4
  have hv0 := valAt_ge (s := s) (i := i) (v := 0) (by omega)
  rw [w64 (n := n) (by omega)]
  have hpos : en < s.size → byteOr0 s en = bt s en := fun h => by unfold byteOr0; rw [if_pos h]
  have hneg : ¬ en < s.size → byteOr0 s en = 0 := fun h => by unfold byteOr0; rw [if_neg h]
  refine ⟨⟨fun hl => ⟨⟨by omega, of_decide_eq_true hl⟩, fun h => ⟨rfl, ?_, hn, rfl, rfl⟩, fun h => ⟨rfl, ?_, hn, rfl, rfl⟩⟩, fun hl => ⟨rfl, ?_, hn, rfl, rfl⟩⟩, ?_⟩
  · rw [hpos (of_decide_eq_true hl), if_pos (by simpa using h)]
  · rw [hpos (of_decide_eq_true hl), if_neg (by simpa using h)]
  · rw [hneg (of_decide_eq_false hl)]; rfl
  intro t0 t1 t2 t3 t4 I5 F5 hI5 ⟨ht0, ht2, ht3, ht4, hF5⟩
  subst hF5
  refine ⟨⟨fun hl => ⟨⟨by omega, of_decide_eq_true hl⟩, fun h => ⟨ht0, ?_, ht3, ht4, rfl⟩, fun h => ⟨ht0, ?_, ht3, ht4, rfl⟩⟩, fun hl => ⟨ht0, ?_, ht3, ht4, rfl⟩⟩, ?_⟩
  · rw [hpos (of_decide_eq_true hl), if_pos (by simpa using h)]
  · rw [ht2, hpos (of_decide_eq_true hl), if_neg (c := bt s en = 112) (by simpa using h)]
  · rw [ht2, hneg (of_decide_eq_false hl)]; rfl
  clear ht0 ht2 ht3 ht4
  intro t0 t1 t2 t3 t4 I6 F6 hI6 ⟨ht0, ht2, ht3, ht4, hF6⟩
  subst hF6
  refine ⟨⟨fun hl => ⟨⟨by omega, of_decide_eq_true hl⟩, fun h => ⟨ht0, ?_, ht3, ht4, rfl⟩, fun h => ⟨ht0, ?_, ht3, ht4, rfl⟩⟩, fun hl => ⟨ht0, ?_, ht3, ht4, rfl⟩⟩, ?_⟩
  · unfold typOf; rw [hpos (of_decide_eq_true hl), if_pos (by simpa using h)]
  · unfold typOf; rw [ht2, hpos (of_decide_eq_true hl), if_neg (c := bt s en = 116) (by simpa using h)]
  · unfold typOf; rw [ht2, hneg (of_decide_eq_false hl)]; rfl
  clear ht0 ht2 ht3 ht4
  intro u0 u1 u2 u3 u4 I7 F7 hI7 ⟨hu0, hu2, hu3, hu4, hF7⟩
  subst hu0 hu2 hF7
  obtain rfl : i = u4 := hu4.symm
  refine ⟨⟨fun h => ⟨?_, rfl⟩, fun h => ⟨?_, rfl⟩⟩, ?_⟩
  · show _ = if typOf (byteOr0 s en) = 1 then en else en + 1
    rw [if_neg (by simpa using h), w64 (by omega)]
  · show _ = if typOf (byteOr0 s en) = 1 then en else en + 1
    rw [if_pos (by simpa using h)]
  intro e3 I8 F8 hI8 ⟨he3, hF8⟩
  subst he3 hF8
  have okk : ¬(e2 < s.size ∧ (innerB (bt s e2) = true ∨ (65 ≤ bt s e2 ∧ bt s e2 ≤ 90))) → 
      (0 ≤ i ∧ i ≤ e2 ∧ e2 ≤ (s.size : Int)) ∧ ∀ (J : Imm), Ret (numR s i).v2 F8 (.returned (Value.tuple #[Value.agg #[Value.int .u8 3, Value.string (s.extract (Int.toNat (i)) (Int.toNat (e2))), Value.int .u8 (typOf (byteOr0 s en)), Value.int .i64 u3, Value.int .i64 i], Value.int .i64 0])) J F8 := fun h => by
    refine ⟨by omega, fun J => ⟨?_, rfl⟩⟩
    rw [hok (fun h' => h'.elim nov fun h' => h'.elim hz h), hu3]
    rfl
  refine ⟨fun hl => ⟨⟨by omega, of_decide_eq_true hl⟩, ?_⟩, fun hl => ?_⟩
  · have hl := of_decide_eq_true hl
    refine Tri.ret (rgoes_spec (bt s e2) I8 _) fun I9 hI9 => ⟨_, rfl, F8, .refl _, fun hi => ⟨?_, rfl⟩, fun hi => ⟨⟨by omega, hl⟩, fun h65 => ⟨⟨by omega, hl⟩, fun h90 => ⟨?_, rfl⟩, fun h90 => ?_⟩, fun h65 => ?_⟩⟩
    · exact congrArg Ending.returned (hbad (.inr (.inr ⟨hl, .inl hi⟩))).symm
    · exact congrArg Ending.returned (hbad (.inr (.inr ⟨hl, .inr ⟨of_decide_eq_true h65, of_decide_eq_true h90⟩⟩))).symm
    · obtain ⟨a1, a2⟩ := okk (fun h => h.2.elim (fun h => by rw [hi] at h; cases h) fun h => of_decide_eq_false h90 h.2)
      exact ⟨a1, a2 _⟩
    · obtain ⟨a1, a2⟩ := okk (fun h => h.2.elim (fun h => by rw [hi] at h; cases h) fun h => of_decide_eq_false h65 h.1)
      exact ⟨a1, a2 _⟩
  · obtain ⟨a1, a2⟩ := okk (fun h => of_decide_eq_false hl h.1)
    exact ⟨a1, a2 _⟩
end Go.Lx
