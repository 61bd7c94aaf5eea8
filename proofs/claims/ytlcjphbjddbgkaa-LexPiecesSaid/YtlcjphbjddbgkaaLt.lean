import Derived.Test.YtlcjphbjddbgkaaLs
set_option linter.unusedVariables false
set_option linter.unusedSimpArgs false
namespace Go.Lx
open Go.Vc

theorem tokEq_eq {t u : Tok} (h : t = u) : tokEq t u = true := by subst h; exact tokEq_self t
theorem list_beq_self (l : List UInt8) : (l == l) = true := by simp
theorem size_list {t : ByteArray} : t.toList == (⟨#[]⟩ : ByteArray).toList ↔ t.size = 0 := by
  rw [empty_list, beq_iff_eq, Lib.toList_data]
  have : t.data.toList = [] ↔ t.data.size = 0 := by rw [← Array.length_toList]; exact List.length_eq_zero_iff.symm
  exact this
theorem LexPieces_spec (s : ByteArray) (I : Imm) (F : Heap) : Tri P 6 #[.string s] I F fun e I' G => e = .returned (.bool true) := by
  cases hR : tokensR s with
  | error ep =>
    obtain ⟨er, pl⟩ := ep
    refine law11_LexPieces.vc (fun _ _ _ _ _ _ _ _ _ _ _ _ _ _ => False) ?_
    unfold law11_LexPieces.V
    refine Tri.ret (awake_spec I F) fun I1 hI1 => ⟨_, rfl, _, .refl _, fun h => by (cases h), fun _ => ⟨fun _ => rfl, fun hs => ?_⟩⟩
    have hs : Short s := short_small (by have := of_decide_eq_false hs; omega)
    refine (Tokens_spec hs I1 _).mono fun e I2 G hI2 ⟨hG, he⟩ => ?_
    rw [hR] at he
    subst hG
    refine ⟨_, _, _, _, _, he, _, .refl _, fun h => rfl, fun h => ?_⟩
    unfold tokensR at hR
    split at hR
    · cases hR; exact absurd h (by decide)
    · split at hR
      · cases hR
      · rename_i l ep hep
        cases hR
        have := toks_err _ 0 (by omega) (by omega) er pl (by unfold toks at hep; rw [hep])
        rw [this] at h; cases h
  | ok l =>
    have h4096 : (s.size : Int) ≤ 4096 ∧ toks s 0 = (l, none) := by
      unfold tokensR at hR
      split at hR
      · cases hR
      · split at hR
        · rename_i l' hl'; cases hR; exact ⟨by omega, hl'⟩
        · cases hR
    have hlen := tokensR_len' hR
    refine law11_LexPieces.vc (fun up a n c er to x f i m I0 F0 I' F' => 0 ≤ i ∧ i ≤ l.length ∧ m = (l.length - i).toNat ∧ 0 ≤ f ∧ f ≤ s.size ∧ (i < l.length → toks s f = (l.drop i.toNat, none)) ∧ (i = l.length → f = s.size)) ?_
    unfold law11_LexPieces.V
    refine Tri.ret (awake_spec I F) fun I1 hI1 => ⟨_, rfl, _, .refl _, fun h => by (cases h), fun _ => ⟨fun _ => rfl, fun hs => ?_⟩⟩
    have hs : Short s := short_small (by have := of_decide_eq_false hs; omega)
    refine (Tokens_spec hs I1 _).mono fun e I2 G hI2 ⟨hG, hq⟩ => ?_
    rw [hR] at hq
    obtain ⟨a, n, c, he, hS⟩ := hq
    subst hG
    have hn := hS.1
    obtain ⟨t0, r0, hl0, _⟩ := toks_ne (Int.le_refl 0) (by omega) h4096.2
    have hpos : 0 < l.length := by rw [hl0]; simp
    refine ⟨_, _, _, _, _, he, _, .refl _, fun h => by simp at h, fun _ => ⟨⟨_, by omega, by omega, rfl, by omega, by omega, fun _ => by rw [h4096.2]; rfl, fun h => by omega⟩, ?_⟩⟩
    intro x f i m I3 F3 hI3 ⟨i0, i1, im, f0, f1, htk, hfin⟩
    refine ⟨fun hlt => ?_, fun hlt => ⟨fun _ => ?_, fun h => ?_⟩⟩
    · have hlt := of_decide_eq_true hlt
      have htk := htk (by omega)
      obtain ⟨t, r, hd, htok, hor⟩ := toks_ne f0 f1 htk
      have hti : l[i.toNat]? = some t := by
        have := congrArg (fun x => x[0]?) hd
        simpa [List.getElem?_drop] using this
      obtain ⟨ad, t', had, ht', hrd⟩ := (hS.mono hI3).at (i := i) i0 (by omega)
      obtain rfl : t = t' := by rw [hti] at ht'; exact Option.some.inj ht'
      have hat := tok_shape f0 f1 htok
      have ho := overAt_le f1
      obtain ⟨hp, hle, htx, hsz⟩ := hat
      have hnxt := tok_next f0 f1 htok
      have hdl : (l.drop i.toNat).length = r.length + 1 := by rw [hd]; simp
      rw [List.length_drop] at hdl
      refine ⟨⟨i0, hlt⟩, ad, had, _, _, _, _, _, hrd _, fun b_t => ?_⟩
      rw [w64 (n := t.pos + t.text.size) (by omega), w64 (n := (n : Int) - 1) (by omega)]
      refine ⟨fun h => ?_, fun _ => ⟨fun h => ?_, fun _ => ⟨by omega, fun h => ?_, fun _ => ⟨fun h => ?_, fun _ => ⟨fun h => ?_, fun _ => ⟨by omega, ?_⟩⟩⟩⟩⟩⟩
      · have := of_decide_eq_true h; omega
      · have := of_decide_eq_true h; omega
      · exfalso
        have : (s.extract t.pos.toNat (t.pos + t.text.size).toNat) = t.text := htx.symm
        rw [this, list_beq_self] at h; cases h
      · exfalso
        rcases hor with ⟨hk, hr⟩ | ⟨hk, hr⟩
        · subst hr
          have e1 : (t.kind == 0) = true := by simp [hk]
          have e2 : (i == (n : Int) - 1) = true := by simp at hdl ⊢; omega
          rw [e1, e2] at h; cases h
        · obtain ⟨t2, r2, hr2, _⟩ := toks_ne (by omega) hnxt.1 hr
          have e1 : (t.kind == 0) = false := by simp [hk]
          have e2 : (i == (n : Int) - 1) = false := by rw [hr2] at hdl; simp at hdl ⊢; omega
          rw [e1, e2] at h; cases h
      · exfalso
        rcases hor with ⟨hk, hr⟩ | ⟨hk, hr⟩
        · subst hr
          have e1 : (t.text.toList == (⟨#[]⟩ : ByteArray).toList) = true := size_list.2 (by
            rcases hsz with ⟨_, _, h⟩ | ⟨h, _⟩
            · rw [h]; rfl
            · omega)
          have e2 : (i == (n : Int) - 1) = true := by simp at hdl ⊢; omega
          rw [e1, e2] at h; cases h
        · obtain ⟨t2, r2, hr2, _⟩ := toks_ne (by omega) hnxt.1 hr
          have e1 : (t.text.toList == (⟨#[]⟩ : ByteArray).toList) = false := by
            cases hh : (t.text.toList == (⟨#[]⟩ : ByteArray).toList) with
            | false => rfl
            | true =>
              have := size_list.1 hh
              rcases hsz with ⟨h, _⟩ | ⟨_, _, h⟩
              · exact absurd h hk
              · omega
          have e2 : (i == (n : Int) - 1) = false := by rw [hr2] at hdl; simp at hdl ⊢; omega
          rw [e1, e2] at h; cases h
      · have hc := over_cut f0 f1
        rw [← hp] at hc
        have hcs := cut_size (s := s) f0 (by omega : f ≤ t.pos) (by omega)
        refine Tri.ret (free_spec (s := cut s f t.pos) (by unfold Short; omega) I3 _) fun I4 hI4 => ⟨_, rfl, _, .refl _, ?_⟩
        rw [decide_eq_true hc]
        have hts : Short t.text := by unfold Short; omega
        refine (Tokens_spec hts I4 _).mono fun e I5 G hI5 ⟨hG, hq⟩ => ?_
        subst hG
        rcases hor with ⟨hk, hr⟩ | ⟨hk, hr⟩
        · subst hr
          have htz : t = zTok s.size := by
            rcases hsz with ⟨_, _, h⟩ | ⟨h, _⟩
            · exact h
            · omega
          have hte : t.text = ⟨#[]⟩ := by rw [htz]; rfl
          rw [hte, tokens_empty] at hq
          obtain ⟨a1, n1, c1, he1, hS1⟩ := hq
          have hn1 := hS1.1
          simp only [List.length_cons, List.length_nil] at hn1 hdl
          refine ⟨_, _, _, _, _, he1, _, .refl _, fun h => by (cases h), fun _ => ⟨fun h => by simp at h, fun _ => ⟨fun h => ?_, fun _ => ⟨fun h => ?_, fun _ => ?_⟩⟩⟩⟩
          · have := of_decide_eq_true h; omega
          · have := of_decide_eq_true h; omega
          · rw [w64 (n := i + 1) (by omega)]
            refine ⟨_, ?_, by omega, by omega, rfl, by omega, by omega, fun h => by omega, fun h => ?_⟩
            · omega
            · rw [htz]; show (s.size : Int) + ((0 : Nat) : Int) = s.size; omega
        · obtain ⟨t2, r2, hr2, _⟩ := toks_ne (by omega) hnxt.1 hr
          rw [tokens_alone f0 f1 h4096.1 htok hk] at hq
          obtain ⟨a1, n1, c1, he1, hS1⟩ := hq
          have hn1 := hS1.1
          simp only [List.length_cons, List.length_nil] at hn1
          rw [hr2, List.length_cons] at hdl
          obtain ⟨ad1, u, had1, hu, hrd1⟩ := hS1.at (i := 0) (by omega) (by omega)
          obtain rfl : (⟨t.kind, t.text, t.typ, t.n, 0⟩ : Tok) = u := by simpa using hu
          refine ⟨_, _, _, _, _, he1, _, .refl _, fun h => by (cases h), fun _ => ⟨fun h => by simp at h, fun _ => ⟨fun h => ?_, fun _ => ⟨fun _ => ⟨fun h => ?_, fun _ => ⟨⟨by omega, by omega⟩, ad1, had1, _, _, _, _, _, hrd1 _, _, tok_neq ⟨t.kind, t.text, t.typ, t.n, 0⟩ ⟨t.kind, t.text, t.typ, t.n, 0⟩, fun h => ?_, fun _ => ?_⟩⟩, fun h => ?_⟩⟩⟩⟩
          · have := of_decide_eq_true h; omega
          · simp at h; omega
          · rw [tokEq_self] at h; cases h
          · rw [w64 (n := i + 1) (by omega)]
            refine ⟨_, ?_, by omega, by omega, rfl, by omega, by omega, fun h => ?_, fun h => by omega⟩
            · omega
            · rw [hr, show (i + 1).toNat = i.toNat + 1 by omega, ← List.drop_drop, hd]; rfl
          · have := of_decide_eq_false h; omega
    · have hlt := of_decide_eq_false hlt
      have := hfin (by omega)
      show Ending.returned (.bool (f == (s.size : Int))) = _
      rw [this]; simp
    · have := of_decide_eq_false h; omega
end Go.Lx
