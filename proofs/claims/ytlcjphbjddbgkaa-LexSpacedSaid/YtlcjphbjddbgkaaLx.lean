import Derived.Test.YtlcjphbjddbgkaaLw
import Derived.Test.YtlcjphbjddbgkaaVx8
set_option linter.unusedVariables false
set_option linter.unusedSimpArgs false
namespace Go.Lx
open Go.Vc

theorem take_snoc {l : List Tok} {i : Nat} {t : Tok} (h : l[i]? = some t) : l.take (i + 1) = l.take i ++ [t] := by
  rw [List.take_add_one, h]; rfl
theorem text_small {s : ByteArray} : ∀ (n : Nat) (f : Int), 0 ≤ f → f ≤ s.size → ∀ t ∈ (toksF s n f).1, t.text.size ≤ s.size
  | 0, f, _, _, t, h => by simp [toksF] at h
  | n + 1, f, h0, h1, t, h => by
    unfold toksF at h
    rcases tokR_cases h0 h1 with ⟨u, htok, htat⟩ | ⟨e', htok, he⟩
    · rw [htok] at h
      have hnx := tok_next h0 h1 htok
      have hu : u.text.size ≤ s.size := by have := htat.1; have := htat.2.1; have := overAt_le h1; omega
      by_cases hk : u.kind = 0
      · simp only [hk, if_true, List.mem_singleton] at h
        subst h; exact hu
      · simp only [hk, if_false, List.mem_cons] at h
        rcases h with h | h
        · subst h; exact hu
        · exact text_small n _ (by omega) (by omega) t h
    · rw [htok] at h; simp at h
theorem LexSpaced_spec (s : ByteArray) {ga : Option Addr} {gn gc : Nat} {gl : List Int} {I : Imm} (hG : Sl I 1 encB ga gn gl) (hgl : ∀ x ∈ gl, 0 ≤ x) (F : Heap) :
    Tri P 8 #[.string s, .slice ga gn gc] I F fun e I' G => e = .returned (.bool true) := by
  rcases Int.lt_or_le 4096 (s.size : Int) with hbig | hsmall
  · have hR : tokensR s = .error (110, 0) := by unfold tokensR; rw [if_pos (by omega)]
    refine law11_LexSpaced.vc (fun _ _ _ _ _ _ _ _ _ _ _ _ _ => False) (fun _ _ _ _ _ _ _ _ _ _ _ _ _ _ _ _ _ _ _ _ => False) ?_
    unfold law11_LexSpaced.V
    refine Tri.ret (awake_spec I F) fun I1 hI1 => ⟨_, rfl, _, .refl _, fun h => by (cases h), fun _ => ⟨fun _ => rfl, fun hs => ⟨fun _ => rfl, fun hg => ?_⟩⟩⟩
    have hs : Short s := short_small (by have := of_decide_eq_false hs; omega)
    refine (Tokens_spec hs I1 _).mono fun e I2 G hI2 ⟨hG, he⟩ => ?_
    rw [hR] at he
    subst hG
    exact ⟨_, _, _, _, _, he, _, .refl _, fun h => rfl, fun h => absurd h (by decide)⟩
  rcases tokensR_small hsmall with ⟨l, hl, hR⟩ | ⟨l, e, p, hl, hR, hne, _⟩
  · have hlen := tokensR_len' hR
    have htx : ∀ t ∈ l, t.text.size ≤ s.size := fun t ht => by
      have h2 : (toksF s ((s.size : Int) - 0 + 1).toNat 0).1 = l := by unfold toks at hl; rw [hl]
      exact text_small _ 0 (by omega) (by omega) t (by rw [h2]; exact ht)
    refine law11_LexSpaced.vc (fun up a n c er to out i m I0 F0 I' F' => 0 ≤ i ∧ i ≤ l.length ∧ m = (l.length - i).toNat ∧ Spaced (l.take i.toNat) out)
      (fun up a n c er to out j a2 n2 c2 e2 t2 x i m I0 F0 I' F' => 0 ≤ i ∧ i ≤ n2 ∧ m = (n2 - i).toNat) ?_
    unfold law11_LexSpaced.V
    refine Tri.ret (awake_spec I F) fun I1 hI1 => ⟨_, rfl, _, .refl _, fun h => by (cases h), fun _ => ⟨fun _ => rfl, fun hs => ⟨fun _ => rfl, fun hg => ?_⟩⟩⟩
    have hs : Short s := short_small (by have := of_decide_eq_false hs; omega)
    refine (Tokens_spec hs I1 _).mono fun e I2 G hI2 ⟨hG', hq⟩ => ?_
    rw [hR] at hq
    obtain ⟨a, n, c, he, hS⟩ := hq
    subst hG'
    have hn := hS.1
    have hgn := hG.1
    have hmax : (IntKind.i64.max) = 9223372036854775807 := rfl
    refine ⟨_, _, _, _, _, he, _, .refl _, fun h => by simp at h, fun _ => ⟨⟨_, by omega, by omega, rfl, by simpa using Spaced.nil⟩, ?_⟩⟩
    intro out i m I3 F3 hI3 ⟨i0, i1, im, hsp⟩
    refine ⟨fun hlt => ⟨fun hout => ⟨fun hgi => ?_, fun hgi => ?_⟩, fun hout => ⟨fun _ => rfl, fun h => ?_⟩⟩, fun hlt => ⟨fun _ => rfl, fun hout => ?_⟩⟩
    · have hlt := of_decide_eq_true hlt
      have hout := of_decide_eq_true hout
      have hgi := of_decide_eq_true hgi
      intro b I4 hI4 hb
      have hB : Sl I4 1 encS (some ⟨b, 0, none⟩) 6 gapsL := Sl.of_cells (f := encS) (z := 1) (l := gapsL) (fun _ => rfl) hb rfl
      obtain ⟨ad, x, had, hx, hrd⟩ := (hG.mono (Imm.le_trans hI1 (Imm.le_trans hI2 (Imm.le_trans hI3 hI4)))).at (i := i) i0 hgi
      have hx0 := hgl x (List.mem_of_getElem? hx)
      have hmod : 0 ≤ Int.tmod x 6 ∧ Int.tmod x 6 < 6 := by rw [Int.tmod_eq_emod_of_nonneg hx0]; omega
      obtain ⟨adg, g, hadg, hg', hrdg⟩ := hB.at (i := Int.tmod x 6) hmod.1 hmod.2
      obtain ⟨adt, t, hadt, ht, hrdt⟩ := (hS.mono (Imm.le_trans hI3 hI4)).at (i := i) i0 (by omega)
      have hgm := List.mem_of_getElem? hg'
      have hgf := gap_facts hgm
      have htz := htx t (List.mem_of_getElem? ht)
      refine ⟨⟨i0, hgi⟩, ad, had, x, hrd _, hmod, adg, hadg, g, hrdg _, ⟨i0, by omega⟩, adt, hadt, t.text, (hrdt _).field rfl, by rw [hmax]; omega, by rw [hmax, ByteArray.size_append]; omega, ?_⟩
      rw [w64 (by omega)]
      refine ⟨_, ?_, by omega, by omega, rfl, ?_⟩
      · omega
      · rw [show (i + 1).toNat = i.toNat + 1 by omega, take_snoc ht]; exact hsp.snoc t hgm
    · have hlt := of_decide_eq_true hlt
      have hout := of_decide_eq_true hout
      obtain ⟨adt, t, hadt, ht, hrdt⟩ := (hS.mono hI3).at (i := i) i0 (by omega)
      have htz := htx t (List.mem_of_getElem? ht)
      refine ⟨⟨i0, by omega⟩, adt, hadt, t.text, (hrdt _).field rfl, by rw [hmax]; omega, by rw [hmax, ByteArray.size_append]; show ((out.size + t.text.size + 1 : Nat) : Int) ≤ _; omega, ?_⟩
      rw [w64 (by omega)]
      refine ⟨_, ?_, by omega, by omega, rfl, ?_⟩
      · omega
      · rw [show (i + 1).toNat = i.toNat + 1 by omega, take_snoc ht]; exact hsp.snoc t (by simp [gapsL])
    · have h1 := of_decide_eq_false hout
      have h2 := of_decide_eq_false h
      omega
    · have hlt := of_decide_eq_false hlt
      have hout := of_decide_eq_false hout
      rw [List.take_of_length_le (by omega)] at hsp
      obtain ⟨m2, hm2, hlike⟩ := spaced_toks l 0 (Int.le_refl 0) (by omega) hl out hsp
      have hRo : tokensR out = .ok m2 := by unfold tokensR; rw [if_neg (by omega), hm2]
      have hml := hlike.len
      refine (Tokens_spec (s := out) (by unfold Short; omega) I3 _).mono fun e I7 G hI7 ⟨hG', hq⟩ => ?_
      rw [hRo] at hq
      obtain ⟨a2, n2, c2, he2, hS2⟩ := hq
      subst hG'
      have hn2 := hS2.1
      refine ⟨_, _, _, _, _, he2, _, .refl _, fun h => by simp at h, fun _ => ⟨fun h => ?_, fun _ => ⟨⟨_, by omega, by omega, rfl⟩, ?_⟩⟩⟩
      · have : n2 = n := by omega
        rw [this] at h; simp at h
      intro x i2 m12 I8 F7 hI8 ⟨j0, j1, jm⟩
      refine ⟨fun hj => ?_, fun _ => rfl⟩
      have hj := of_decide_eq_true hj
      obtain ⟨ad6, t, had6, ht, hrd6⟩ := (hS2.mono hI8).at (i := i2) j0 hj
      obtain ⟨ad7, u, had7, hu, hrd7⟩ := (hS.mono (Imm.le_trans hI3 (Imm.le_trans hI7 hI8))).at (i := i2) j0 (by omega)
      obtain ⟨l1, l2, l3, l4⟩ := hlike.get ht hu
      refine ⟨⟨j0, hj⟩, ad6, had6, _, _, _, _, _, hrd6 _, fun b_a => ⟨⟨j0, by omega⟩, ad7, had7, _, _, _, _, _, hrd7 _, fun b_b => ⟨_, tok_neq ⟨t.kind, t.text, t.typ, t.n, 0⟩ ⟨u.kind, u.text, u.typ, u.n, 0⟩, fun h => ?_, fun _ => ?_⟩⟩⟩
      · rw [l1, l2, l3, l4, tokEq_self] at h; cases h
      · rw [w64 (by omega)]; exact ⟨_, by omega, by omega, by omega, rfl⟩
  · refine law11_LexSpaced.vc (fun _ _ _ _ _ _ _ _ _ _ _ _ _ => False) (fun _ _ _ _ _ _ _ _ _ _ _ _ _ _ _ _ _ _ _ _ => False) ?_
    unfold law11_LexSpaced.V
    refine Tri.ret (awake_spec I F) fun I1 hI1 => ⟨_, rfl, _, .refl _, fun h => by (cases h), fun _ => ⟨fun _ => rfl, fun hs => ⟨fun _ => rfl, fun hg => ?_⟩⟩⟩
    have hs : Short s := short_small (by omega)
    refine (Tokens_spec hs I1 _).mono fun e' I2 G hI2 ⟨hG, he⟩ => ?_
    rw [hR] at he
    subst hG
    exact ⟨_, _, _, _, _, he, _, .refl _, fun h => rfl, fun h => by rw [hne] at h; cases h⟩
end Go.Lx
