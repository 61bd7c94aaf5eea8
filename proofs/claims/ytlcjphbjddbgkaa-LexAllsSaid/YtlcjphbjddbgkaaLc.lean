import Derived.Test.YtlcjphbjddbgkaaLb
import Derived.Test.YtlcjphbjddbgkaaVs
set_option linter.unusedVariables false
set_option linter.unusedSimpArgs false
namespace Go.Lx
open Go.Vc

theorem skip_spec' {s : ByteArray} (hs : Short s) {i : Int} (h0 : 0 ≤ i) (h1 : i ≤ s.size) (I : Imm) (F : Heap) :
    Tri P 61 #[.string s, .int .i64 i] I F (Ret (.int .i64 (overAt s i)) F) := by
  have hs' := hs
  unfold Short at hs'
  refine lex_skip.vc (fun j m I' F' => 0 ≤ j ∧ j ≤ s.size ∧ m = (s.size - j).toNat ∧ overAt s j = overAt s i ∧ F' = F) ?_
  unfold lex_skip.V
  refine ⟨⟨_, h0, h1, rfl, rfl, rfl⟩, fun j m I1 F1 hI ⟨g0, g1, gm, gr, gF⟩ => ⟨fun hlt => ?_, fun hlt => ?_⟩⟩
  · have hlt : j < (s.size : Int) := by simpa using hlt
    subst gF
    have blk : blank (bt s j) = true → ∃ m' : Nat, m' < m ∧ 0 ≤ IntKind.wrap .i64 (j + 1) ∧ IntKind.wrap .i64 (j + 1) ≤ s.size ∧ m' = (s.size - IntKind.wrap .i64 (j + 1)).toNat ∧
        overAt s (IntKind.wrap .i64 (j + 1)) = overAt s i ∧ F1 = F1 := by
      intro hb
      rw [w64 (by omega)]
      exact ⟨_, by omega, by omega, by omega, rfl, by rw [← gr, overAt_blank hlt hb], rfl⟩
    refine ⟨⟨g0, hlt⟩, fun h => blk ?_, fun h32 => ⟨fun h => blk ?_, fun h9 => ⟨fun h => blk ?_, fun h10 => ⟨fun h => blk ?_, fun h13 => ⟨fun h => ?_, fun h35 => ?_⟩⟩⟩⟩⟩
    · simp [blank, h]
    · simp [blank, h]
    · simp [blank, h]
    · simp [blank, h]
    · have h35 : bt s j = 35 := by simpa using h
      refine Tri.ret (run_spec hs g0 g1 no10_spec enters76 I1 F1) fun I2 h2 => ⟨_, rfl, F1, .refl _, ?_⟩
      have hr := runAt_step (p := no10) hlt
      rw [show no10 (bt s j) = true by simp [no10, h35], if_pos rfl] at hr
      have := runAt_le (p := no10) (s := s) (i := j + 1) (by omega)
      exact ⟨_, by omega, by omega, by omega, rfl, by rw [← gr, overAt_remark hlt h35], rfl⟩
    · refine ⟨?_, rfl⟩
      have : overAt s j = j := overAt_token hlt (by simp only [blank, h32, h9, h10, h13]; rfl) (by simpa using h35)
      rw [this] at gr
      rw [gr]
  · have hlt : ¬ j < (s.size : Int) := by simpa using hlt
    refine ⟨?_, gF⟩
    have : overAt s j = j := overR_end (by omega)
    rw [this] at gr
    rw [gr]

/-! ### the words -/
def encS (x : ByteArray) : List Value := [.string x]
theorem Words_spec (I : Imm) (F : Heap) : Tri P 21 #[] I F fun e I' G => ∃ b : Nat, e = .returned (.slice (some ⟨b, 0, none⟩) 41 41) ∧ Sl I' 1 encS (some ⟨b, 0, none⟩) 41 wordsL ∧ G = F := by
  refine lex_Words.vc fun b I1 hI hb => ⟨b, rfl, ?_, rfl⟩
  exact Sl.of_cells (f := encS) (z := 1) (l := wordsL) (fun _ => rfl) hb (by kernel_rfl)

theorem isNaN_spec (x : ByteArray) (I : Imm) (F : Heap) : Tri P 77 #[.string x] I F (Ret (.bool false) F) := by
  refine cmp_isNaN.vc ?_
  unfold cmp_isNaN.V
  exact ⟨by simp, rfl⟩
theorem isNaN'_spec (x : ByteArray) (I : Imm) (F : Heap) : Tri P 74 #[.string x] I F (Ret (.bool false) F) := by
  refine slices_isNaN.vc ?_
  unfold slices_isNaN.V
  exact ⟨by simp, rfl⟩
theorem Less_spec (x y : ByteArray) (I : Imm) (F : Heap) : Tri P 73 #[.string x, .string y] I F (Ret (.bool (Op.bytesLess x.toList y.toList)) F) := by
  refine cmp_Less.vc ?_
  unfold cmp_Less.V
  exact Tri.ret (isNaN_spec x I F) fun I1 h1 => ⟨_, rfl, F, .refl _, fun h => by (cases h), fun _ => ⟨rfl, rfl⟩⟩

theorem less_trans : ∀ {a b c : List UInt8}, Op.bytesLess a b = true → Op.bytesLess b c = true → Op.bytesLess a c = true
  | a, b, [], _, h => by cases b <;> simp [Op.bytesLess] at h
  | [], b, z :: c, _, _ => rfl
  | x :: a, [], z :: c, h, _ => by simp [Op.bytesLess] at h
  | x :: a, y :: b, z :: c, h1, h2 => by
    simp only [Op.bytesLess, Bool.or_eq_true, Bool.and_eq_true, decide_eq_true_eq, beq_iff_eq] at h1 h2 ⊢
    rcases h1 with h1 | ⟨rfl, h1⟩
    · rcases h2 with h2 | ⟨rfl, h2⟩
      · exact .inl (UInt8.lt_trans h1 h2)
      · exact .inl h1
    · rcases h2 with h2 | ⟨rfl, h2⟩
      · exact .inl h2
      · exact .inr ⟨rfl, less_trans h1 h2⟩
def lessW (x y : ByteArray) : Bool := Op.bytesLess x.toList y.toList
theorem words_sorted : ∀ i j : Fin 41, i < j → lessW (wordsL[i]'(by simp [wordsL])) (wordsL[j]'(by simp [wordsL])) = true := by decide +kernel
theorem words_self : ∀ i : Fin 41, lessW (wordsL[i]'(by simp [wordsL])) (wordsL[i]'(by simp [wordsL])) = false := by decide +kernel
theorem words_lt {i j : Nat} {x y : ByteArray} (h : i < j) (hx : wordsL[i]? = some x) (hy : wordsL[j]? = some y) : lessW x y = true := by
  have hj : j < 41 := by
    rcases Nat.lt_or_ge j wordsL.length with h | h
    · exact h
    · simp [List.getElem?_eq_none h] at hy
  have := words_sorted ⟨i, by omega⟩ ⟨j, hj⟩ h
  rw [List.getElem?_eq_getElem (by show i < 41; omega)] at hx
  rw [List.getElem?_eq_getElem (by show j < 41; omega)] at hy
  cases hx; cases hy; exact this
theorem words_irr {i : Nat} {x : ByteArray} (hx : wordsL[i]? = some x) : lessW x x = false := by
  have hj : i < 41 := by
    rcases Nat.lt_or_ge i wordsL.length with h | h
    · exact h
    · simp [List.getElem?_eq_none h] at hx
  have := words_self ⟨i, hj⟩
  rw [List.getElem?_eq_getElem (by show i < 41; omega)] at hx
  cases hx; exact this

theorem wu64 {n : Int} (h : 0 ≤ n ∧ n ≤ 18446744073709551615) : IntKind.wrap .u64 n = n := by
  simp only [IntKind.wrap, IntKind.bits, IntKind.signed]; simp; omega
theorem mid_eq {i j : Int} (h0 : 0 ≤ i) (h : i < j) (hj : j ≤ 41) : IntKind.wrap .i64 (Int.fdiv (IntKind.wrap .u64 (IntKind.wrap .i64 (i + j))) (2 ^ 1)) = (i + j) / 2 := by
  rw [w64 (n := i + j) (by omega), wu64 (n := i + j) (by omega), Int.fdiv_eq_ediv_of_nonneg _ (by decide)]
  rw [show ((2 : Int) ^ 1) = 2 by rfl, w64 (by omega)]

theorem Search_spec {a : Option Addr} {c : Nat} {t : ByteArray} {I : Imm} (hS : Sl I 1 encS a 41 wordsL) (F : Heap) :
    Tri P 45 #[.slice a 41 c, .string t] I F fun e I' G => ∃ i : Int, e = .returned (.tuple #[.int .i64 i, .bool (wordB t)]) ∧ G = F := by
  refine slices_BinarySearch.vc (fun i j m I' F' => 0 ≤ i ∧ i ≤ j ∧ j ≤ 41 ∧ m = (j - i).toNat ∧ (∀ (k : Nat) (x : ByteArray), wordsL[k]? = some x → (k : Int) < i → lessW x t = true) ∧
    (∀ (k : Nat) (x : ByteArray), wordsL[k]? = some x → j ≤ k → lessW x t = false) ∧ F' = F) ?_
  unfold slices_BinarySearch.V
  refine ⟨⟨_, by omega, by decide, by decide, rfl, fun k x _ h => by omega, fun k x hx h => ?_, rfl⟩, fun i j m I1 F1 hI ⟨g0, g1, g2, gm, gl, gr, gF⟩ => ⟨fun hlt => ?_, fun hlt => ?_⟩⟩
  · have : wordsL.length = 41 := rfl
    simp [List.getElem?_eq_none (l := wordsL) (i := k) (by omega)] at hx
  · have hlt : i < j := by simpa using hlt
    subst gF
    have hS1 := hS.mono hI
    have hmid := mid_eq g0 hlt g2
    generalize IntKind.wrap .i64 (Int.fdiv (IntKind.wrap .u64 (IntKind.wrap .i64 (i + j))) (2 ^ 1)) = h at hmid ⊢
    obtain ⟨ad, x, ha, hx, hrd⟩ := hS1.at (i := h) (by omega) (by omega)
    refine ⟨⟨by omega, by show h < 41; omega⟩, ad, ha, x, hrd F1, ?_⟩
    refine Tri.ret (Less_spec x t I1 F1) fun I2 h2 => ⟨_, rfl, F1, .refl _, fun hc => ?_, fun hc => ?_⟩
    · rw [w64 (by omega)]
      refine ⟨(j - (h + 1)).toNat, by omega, by omega, by omega, g2, rfl, fun k y hy hk => ?_, gr, rfl⟩
      by_cases hkh : k = h.toNat
      · subst hkh; rw [hx] at hy; cases hy; exact hc
      · exact less_trans (words_lt (by omega) hy hx) hc
    · refine ⟨(h - i).toNat, by omega, g0, by omega, by omega, rfl, gl, fun k y hy hk => ?_, rfl⟩
      by_cases hkh : k = h.toNat
      · subst hkh; rw [hx] at hy; cases hy; exact hc
      · cases hlk : lessW y t with
        | false => rfl
        | true => have := less_trans (words_lt (i := h.toNat) (by omega) hx hy) hlk; rw [hc] at this; cases this
  · have hlt : ¬ i < j := by simpa using hlt
    have hij : i = j := by omega
    subst hij
    subst gF
    have hS1 := hS.mono hI
    have no : (∀ (k : Nat) (x : ByteArray), wordsL[k]? = some x → (k : Int) = i → (x.toList == t.toList) = false) → wordB t = false := by
      intro hi
      unfold wordB
      rw [List.any_eq_false]
      intro x hx
      obtain ⟨k, hk⟩ := List.mem_iff_getElem?.1 hx
      intro he
      have he' : x.toList = t.toList := by simpa using he
      have hirr := words_irr hk
      unfold lessW at hirr
      rcases Int.lt_or_le (k : Int) i with h | h
      · have := gl k x hk h
        unfold lessW at this
        rw [← he', hirr] at this; cases this
      · rcases Int.lt_or_eq_of_le h with h' | h'
        · obtain ⟨ad, y, ha, hy, hrd⟩ := hS1.at (i := i) g0 (by
            have : k < 41 := by
              rcases Nat.lt_or_ge k wordsL.length with h | h
              · exact h
              · simp [List.getElem?_eq_none h] at hk
            show i < 41
            omega)
          have h1 := words_lt (i := i.toNat) (j := k) (by omega) hy hk
          have h2 := gr i.toNat y hy (by omega)
          unfold lessW at h1 h2
          rw [he', h2] at h1; cases h1
        · rw [hi k x hk h'.symm] at he; cases he
    refine ⟨fun hlt => ?_, fun hlt => ?_⟩
    · have hlt : i < 41 := by simpa using hlt
      obtain ⟨ad, x, ha, hx, hrd⟩ := hS1.at (i := i) g0 (by exact hlt)
      refine ⟨⟨g0, hlt⟩, ad, ha, x, hrd F1, fun he => ?_, fun he => ?_⟩
      · refine ⟨i, ?_, rfl⟩
        have : wordB t = true := by
          unfold wordB
          exact List.any_eq_true.2 ⟨x, List.mem_of_getElem? hx, he⟩
        rw [this]
      · have hno := no fun k y hk hki => by
          have : k = i.toNat := by omega
          subst this
          rw [hx] at hk; cases hk; exact he
        refine ⟨⟨g0, hlt⟩, ad, ha, x, hrd F1, ?_⟩
        refine Tri.ret (isNaN'_spec x I1 F1) fun I2 h2 => ⟨_, rfl, F1, .refl _, fun h => by (cases h), fun _ => ⟨i, ?_, rfl⟩⟩
        rw [hno]
    · have hlt : ¬ i < 41 := by simpa using hlt
      refine ⟨i, ?_, rfl⟩
      rw [no fun k y hk hki => by
        have : wordsL.length = 41 := rfl
        simp [List.getElem?_eq_none (l := wordsL) (i := k) (by omega)] at hk]

theorem Word_spec (t : ByteArray) (I : Imm) (F : Heap) : Tri P 18 #[.string t] I F (Ret (.bool (wordB t)) F) := by
  refine lex_Word.vc ?_
  unfold lex_Word.V
  refine (Words_spec I F).mono fun e I1 G hI ⟨b, he, hS, hG⟩ => ?_
  subst hG
  refine ⟨_, _, _, he, _, .refl _, ?_⟩
  refine (Search_spec hS G).mono fun e I2 G2 hI2 ⟨i, he, hG⟩ => ?_
  subst hG
  exact ⟨_, _, he, _, .refl _, rfl, rfl⟩
end Go.Lx
