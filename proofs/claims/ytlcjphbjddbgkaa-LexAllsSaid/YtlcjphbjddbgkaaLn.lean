import Derived.Test.YtlcjphbjddbgkaaLm
import Derived.Test.YtlcjphbjddbgkaaVx4
set_option linter.unusedVariables false
set_option linter.unusedSimpArgs false
namespace Go.Lx
open Go.Vc

theorem ownNodes_spec {rs : List Row} {ls : List (List (Ck 8))} {H F : Heap} {la : Option Addr} {ln lc : Nat} {I : Imm} (hS : Sl I 1 Row.enc la ln rs) (hH : RowsH 8 114 rs ls H) (hb : Bd ls) (hrs : rs.length ≤ 1000000000) :
    Tri P 33 #[.slice la ln lc] I (H ++ F) fun e I' G => e = .returned (.bool true) ∧ G = F := by
  refine OwnPost.keep ?_
  have hln := hS.1
  refine ref00_ownNodes.vc
    (fun i m I0 F0 I' F' => 0 ≤ i ∧ i ≤ ln ∧ m = (ln - i).toNat ∧ ∃ ls H, RowsH 8 114 rs ls H ∧ F'.Perm (H ++ F) ∧ Bd ls ∧ ∀ (j : Nat) l, (j : Int) < i → ls[j]? = some l → MkAll 7 mkV j l)
    (fun i k m I0 F0 I' F' => 0 ≤ i ∧ 0 ≤ k ∧ ∃ r, rs[i.toNat]? = some r ∧ k ≤ r.n ∧ m = (r.n - k).toNat ∧ ∃ ls H, RowsH 8 114 rs ls H ∧ F'.Perm (H ++ F) ∧ Bd ls ∧ (∀ (j : Nat) l, (j : Int) < i → ls[j]? = some l → MkAll 7 mkV j l) ∧
      ∀ l, ls[i.toNat]? = some l → MkTo 7 mkV i k l)
    (fun a n c i m I0 F0 I' F' => 0 ≤ i ∧ i ≤ ln ∧ m = (ln - i).toNat ∧ ∃ ls H xs Al, RowsH 8 114 (rs.drop i.toNat) (ls.drop i.toNat) H ∧ Acc 1 Row.enc 109 a n c xs Al ∧ F'.Perm (Al ++ (H ++ F)) ∧ (xs.length : Int) = i ∧ Bd ls ∧
      (∀ (j : Nat) l, ls[j]? = some l → MkAll 7 mkV j l) ∧ ∀ (j : Nat) r x, (j : Int) < i → rs[j]? = some r → xs[j]? = some x → Done (z := 8) 7 8 mkV bhV I' j r x)
    (fun a n c i xa xn xc k m I0 F0 I' F' => 0 ≤ i ∧ i < ln ∧ 0 ≤ k ∧ k ≤ 8 ∧ m = (8 - k).toNat ∧ ∃ (ls : List (List (Ck 8))) (H : Heap) (xs : List Row) (Al : Heap) (r : Row) (l t : List (Ck 8)) (A : Heap), rs[i.toNat]? = some r ∧ RowsH 8 114 (rs.drop (i.toNat + 1)) (ls.drop (i.toNat + 1)) H ∧ Acc 1 Row.enc 109 a n c xs Al ∧
      Acc 8 cv 114 xa xn xc (l ++ t) A ∧ F'.Perm (A ++ (Al ++ (H ++ F))) ∧ (xs.length : Int) = i ∧ Bd ls ∧ (∀ (j : Nat) l, ls[j]? = some l → MkAll 7 mkV j l) ∧ MkAll 7 mkV i l ∧ (t.length : Int) = k ∧ MkAll 7 bhV i t ∧ r.n = l.length ∧ l.length ≤ 1000000000 ∧
      (xa = r.a ∨ Sl I' 8 cv r.a r.n l) ∧ ∀ (j : Nat) r x, (j : Int) < i → rs[j]? = some r → xs[j]? = some x → Done (z := 8) 7 8 mkV bhV I' j r x)
    (fun a n c x i m I0 F0 I' F' => 0 ≤ i ∧ i ≤ ln ∧ m = (ln - i).toNat ∧ (∃ A, F'.Perm (A ++ F)) ∧ ∃ xs, SlG I' F' 1 Row.enc a n xs ∧ xs.length = ln ∧ ∀ (j : Nat) r x, rs[j]? = some r → xs[j]? = some x → Done (z := 8) 7 8 mkV bhV I' j r x)
    (fun a n c i nn x k m I0 F0 I' F' => 0 ≤ i ∧ i < ln ∧ 0 ≤ k ∧ (∃ r, rs[i.toNat]? = some r ∧ nn = r.n ∧ r.n ≤ 1000000000 ∧ k ≤ r.n ∧ m = (r.n - k).toNat) ∧ (∃ A, F'.Perm (A ++ F)) ∧ ∃ xs, SlG I' F' 1 Row.enc a n xs ∧ xs.length = ln ∧ ∀ (j : Nat) r x, rs[j]? = some r → xs[j]? = some x → Done (z := 8) 7 8 mkV bhV I' j r x)
    (fun a n c i nn x k m I0 F0 I' F' => 0 ≤ i ∧ i < ln ∧ 0 ≤ k ∧ k ≤ 8 ∧ m = (8 - k).toNat ∧ (∃ r, rs[i.toNat]? = some r ∧ nn = r.n ∧ r.n ≤ 1000000000) ∧ (∃ A, F'.Perm (A ++ F)) ∧ ∃ xs, SlG I' F' 1 Row.enc a n xs ∧ xs.length = ln ∧ ∀ (j : Nat) r x, rs[j]? = some r → xs[j]? = some x → Done (z := 8) 7 8 mkV bhV I' j r x) ?_
  unfold ref00_ownNodes.V
  refine ⟨⟨_, by omega, by omega, rfl, ls, H, hH, .refl _, hb, fun j l hj => by omega⟩, ?_⟩
  intro i m1 I1 F1 hI1 ⟨i0, i1, im, ls1, H1, hH1, hp1, hb1, hm1⟩
  have hS1 := hS.mono hI1
  refine ⟨fun hlt => ?_, fun hlt => ?_⟩
  · -- the marks of row i
    have hlt := of_decide_eq_true hlt
    obtain ⟨ad, r, had, hr, hrd⟩ := hS1.at (i := i) i0 (by omega)
    refine ⟨⟨_, i0, by omega, r, hr, by omega, rfl, ls1, H1, hH1, hp1, hb1, hm1, fun l _ q x _ hq => by omega⟩, ?_⟩
    intro k m3 I2 F2 hI2 ⟨_, k0, r', hr', k1, km, ls2, H2, hH2, hp2, hb2, hm2, hmk⟩
    obtain rfl : r = r' := by rw [hr] at hr'; exact Option.some.inj hr'
    have hrd2 := fun G => (hrd G).mono hI2
    refine ⟨⟨i0, by omega⟩, ad, had, _, _, _, hrd2 _, fun hk => ?_, fun hk => ?_⟩
    · have hk := of_decide_eq_true hk
      refine ⟨⟨i0, by omega⟩, ad, had, _, _, _, hrd2 _, spotV i k, fun X => (spot_spec i k I2 X).mono fun e I' G _ ⟨h1, h2⟩ => ⟨h1, by rw [h2]⟩, ⟨k0, by omega⟩, ?_⟩
      obtain ⟨l, A, R, hl, hA, hpA, hset⟩ := hH2.focus hr
      obtain ⟨b, cs, ha, hAe, hlen, hA'⟩ := hA.put (k := k.toNat) (o := 7) (by omega) (by decide) (mkV i k)
      obtain ⟨H3, hH3, hp3⟩ := hset _ _ hA'
      subst hAe
      refine ⟨⟨b, 0, none⟩, ha, cs, 114, R ++ F, ?_, ?_, ?_, m3 - 1, by omega, ?_⟩
      · rw [add_add]; exact hp2.trans (List.Perm.append_right F hpA)
      · rw [add_add]
      · rw [add_add]; exact hlen
      · rw [add_add, w64 (by have := hb2 _ _ hl; have := hA.1; omega)]
        refine ⟨i0, by omega, r, hr, by omega, by omega, _, H3, hH3, ?_, hb2.set hl _, marks_set hm2 _ i0, fun l' hl' => ?_⟩
        · exact (List.Perm.append_right F hp3).symm
        · have hlt2 : i.toNat < ls2.length := (List.getElem?_eq_some_iff.1 hl).1
          rw [List.getElem?_set_self hlt2] at hl'
          obtain rfl : l.modify k.toNat (setC 7 (mkV i k)) = l' := Option.some.inj hl'
          exact (hmk l hl).step (by decide) k0
    · have hk := of_decide_eq_false hk
      rw [w64 (by omega)]
      refine ⟨_, ?_, by omega, by omega, rfl, ls2, H2, hH2, hp2, hb2, fun j l hj hl => ?_⟩
      · omega
      · rcases Int.lt_or_eq_of_le (Int.lt_add_one_iff.1 hj) with h | h
        · exact hm2 j l h hl
        · have hji : j = i.toNat := by omega
          subst hji
          have hmk' := hmk l hl
          obtain ⟨l', A, R, hl', hA, _⟩ := hH2.focus hr
          obtain rfl : l' = l := by rw [hl'] at hl; exact Option.some.inj hl
          intro q x hx
          have hq := (List.getElem?_eq_some_iff.1 hx).1
          rw [h]
          exact hmk' q x hx (by have := hA.1; omega)
  · -- the rows grow
    have hlt := of_decide_eq_false hlt
    have hall : ∀ (j : Nat) l, ls1[j]? = some l → MkAll 7 mkV j l := fun j l hl => hm1 j l (by have := hH1.len; have := (List.getElem?_eq_some_iff.1 hl).1; omega) hl
    refine ⟨⟨_, by omega, by omega, rfl, ls1, H1, [], [], hH1, Acc.nil, hp1, rfl, hb1, hall, fun j r x hj => by omega⟩, ?_⟩
    intro a n c i m7 I4 F4 hI4 ⟨i0, i1, im, ls4, H4, xs, Al, hH4, hAl, hp4, hxl, hb4, hm4, hd4⟩
    have hS4 := hS1.mono hI4
    refine ⟨fun hlt => ?_, fun hlt => ?_⟩
    · have hlt := of_decide_eq_true hlt
      obtain ⟨ad, r, had, hr, hrd⟩ := hS4.at (i := i) i0 (by omega)
      obtain ⟨l, A, H5, hl, hHe, hA, hH5⟩ := hH4.drop hr
      subst hHe
      refine ⟨⟨i0, by omega⟩, ad, had, _, _, _, hrd _, ⟨_, i0, by omega, by omega, by omega, rfl, ls4, H5, xs, Al, r, l, [], A, hr, hH5, hAl, by rw [List.append_nil]; exact hA, ?_, hxl, hb4, hm4, by have := hm4 _ _ hl; rwa [Int.toNat_of_nonneg i0] at this, rfl, fun q x hx => by simp at hx, hA.1, hb4 _ _ hl, .inl rfl, hd4⟩, ?_⟩
      · refine hp4.trans ?_
        rw [List.append_assoc A H5 F, ← List.append_assoc Al A, ← List.append_assoc A Al]
        exact List.Perm.append_right _ List.perm_append_comm
      intro xa xn xc k m9 I5 F5 hI5 ⟨_, _, k0, k1, km, ls5, H5', xs5, Al5, r5, l5, t5, A5, hr5, hH5', hAl5, hA5, hp5, hxl5, hb5, hm5, hml5, ht5, hmt5, hrn5, hl5, hor5, hd5⟩
      obtain rfl : r = r5 := by rw [hr] at hr5; exact Option.some.inj hr5
      refine ⟨fun hk => ?_, fun hk => ?_⟩
      · have hk := of_decide_eq_true hk
        refine Tri.ret (behind_spec i k I5 _) fun I6 hI6 => ⟨_, rfl, F5, .refl _, ?_⟩
        intro b I7 hI7 hb7
        let y : Ck 8 := ⟨[.int .u8 0, .int .u8 0, .int .u8 0, .int .i64 0, .int .u8 0, .string (⟨#[]⟩ : ByteArray), .slice none 0 0, bhV i k], rfl⟩
        refine TriE.perm (TriE.mono (append_spec' (f := cv) (z := 8) (zv := .agg #[.int .u8 0, .int .u8 0, .int .u8 0, .int .i64 0, .int .u8 0, .string (⟨#[]⟩ : ByteArray), .slice none 0 0, .int .i64 0]) cv_len (by' := 72) (by kernel_rfl) (by kernel_rfl) rfl (by decide) hA5 (xs := [y]) ?_ (by simp) rfl ?_ ?_ (F := Al5 ++ (H5' ++ F)))
          fun v I8 G3 hI8 ⟨a', n', c', A', hv, hA', hG, hor⟩ => ?_) hp5
        · intro x hx u hu
          rw [List.mem_singleton] at hx; subst hx
          exact List.all_eq_true.1 (show (cv y).all (fun u => u.oneCell') = true from rfl) u hu
        · exact ⟨rfl, _, _, _, .inl hb7, fun j hj => by simp [y, cv, bhV]⟩
        · rw [List.length_append]; simp only [List.length_cons, List.length_nil]; omega
        subst hG
        have hle8 : Imm.le I5 I8 := Imm.le_trans hI6 (Imm.le_trans hI7 hI8)
        refine ⟨_, _, _, hv, _, .refl _, m9 - 1, by omega, i0, by omega, by rw [w64 (by omega)]; omega, by rw [w64 (by omega)]; omega, by rw [w64 (by omega)]; omega,
          ls5, H5', xs5, Al5, r, l5, t5 ++ [y], A', hr, hH5', hAl5, by rw [← List.append_assoc]; exact hA', .refl _, hxl5, hb5, hm5, hml5, ?_, ?_, hrn5, hl5, ?_, fun j r x hj hr hx => (hd5 j r x hj hr hx).mono hle8⟩
        · rw [w64 (by omega), List.length_append, List.length_singleton]; omega
        · refine hmt5.snoc ?_
          show some (bhV i k) = _
          rw [ht5]
        · rcases hor5 with h | h
          · rcases hor with h' | h'
            · exact .inl (h'.trans h)
            · right
              rw [← h, hrn5]
              exact Sl.prefix h'
          · exact .inr (h.mono hle8)
      · have hk := of_decide_eq_false hk
        intro b1 I9 hI9 hb9
        refine TriE.pre fun w hw => ?_
        obtain ⟨J, hJ, hsJ, hSx⟩ := hA5.keep cv_len (hw.perm hp5)
        have hle9 : Imm.le I5 J := Imm.le_trans hI9 hJ
        refine ⟨J, _, hJ, hsJ, ?_⟩
        refine TriE.mono (append_spec' (f := Row.enc) (z := 1) (zv := .slice none 0 0) (fun _ => rfl) (by' := 24) (by kernel_rfl) (by kernel_rfl) rfl (by decide) hAl5 (xs := [⟨xa, xn, xc⟩]) (fun x _ => rows_one x) (by simp) rfl ?_ ?_ (F := H5' ++ F))
          fun v I10 G4 hI10 ⟨a', n', c', A', hv, hA', hG, hor⟩ => ?_
        · exact ⟨rfl, _, _, _, .inl (hJ.at hb9), fun j hj => by simp [Row.enc]⟩
        · simp only [List.length_cons, List.length_nil]; omega
        subst hG
        have hle10 : Imm.le I5 I10 := Imm.le_trans hle9 hI10
        refine ⟨_, _, _, hv, _, .refl _, m7 - 1, by omega, by rw [w64 (by omega)]; omega, by rw [w64 (by omega)]; omega, by rw [w64 (by omega)]; omega, ls5, H5', xs5 ++ [⟨xa, xn, xc⟩], A', ?_, hA', .refl _, ?_, hb5, hm5, ?_⟩
        · rw [w64 (by omega), show (i + 1).toNat = i.toNat + 1 by omega]; exact hH5'
        · rw [w64 (by omega), List.length_append, List.length_singleton]; omega
        · intro j r' x' hj hr' hx'
          rw [w64 (by omega)] at hj
          rcases Int.lt_or_eq_of_le (Int.lt_add_one_iff.1 hj) with h | h
          · rw [List.getElem?_append_left (by omega)] at hx'
            exact (hd5 j r' x' h hr' hx').mono hle10
          · have hji : j = i.toNat := by omega
            subst hji
            obtain rfl : r = r' := by rw [hr] at hr'; exact Option.some.inj hr'
            have hx2 : x' = ⟨xa, xn, xc⟩ := by
              have : i.toNat = xs5.length := by omega
              rw [this, List.getElem?_append_right (Nat.le_refl _), Nat.sub_self] at hx'
              simpa using hx'.symm
            subst hx2
            rw [h]
            refine ⟨l5, t5, ?_, hml5, hSx.mono hI10, by omega, hmt5⟩
            rcases hor5 with h' | h'
            · rw [← h', hrn5]; exact (Sl.prefix hSx).mono hI10
            · exact h'.mono hle10
    · -- the look at all of them
      have hlt := of_decide_eq_false hlt
      have hxs : xs.length = ln := by omega
      refine ⟨⟨_, by omega, by omega, rfl, ⟨Al ++ H4, by rw [List.append_assoc]; exact hp4⟩, xs, (Acc.slg (z := 1) (f := Row.enc) (fun _ => rfl) hAl I4 (G := F4) fun x hx => hp4.mem_iff.2 (List.mem_append_left _ hx)), hxs,
        fun j r x hr hx => hd4 j r x (by have := (List.getElem?_eq_some_iff.1 hx).1; omega) hr hx⟩, ?_⟩
      intro x i m13 I11 F9 hI11 ⟨i0, i1, im, ⟨A9, hp9⟩, xs, hsl, hxs, hd⟩
      have hS11 := hS4.mono hI11
      refine ⟨fun hlt => ?_, fun hlt => ⟨rfl, A9, hp9⟩⟩
      have hlt := of_decide_eq_true hlt
      obtain ⟨ad, r, had, hr, hrd⟩ := hS11.at (i := i) i0 (by omega)
      obtain ⟨adx, xr, hadx, hxr, hrdx⟩ := hsl.at (i := i) i0 (by have := hsl.1; omega)
      have hrn : r.n ≤ 1000000000 := by
        obtain ⟨l, A, R, hl, hA, _⟩ := hH.focus hr
        have := hb _ _ hl
        have := hA.1
        omega
      refine ⟨⟨i0, by omega⟩, ad, had, _, _, _, hrd _, ⟨_, i0, by omega, by omega, ⟨r, hr, rfl, hrn, by omega, rfl⟩, ⟨A9, hp9⟩, xs, hsl, hxs, hd⟩, ?_⟩
      intro x1 k m15 I12 F10 hI12 ⟨_, _, k0, ⟨r', hr', hnn, _, k1, km⟩, ⟨A10, hp10⟩, xs2, hsl2, hxs2, hd2⟩
      obtain rfl : r = r' := by rw [hr] at hr'; exact Option.some.inj hr'
      obtain ⟨adx2, xr2, hadx2, hxr2, hrdx2⟩ := hsl2.at (i := i) i0 (by have := hsl2.1; omega)
      obtain ⟨l, t, hSl, hml, hSx, htl, hmt⟩ := hd2 _ _ _ hr hxr2
      have hrl := hSl.1
      have hxl := hSx.1
      rw [List.length_append] at hxl
      have hrd2 := fun G => (hrd G).mono hI12
      have hii : ((i.toNat : Nat) : Int) = i := Int.toNat_of_nonneg i0
      rw [hii] at hml hmt
      refine ⟨fun hk => ?_, fun hk => ?_⟩
      · have hk := of_decide_eq_true hk
        obtain ⟨ad6, y, ha6, hy, hrd6⟩ := hSl.at (i := k) k0 (by omega)
        have hyv := hml _ _ hy
        have hkk : ((k.toNat : Nat) : Int) = k := Int.toNat_of_nonneg k0
        rw [hkk] at hyv
        obtain ⟨ad8, y', ha8, hy', hrd8⟩ := hSx.at (i := k) k0 (by omega)
        obtain rfl : y = y' := by
          rw [List.getElem?_append_left (by omega), hy] at hy'; exact Option.some.inj hy'
        have hsp : ∀ X : Heap, Tri P 66 #[.int .i64 i, .int .i64 k] I12 X fun e I' G => e = .returned (.int .i64 (spotV i k)) ∧ G.Perm X := fun X => (spot_spec i k I12 X).mono fun e I' G _ ⟨h1, h2⟩ => ⟨h1, by rw [h2]⟩
        refine ⟨⟨i0, by omega⟩, ad, had, _, _, _, hrd2 _, ⟨k0, by omega⟩, ad6, ha6, spotV i k, (hrd6 _).field hyv, spotV i k, hsp, fun h => by simp at h, fun _ => ⟨⟨i0, by have := hsl2.1; omega⟩, adx2, hadx2, _, _, _, hrdx2, ⟨k0, by omega⟩, ad8, ha8, spotV i k, (hrd8 _).field hyv, spotV i k, hsp, fun h => by simp at h, fun _ => ?_⟩⟩
        rw [w64 (by omega)]
        exact ⟨_, by omega, i0, by omega, by omega, ⟨r, hr, hnn, hrn, by omega, rfl⟩, ⟨A10, hp10⟩, xs2, hsl2, hxs2, hd2⟩
      · have hk := of_decide_eq_false hk
        refine ⟨⟨_, i0, by omega, by omega, by omega, rfl, ⟨r, hr, rfl, hrn⟩, ⟨A10, hp10⟩, xs2, hsl2, hxs2, hd2⟩, ?_⟩
        intro x2 k3 m20 I15 F11 hI15 ⟨_, _, k0', k1', km', ⟨r', hr', hnn', _⟩, ⟨A11, hp11⟩, xs3, hsl3, hxs3, hd3⟩
        refine ⟨fun hk => ?_, fun hk => ?_⟩
        · have hk := of_decide_eq_true hk
          obtain ⟨adx3, xr3, hadx3, hxr3, hrdx3⟩ := hsl3.at (i := i) i0 (by have := hsl3.1; omega)
          obtain ⟨l3, t3, hSl3, hml3, hSx3, htl3, hmt3⟩ := hd3 _ _ _ hr hxr3
          have hrl3 := hSl3.1
          have hxl3 := hSx3.1
          rw [List.length_append] at hxl3
          rw [hii] at hmt3
          rw [w64 (by omega)]
          obtain ⟨ad10, y, ha10, hy, hrd10⟩ := hSx3.at (i := ((r.n : Nat) : Int) + k3) (by omega) (by omega)
          rw [List.getElem?_append_right (by omega), show (((r.n : Nat) : Int) + k3).toNat - l3.length = k3.toNat by omega] at hy
          have hyv := hmt3 _ _ hy
          have hkk : ((k3.toNat : Nat) : Int) = k3 := Int.toNat_of_nonneg k0'
          rw [hkk] at hyv
          refine ⟨⟨i0, by have := hsl3.1; omega⟩, adx3, hadx3, _, _, _, hrdx3, ⟨by omega, by omega⟩, ad10, ha10, behindV i k3, (hrd10 _).field hyv, behindV i k3, fun X => (behind_spec i k3 I15 X).mono fun e I' G _ ⟨h1, h2⟩ => ⟨h1, by rw [h2]⟩, fun h => by simp at h, fun _ => ?_⟩
          rw [w64 (by omega)]
          exact ⟨_, by omega, i0, by omega, by omega, by omega, rfl, ⟨r, hr, rfl, hrn⟩, ⟨A11, hp11⟩, xs3, hsl3, hxs3, hd3⟩
        · rw [w64 (by omega)]
          exact ⟨_, by omega, by omega, by omega, rfl, ⟨A11, hp11⟩, xs3, hsl3, hxs3, hd3⟩

theorem ownRegs_spec {rs : List Row} {ls : List (List (Ck 11))} {H F : Heap} {la : Option Addr} {ln lc : Nat} {I : Imm} (hS : Sl I 1 Row.enc la ln rs) (hH : RowsH 11 117 rs ls H) (hb : Bd ls) (hrs : rs.length ≤ 1000000000) :
    Tri P 34 #[.slice la ln lc] I (H ++ F) fun e I' G => e = .returned (.bool true) ∧ G = F := by
  refine OwnPost.keep ?_
  have hln := hS.1
  refine ref00_ownRegs.vc
    (fun i m I0 F0 I' F' => 0 ≤ i ∧ i ≤ ln ∧ m = (ln - i).toNat ∧ ∃ ls H, RowsH 11 117 rs ls H ∧ F'.Perm (H ++ F) ∧ Bd ls ∧ ∀ (j : Nat) l, (j : Int) < i → ls[j]? = some l → MkAll 10 mkV j l)
    (fun i k m I0 F0 I' F' => 0 ≤ i ∧ 0 ≤ k ∧ ∃ r, rs[i.toNat]? = some r ∧ k ≤ r.n ∧ m = (r.n - k).toNat ∧ ∃ ls H, RowsH 11 117 rs ls H ∧ F'.Perm (H ++ F) ∧ Bd ls ∧ (∀ (j : Nat) l, (j : Int) < i → ls[j]? = some l → MkAll 10 mkV j l) ∧
      ∀ l, ls[i.toNat]? = some l → MkTo 10 mkV i k l)
    (fun a n c i m I0 F0 I' F' => 0 ≤ i ∧ i ≤ ln ∧ m = (ln - i).toNat ∧ ∃ ls H xs Al, RowsH 11 117 (rs.drop i.toNat) (ls.drop i.toNat) H ∧ Acc 1 Row.enc 115 a n c xs Al ∧ F'.Perm (Al ++ (H ++ F)) ∧ (xs.length : Int) = i ∧ Bd ls ∧
      (∀ (j : Nat) l, ls[j]? = some l → MkAll 10 mkV j l) ∧ ∀ (j : Nat) r x, (j : Int) < i → rs[j]? = some r → xs[j]? = some x → Done (z := 11) 10 8 mkV bhV I' j r x)
    (fun a n c i xa xn xc k m I0 F0 I' F' => 0 ≤ i ∧ i < ln ∧ 0 ≤ k ∧ k ≤ 8 ∧ m = (8 - k).toNat ∧ ∃ (ls : List (List (Ck 11))) (H : Heap) (xs : List Row) (Al : Heap) (r : Row) (l t : List (Ck 11)) (A : Heap), rs[i.toNat]? = some r ∧ RowsH 11 117 (rs.drop (i.toNat + 1)) (ls.drop (i.toNat + 1)) H ∧ Acc 1 Row.enc 115 a n c xs Al ∧
      Acc 11 cv 117 xa xn xc (l ++ t) A ∧ F'.Perm (A ++ (Al ++ (H ++ F))) ∧ (xs.length : Int) = i ∧ Bd ls ∧ (∀ (j : Nat) l, ls[j]? = some l → MkAll 10 mkV j l) ∧ MkAll 10 mkV i l ∧ (t.length : Int) = k ∧ MkAll 10 bhV i t ∧ r.n = l.length ∧ l.length ≤ 1000000000 ∧
      (xa = r.a ∨ Sl I' 11 cv r.a r.n l) ∧ ∀ (j : Nat) r x, (j : Int) < i → rs[j]? = some r → xs[j]? = some x → Done (z := 11) 10 8 mkV bhV I' j r x)
    (fun a n c x i m I0 F0 I' F' => 0 ≤ i ∧ i ≤ ln ∧ m = (ln - i).toNat ∧ (∃ A, F'.Perm (A ++ F)) ∧ ∃ xs, SlG I' F' 1 Row.enc a n xs ∧ xs.length = ln ∧ ∀ (j : Nat) r x, rs[j]? = some r → xs[j]? = some x → Done (z := 11) 10 8 mkV bhV I' j r x)
    (fun a n c i nn x k m I0 F0 I' F' => 0 ≤ i ∧ i < ln ∧ 0 ≤ k ∧ (∃ r, rs[i.toNat]? = some r ∧ nn = r.n ∧ r.n ≤ 1000000000 ∧ k ≤ r.n ∧ m = (r.n - k).toNat) ∧ (∃ A, F'.Perm (A ++ F)) ∧ ∃ xs, SlG I' F' 1 Row.enc a n xs ∧ xs.length = ln ∧ ∀ (j : Nat) r x, rs[j]? = some r → xs[j]? = some x → Done (z := 11) 10 8 mkV bhV I' j r x)
    (fun a n c i nn x k m I0 F0 I' F' => 0 ≤ i ∧ i < ln ∧ 0 ≤ k ∧ k ≤ 8 ∧ m = (8 - k).toNat ∧ (∃ r, rs[i.toNat]? = some r ∧ nn = r.n ∧ r.n ≤ 1000000000) ∧ (∃ A, F'.Perm (A ++ F)) ∧ ∃ xs, SlG I' F' 1 Row.enc a n xs ∧ xs.length = ln ∧ ∀ (j : Nat) r x, rs[j]? = some r → xs[j]? = some x → Done (z := 11) 10 8 mkV bhV I' j r x) ?_
  unfold ref00_ownRegs.V
  refine ⟨⟨_, by omega, by omega, rfl, ls, H, hH, .refl _, hb, fun j l hj => by omega⟩, ?_⟩
  intro i m1 I1 F1 hI1 ⟨i0, i1, im, ls1, H1, hH1, hp1, hb1, hm1⟩
  have hS1 := hS.mono hI1
  refine ⟨fun hlt => ?_, fun hlt => ?_⟩
  · -- the marks of row i
    have hlt := of_decide_eq_true hlt
    obtain ⟨ad, r, had, hr, hrd⟩ := hS1.at (i := i) i0 (by omega)
    refine ⟨⟨_, i0, by omega, r, hr, by omega, rfl, ls1, H1, hH1, hp1, hb1, hm1, fun l _ q x _ hq => by omega⟩, ?_⟩
    intro k m3 I2 F2 hI2 ⟨_, k0, r', hr', k1, km, ls2, H2, hH2, hp2, hb2, hm2, hmk⟩
    obtain rfl : r = r' := by rw [hr] at hr'; exact Option.some.inj hr'
    have hrd2 := fun G => (hrd G).mono hI2
    refine ⟨⟨i0, by omega⟩, ad, had, _, _, _, hrd2 _, fun hk => ?_, fun hk => ?_⟩
    · have hk := of_decide_eq_true hk
      refine ⟨⟨i0, by omega⟩, ad, had, _, _, _, hrd2 _, spotV i k, fun X => (spot_spec i k I2 X).mono fun e I' G _ ⟨h1, h2⟩ => ⟨h1, by rw [h2]⟩, ⟨k0, by omega⟩, ?_⟩
      obtain ⟨l, A, R, hl, hA, hpA, hset⟩ := hH2.focus hr
      obtain ⟨b, cs, ha, hAe, hlen, hA'⟩ := hA.put (k := k.toNat) (o := 10) (by omega) (by decide) (mkV i k)
      obtain ⟨H3, hH3, hp3⟩ := hset _ _ hA'
      subst hAe
      refine ⟨⟨b, 0, none⟩, ha, cs, 117, R ++ F, ?_, ?_, ?_, m3 - 1, by omega, ?_⟩
      · rw [add_add]; exact hp2.trans (List.Perm.append_right F hpA)
      · rw [add_add]
      · rw [add_add]; exact hlen
      · rw [add_add, w64 (by have := hb2 _ _ hl; have := hA.1; omega)]
        refine ⟨i0, by omega, r, hr, by omega, by omega, _, H3, hH3, ?_, hb2.set hl _, marks_set hm2 _ i0, fun l' hl' => ?_⟩
        · exact (List.Perm.append_right F hp3).symm
        · have hlt2 : i.toNat < ls2.length := (List.getElem?_eq_some_iff.1 hl).1
          rw [List.getElem?_set_self hlt2] at hl'
          obtain rfl : l.modify k.toNat (setC 10 (mkV i k)) = l' := Option.some.inj hl'
          exact (hmk l hl).step (by decide) k0
    · have hk := of_decide_eq_false hk
      rw [w64 (by omega)]
      refine ⟨_, ?_, by omega, by omega, rfl, ls2, H2, hH2, hp2, hb2, fun j l hj hl => ?_⟩
      · omega
      · rcases Int.lt_or_eq_of_le (Int.lt_add_one_iff.1 hj) with h | h
        · exact hm2 j l h hl
        · have hji : j = i.toNat := by omega
          subst hji
          have hmk' := hmk l hl
          obtain ⟨l', A, R, hl', hA, _⟩ := hH2.focus hr
          obtain rfl : l' = l := by rw [hl'] at hl; exact Option.some.inj hl
          intro q x hx
          have hq := (List.getElem?_eq_some_iff.1 hx).1
          rw [h]
          exact hmk' q x hx (by have := hA.1; omega)
  · -- the rows grow
    have hlt := of_decide_eq_false hlt
    have hall : ∀ (j : Nat) l, ls1[j]? = some l → MkAll 10 mkV j l := fun j l hl => hm1 j l (by have := hH1.len; have := (List.getElem?_eq_some_iff.1 hl).1; omega) hl
    refine ⟨⟨_, by omega, by omega, rfl, ls1, H1, [], [], hH1, Acc.nil, hp1, rfl, hb1, hall, fun j r x hj => by omega⟩, ?_⟩
    intro a n c i m7 I4 F4 hI4 ⟨i0, i1, im, ls4, H4, xs, Al, hH4, hAl, hp4, hxl, hb4, hm4, hd4⟩
    have hS4 := hS1.mono hI4
    refine ⟨fun hlt => ?_, fun hlt => ?_⟩
    · have hlt := of_decide_eq_true hlt
      obtain ⟨ad, r, had, hr, hrd⟩ := hS4.at (i := i) i0 (by omega)
      obtain ⟨l, A, H5, hl, hHe, hA, hH5⟩ := hH4.drop hr
      subst hHe
      refine ⟨⟨i0, by omega⟩, ad, had, _, _, _, hrd _, ⟨_, i0, by omega, by omega, by omega, rfl, ls4, H5, xs, Al, r, l, [], A, hr, hH5, hAl, by rw [List.append_nil]; exact hA, ?_, hxl, hb4, hm4, by have := hm4 _ _ hl; rwa [Int.toNat_of_nonneg i0] at this, rfl, fun q x hx => by simp at hx, hA.1, hb4 _ _ hl, .inl rfl, hd4⟩, ?_⟩
      · refine hp4.trans ?_
        rw [List.append_assoc A H5 F, ← List.append_assoc Al A, ← List.append_assoc A Al]
        exact List.Perm.append_right _ List.perm_append_comm
      intro xa xn xc k m9 I5 F5 hI5 ⟨_, _, k0, k1, km, ls5, H5', xs5, Al5, r5, l5, t5, A5, hr5, hH5', hAl5, hA5, hp5, hxl5, hb5, hm5, hml5, ht5, hmt5, hrn5, hl5, hor5, hd5⟩
      obtain rfl : r = r5 := by rw [hr] at hr5; exact Option.some.inj hr5
      refine ⟨fun hk => ?_, fun hk => ?_⟩
      · have hk := of_decide_eq_true hk
        refine Tri.ret (behind_spec i k I5 _) fun I6 hI6 => ⟨_, rfl, F5, .refl _, ?_⟩
        intro b I7 hI7 hb7
        let y : Ck 11 := ⟨[.string (⟨#[]⟩ : ByteArray), .int .u8 0, .int .u8 0, .int .u8 0, .int .u8 0, .int .i64 0, .int .u8 0, .string (⟨#[]⟩ : ByteArray), .slice none 0 0, .int .i64 0, bhV i k], rfl⟩
        refine TriE.perm (TriE.mono (append_spec' (f := cv) (z := 11) (zv := .agg #[.string (⟨#[]⟩ : ByteArray), .int .u8 0, .int .u8 0, .int .u8 0, .int .u8 0, .int .i64 0, .int .u8 0, .string (⟨#[]⟩ : ByteArray), .slice none 0 0, .int .i64 0, .int .i64 0]) cv_len (by' := 104) (by kernel_rfl) (by kernel_rfl) rfl (by decide) hA5 (xs := [y]) ?_ (by simp) rfl ?_ ?_ (F := Al5 ++ (H5' ++ F)))
          fun v I8 G3 hI8 ⟨a', n', c', A', hv, hA', hG, hor⟩ => ?_) hp5
        · intro x hx u hu
          rw [List.mem_singleton] at hx; subst hx
          exact List.all_eq_true.1 (show (cv y).all (fun u => u.oneCell') = true from rfl) u hu
        · exact ⟨rfl, _, _, _, .inl hb7, fun j hj => by simp [y, cv, bhV]⟩
        · rw [List.length_append]; simp only [List.length_cons, List.length_nil]; omega
        subst hG
        have hle8 : Imm.le I5 I8 := Imm.le_trans hI6 (Imm.le_trans hI7 hI8)
        refine ⟨_, _, _, hv, _, .refl _, m9 - 1, by omega, i0, by omega, by rw [w64 (by omega)]; omega, by rw [w64 (by omega)]; omega, by rw [w64 (by omega)]; omega,
          ls5, H5', xs5, Al5, r, l5, t5 ++ [y], A', hr, hH5', hAl5, by rw [← List.append_assoc]; exact hA', .refl _, hxl5, hb5, hm5, hml5, ?_, ?_, hrn5, hl5, ?_, fun j r x hj hr hx => (hd5 j r x hj hr hx).mono hle8⟩
        · rw [w64 (by omega), List.length_append, List.length_singleton]; omega
        · refine hmt5.snoc ?_
          show some (bhV i k) = _
          rw [ht5]
        · rcases hor5 with h | h
          · rcases hor with h' | h'
            · exact .inl (h'.trans h)
            · right
              rw [← h, hrn5]
              exact Sl.prefix h'
          · exact .inr (h.mono hle8)
      · have hk := of_decide_eq_false hk
        intro b1 I9 hI9 hb9
        refine TriE.pre fun w hw => ?_
        obtain ⟨J, hJ, hsJ, hSx⟩ := hA5.keep cv_len (hw.perm hp5)
        have hle9 : Imm.le I5 J := Imm.le_trans hI9 hJ
        refine ⟨J, _, hJ, hsJ, ?_⟩
        refine TriE.mono (append_spec' (f := Row.enc) (z := 1) (zv := .slice none 0 0) (fun _ => rfl) (by' := 24) (by kernel_rfl) (by kernel_rfl) rfl (by decide) hAl5 (xs := [⟨xa, xn, xc⟩]) (fun x _ => rows_one x) (by simp) rfl ?_ ?_ (F := H5' ++ F))
          fun v I10 G4 hI10 ⟨a', n', c', A', hv, hA', hG, hor⟩ => ?_
        · exact ⟨rfl, _, _, _, .inl (hJ.at hb9), fun j hj => by simp [Row.enc]⟩
        · simp only [List.length_cons, List.length_nil]; omega
        subst hG
        have hle10 : Imm.le I5 I10 := Imm.le_trans hle9 hI10
        refine ⟨_, _, _, hv, _, .refl _, m7 - 1, by omega, by rw [w64 (by omega)]; omega, by rw [w64 (by omega)]; omega, by rw [w64 (by omega)]; omega, ls5, H5', xs5 ++ [⟨xa, xn, xc⟩], A', ?_, hA', .refl _, ?_, hb5, hm5, ?_⟩
        · rw [w64 (by omega), show (i + 1).toNat = i.toNat + 1 by omega]; exact hH5'
        · rw [w64 (by omega), List.length_append, List.length_singleton]; omega
        · intro j r' x' hj hr' hx'
          rw [w64 (by omega)] at hj
          rcases Int.lt_or_eq_of_le (Int.lt_add_one_iff.1 hj) with h | h
          · rw [List.getElem?_append_left (by omega)] at hx'
            exact (hd5 j r' x' h hr' hx').mono hle10
          · have hji : j = i.toNat := by omega
            subst hji
            obtain rfl : r = r' := by rw [hr] at hr'; exact Option.some.inj hr'
            have hx2 : x' = ⟨xa, xn, xc⟩ := by
              have : i.toNat = xs5.length := by omega
              rw [this, List.getElem?_append_right (Nat.le_refl _), Nat.sub_self] at hx'
              simpa using hx'.symm
            subst hx2
            rw [h]
            refine ⟨l5, t5, ?_, hml5, hSx.mono hI10, by omega, hmt5⟩
            rcases hor5 with h' | h'
            · rw [← h', hrn5]; exact (Sl.prefix hSx).mono hI10
            · exact h'.mono hle10
    · -- the look at all of them
      have hlt := of_decide_eq_false hlt
      have hxs : xs.length = ln := by omega
      refine ⟨⟨_, by omega, by omega, rfl, ⟨Al ++ H4, by rw [List.append_assoc]; exact hp4⟩, xs, (Acc.slg (z := 1) (f := Row.enc) (fun _ => rfl) hAl I4 (G := F4) fun x hx => hp4.mem_iff.2 (List.mem_append_left _ hx)), hxs,
        fun j r x hr hx => hd4 j r x (by have := (List.getElem?_eq_some_iff.1 hx).1; omega) hr hx⟩, ?_⟩
      intro x i m13 I11 F9 hI11 ⟨i0, i1, im, ⟨A9, hp9⟩, xs, hsl, hxs, hd⟩
      have hS11 := hS4.mono hI11
      refine ⟨fun hlt => ?_, fun hlt => ⟨rfl, A9, hp9⟩⟩
      have hlt := of_decide_eq_true hlt
      obtain ⟨ad, r, had, hr, hrd⟩ := hS11.at (i := i) i0 (by omega)
      obtain ⟨adx, xr, hadx, hxr, hrdx⟩ := hsl.at (i := i) i0 (by have := hsl.1; omega)
      have hrn : r.n ≤ 1000000000 := by
        obtain ⟨l, A, R, hl, hA, _⟩ := hH.focus hr
        have := hb _ _ hl
        have := hA.1
        omega
      refine ⟨⟨i0, by omega⟩, ad, had, _, _, _, hrd _, ⟨_, i0, by omega, by omega, ⟨r, hr, rfl, hrn, by omega, rfl⟩, ⟨A9, hp9⟩, xs, hsl, hxs, hd⟩, ?_⟩
      intro x1 k m15 I12 F10 hI12 ⟨_, _, k0, ⟨r', hr', hnn, _, k1, km⟩, ⟨A10, hp10⟩, xs2, hsl2, hxs2, hd2⟩
      obtain rfl : r = r' := by rw [hr] at hr'; exact Option.some.inj hr'
      obtain ⟨adx2, xr2, hadx2, hxr2, hrdx2⟩ := hsl2.at (i := i) i0 (by have := hsl2.1; omega)
      obtain ⟨l, t, hSl, hml, hSx, htl, hmt⟩ := hd2 _ _ _ hr hxr2
      have hrl := hSl.1
      have hxl := hSx.1
      rw [List.length_append] at hxl
      have hrd2 := fun G => (hrd G).mono hI12
      have hii : ((i.toNat : Nat) : Int) = i := Int.toNat_of_nonneg i0
      rw [hii] at hml hmt
      refine ⟨fun hk => ?_, fun hk => ?_⟩
      · have hk := of_decide_eq_true hk
        obtain ⟨ad6, y, ha6, hy, hrd6⟩ := hSl.at (i := k) k0 (by omega)
        have hyv := hml _ _ hy
        have hkk : ((k.toNat : Nat) : Int) = k := Int.toNat_of_nonneg k0
        rw [hkk] at hyv
        obtain ⟨ad8, y', ha8, hy', hrd8⟩ := hSx.at (i := k) k0 (by omega)
        obtain rfl : y = y' := by
          rw [List.getElem?_append_left (by omega), hy] at hy'; exact Option.some.inj hy'
        have hsp : ∀ X : Heap, Tri P 66 #[.int .i64 i, .int .i64 k] I12 X fun e I' G => e = .returned (.int .i64 (spotV i k)) ∧ G.Perm X := fun X => (spot_spec i k I12 X).mono fun e I' G _ ⟨h1, h2⟩ => ⟨h1, by rw [h2]⟩
        refine ⟨⟨i0, by omega⟩, ad, had, _, _, _, hrd2 _, ⟨k0, by omega⟩, ad6, ha6, spotV i k, (hrd6 _).field hyv, spotV i k, hsp, fun h => by simp at h, fun _ => ⟨⟨i0, by have := hsl2.1; omega⟩, adx2, hadx2, _, _, _, hrdx2, ⟨k0, by omega⟩, ad8, ha8, spotV i k, (hrd8 _).field hyv, spotV i k, hsp, fun h => by simp at h, fun _ => ?_⟩⟩
        rw [w64 (by omega)]
        exact ⟨_, by omega, i0, by omega, by omega, ⟨r, hr, hnn, hrn, by omega, rfl⟩, ⟨A10, hp10⟩, xs2, hsl2, hxs2, hd2⟩
      · have hk := of_decide_eq_false hk
        refine ⟨⟨_, i0, by omega, by omega, by omega, rfl, ⟨r, hr, rfl, hrn⟩, ⟨A10, hp10⟩, xs2, hsl2, hxs2, hd2⟩, ?_⟩
        intro x2 k3 m20 I15 F11 hI15 ⟨_, _, k0', k1', km', ⟨r', hr', hnn', _⟩, ⟨A11, hp11⟩, xs3, hsl3, hxs3, hd3⟩
        refine ⟨fun hk => ?_, fun hk => ?_⟩
        · have hk := of_decide_eq_true hk
          obtain ⟨adx3, xr3, hadx3, hxr3, hrdx3⟩ := hsl3.at (i := i) i0 (by have := hsl3.1; omega)
          obtain ⟨l3, t3, hSl3, hml3, hSx3, htl3, hmt3⟩ := hd3 _ _ _ hr hxr3
          have hrl3 := hSl3.1
          have hxl3 := hSx3.1
          rw [List.length_append] at hxl3
          rw [hii] at hmt3
          rw [w64 (by omega)]
          obtain ⟨ad10, y, ha10, hy, hrd10⟩ := hSx3.at (i := ((r.n : Nat) : Int) + k3) (by omega) (by omega)
          rw [List.getElem?_append_right (by omega), show (((r.n : Nat) : Int) + k3).toNat - l3.length = k3.toNat by omega] at hy
          have hyv := hmt3 _ _ hy
          have hkk : ((k3.toNat : Nat) : Int) = k3 := Int.toNat_of_nonneg k0'
          rw [hkk] at hyv
          refine ⟨⟨i0, by have := hsl3.1; omega⟩, adx3, hadx3, _, _, _, hrdx3, ⟨by omega, by omega⟩, ad10, ha10, behindV i k3, (hrd10 _).field hyv, behindV i k3, fun X => (behind_spec i k3 I15 X).mono fun e I' G _ ⟨h1, h2⟩ => ⟨h1, by rw [h2]⟩, fun h => by simp at h, fun _ => ?_⟩
          rw [w64 (by omega)]
          exact ⟨_, by omega, i0, by omega, by omega, by omega, rfl, ⟨r, hr, rfl, hrn⟩, ⟨A11, hp11⟩, xs3, hsl3, hxs3, hd3⟩
        · rw [w64 (by omega)]
          exact ⟨_, by omega, by omega, by omega, rfl, ⟨A11, hp11⟩, xs3, hsl3, hxs3, hd3⟩

theorem ownSlots_spec {rs : List Row} {ls : List (List (Ck 2))} {H F : Heap} {la : Option Addr} {ln lc : Nat} {I : Imm} (hS : Sl I 1 Row.enc la ln rs) (hH : RowsH 2 120 rs ls H) (hb : Bd ls) (hrs : rs.length ≤ 1000000000) :
    Tri P 35 #[.slice la ln lc] I (H ++ F) fun e I' G => e = .returned (.bool true) ∧ G = F := by
  refine OwnPost.keep ?_
  have hln := hS.1
  refine ref00_ownSlots.vc
    (fun i m I0 F0 I' F' => 0 ≤ i ∧ i ≤ ln ∧ m = (ln - i).toNat ∧ ∃ ls H, RowsH 2 120 rs ls H ∧ F'.Perm (H ++ F) ∧ Bd ls ∧ ∀ (j : Nat) l, (j : Int) < i → ls[j]? = some l → MkAll 1 mkV j l)
    (fun i k m I0 F0 I' F' => 0 ≤ i ∧ 0 ≤ k ∧ ∃ r, rs[i.toNat]? = some r ∧ k ≤ r.n ∧ m = (r.n - k).toNat ∧ ∃ ls H, RowsH 2 120 rs ls H ∧ F'.Perm (H ++ F) ∧ Bd ls ∧ (∀ (j : Nat) l, (j : Int) < i → ls[j]? = some l → MkAll 1 mkV j l) ∧
      ∀ l, ls[i.toNat]? = some l → MkTo 1 mkV i k l)
    (fun a n c i m I0 F0 I' F' => 0 ≤ i ∧ i ≤ ln ∧ m = (ln - i).toNat ∧ ∃ ls H xs Al, RowsH 2 120 (rs.drop i.toNat) (ls.drop i.toNat) H ∧ Acc 1 Row.enc 118 a n c xs Al ∧ F'.Perm (Al ++ (H ++ F)) ∧ (xs.length : Int) = i ∧ Bd ls ∧
      (∀ (j : Nat) l, ls[j]? = some l → MkAll 1 mkV j l) ∧ ∀ (j : Nat) r x, (j : Int) < i → rs[j]? = some r → xs[j]? = some x → Done (z := 2) 1 8 mkV bhV I' j r x)
    (fun a n c i xa xn xc k m I0 F0 I' F' => 0 ≤ i ∧ i < ln ∧ 0 ≤ k ∧ k ≤ 8 ∧ m = (8 - k).toNat ∧ ∃ (ls : List (List (Ck 2))) (H : Heap) (xs : List Row) (Al : Heap) (r : Row) (l t : List (Ck 2)) (A : Heap), rs[i.toNat]? = some r ∧ RowsH 2 120 (rs.drop (i.toNat + 1)) (ls.drop (i.toNat + 1)) H ∧ Acc 1 Row.enc 118 a n c xs Al ∧
      Acc 2 cv 120 xa xn xc (l ++ t) A ∧ F'.Perm (A ++ (Al ++ (H ++ F))) ∧ (xs.length : Int) = i ∧ Bd ls ∧ (∀ (j : Nat) l, ls[j]? = some l → MkAll 1 mkV j l) ∧ MkAll 1 mkV i l ∧ (t.length : Int) = k ∧ MkAll 1 bhV i t ∧ r.n = l.length ∧ l.length ≤ 1000000000 ∧
      (xa = r.a ∨ Sl I' 2 cv r.a r.n l) ∧ ∀ (j : Nat) r x, (j : Int) < i → rs[j]? = some r → xs[j]? = some x → Done (z := 2) 1 8 mkV bhV I' j r x)
    (fun a n c x i m I0 F0 I' F' => 0 ≤ i ∧ i ≤ ln ∧ m = (ln - i).toNat ∧ (∃ A, F'.Perm (A ++ F)) ∧ ∃ xs, SlG I' F' 1 Row.enc a n xs ∧ xs.length = ln ∧ ∀ (j : Nat) r x, rs[j]? = some r → xs[j]? = some x → Done (z := 2) 1 8 mkV bhV I' j r x)
    (fun a n c i nn x k m I0 F0 I' F' => 0 ≤ i ∧ i < ln ∧ 0 ≤ k ∧ (∃ r, rs[i.toNat]? = some r ∧ nn = r.n ∧ r.n ≤ 1000000000 ∧ k ≤ r.n ∧ m = (r.n - k).toNat) ∧ (∃ A, F'.Perm (A ++ F)) ∧ ∃ xs, SlG I' F' 1 Row.enc a n xs ∧ xs.length = ln ∧ ∀ (j : Nat) r x, rs[j]? = some r → xs[j]? = some x → Done (z := 2) 1 8 mkV bhV I' j r x)
    (fun a n c i nn x k m I0 F0 I' F' => 0 ≤ i ∧ i < ln ∧ 0 ≤ k ∧ k ≤ 8 ∧ m = (8 - k).toNat ∧ (∃ r, rs[i.toNat]? = some r ∧ nn = r.n ∧ r.n ≤ 1000000000) ∧ (∃ A, F'.Perm (A ++ F)) ∧ ∃ xs, SlG I' F' 1 Row.enc a n xs ∧ xs.length = ln ∧ ∀ (j : Nat) r x, rs[j]? = some r → xs[j]? = some x → Done (z := 2) 1 8 mkV bhV I' j r x) ?_
  unfold ref00_ownSlots.V
  refine ⟨⟨_, by omega, by omega, rfl, ls, H, hH, .refl _, hb, fun j l hj => by omega⟩, ?_⟩
  intro i m1 I1 F1 hI1 ⟨i0, i1, im, ls1, H1, hH1, hp1, hb1, hm1⟩
  have hS1 := hS.mono hI1
  refine ⟨fun hlt => ?_, fun hlt => ?_⟩
  · -- the marks of row i
    have hlt := of_decide_eq_true hlt
    obtain ⟨ad, r, had, hr, hrd⟩ := hS1.at (i := i) i0 (by omega)
    refine ⟨⟨_, i0, by omega, r, hr, by omega, rfl, ls1, H1, hH1, hp1, hb1, hm1, fun l _ q x _ hq => by omega⟩, ?_⟩
    intro k m3 I2 F2 hI2 ⟨_, k0, r', hr', k1, km, ls2, H2, hH2, hp2, hb2, hm2, hmk⟩
    obtain rfl : r = r' := by rw [hr] at hr'; exact Option.some.inj hr'
    have hrd2 := fun G => (hrd G).mono hI2
    refine ⟨⟨i0, by omega⟩, ad, had, _, _, _, hrd2 _, fun hk => ?_, fun hk => ?_⟩
    · have hk := of_decide_eq_true hk
      refine ⟨⟨i0, by omega⟩, ad, had, _, _, _, hrd2 _, spotV i k, fun X => (spot_spec i k I2 X).mono fun e I' G _ ⟨h1, h2⟩ => ⟨h1, by rw [h2]⟩, ⟨k0, by omega⟩, ?_⟩
      obtain ⟨l, A, R, hl, hA, hpA, hset⟩ := hH2.focus hr
      obtain ⟨b, cs, ha, hAe, hlen, hA'⟩ := hA.put (k := k.toNat) (o := 1) (by omega) (by decide) (mkV i k)
      obtain ⟨H3, hH3, hp3⟩ := hset _ _ hA'
      subst hAe
      refine ⟨⟨b, 0, none⟩, ha, cs, 120, R ++ F, ?_, ?_, ?_, m3 - 1, by omega, ?_⟩
      · rw [add_add]; exact hp2.trans (List.Perm.append_right F hpA)
      · rw [add_add]
      · rw [add_add]; exact hlen
      · rw [add_add, w64 (by have := hb2 _ _ hl; have := hA.1; omega)]
        refine ⟨i0, by omega, r, hr, by omega, by omega, _, H3, hH3, ?_, hb2.set hl _, marks_set hm2 _ i0, fun l' hl' => ?_⟩
        · exact (List.Perm.append_right F hp3).symm
        · have hlt2 : i.toNat < ls2.length := (List.getElem?_eq_some_iff.1 hl).1
          rw [List.getElem?_set_self hlt2] at hl'
          obtain rfl : l.modify k.toNat (setC 1 (mkV i k)) = l' := Option.some.inj hl'
          exact (hmk l hl).step (by decide) k0
    · have hk := of_decide_eq_false hk
      rw [w64 (by omega)]
      refine ⟨_, ?_, by omega, by omega, rfl, ls2, H2, hH2, hp2, hb2, fun j l hj hl => ?_⟩
      · omega
      · rcases Int.lt_or_eq_of_le (Int.lt_add_one_iff.1 hj) with h | h
        · exact hm2 j l h hl
        · have hji : j = i.toNat := by omega
          subst hji
          have hmk' := hmk l hl
          obtain ⟨l', A, R, hl', hA, _⟩ := hH2.focus hr
          obtain rfl : l' = l := by rw [hl'] at hl; exact Option.some.inj hl
          intro q x hx
          have hq := (List.getElem?_eq_some_iff.1 hx).1
          rw [h]
          exact hmk' q x hx (by have := hA.1; omega)
  · -- the rows grow
    have hlt := of_decide_eq_false hlt
    have hall : ∀ (j : Nat) l, ls1[j]? = some l → MkAll 1 mkV j l := fun j l hl => hm1 j l (by have := hH1.len; have := (List.getElem?_eq_some_iff.1 hl).1; omega) hl
    refine ⟨⟨_, by omega, by omega, rfl, ls1, H1, [], [], hH1, Acc.nil, hp1, rfl, hb1, hall, fun j r x hj => by omega⟩, ?_⟩
    intro a n c i m7 I4 F4 hI4 ⟨i0, i1, im, ls4, H4, xs, Al, hH4, hAl, hp4, hxl, hb4, hm4, hd4⟩
    have hS4 := hS1.mono hI4
    refine ⟨fun hlt => ?_, fun hlt => ?_⟩
    · have hlt := of_decide_eq_true hlt
      obtain ⟨ad, r, had, hr, hrd⟩ := hS4.at (i := i) i0 (by omega)
      obtain ⟨l, A, H5, hl, hHe, hA, hH5⟩ := hH4.drop hr
      subst hHe
      refine ⟨⟨i0, by omega⟩, ad, had, _, _, _, hrd _, ⟨_, i0, by omega, by omega, by omega, rfl, ls4, H5, xs, Al, r, l, [], A, hr, hH5, hAl, by rw [List.append_nil]; exact hA, ?_, hxl, hb4, hm4, by have := hm4 _ _ hl; rwa [Int.toNat_of_nonneg i0] at this, rfl, fun q x hx => by simp at hx, hA.1, hb4 _ _ hl, .inl rfl, hd4⟩, ?_⟩
      · refine hp4.trans ?_
        rw [List.append_assoc A H5 F, ← List.append_assoc Al A, ← List.append_assoc A Al]
        exact List.Perm.append_right _ List.perm_append_comm
      intro xa xn xc k m9 I5 F5 hI5 ⟨_, _, k0, k1, km, ls5, H5', xs5, Al5, r5, l5, t5, A5, hr5, hH5', hAl5, hA5, hp5, hxl5, hb5, hm5, hml5, ht5, hmt5, hrn5, hl5, hor5, hd5⟩
      obtain rfl : r = r5 := by rw [hr] at hr5; exact Option.some.inj hr5
      refine ⟨fun hk => ?_, fun hk => ?_⟩
      · have hk := of_decide_eq_true hk
        refine Tri.ret (behind_spec i k I5 _) fun I6 hI6 => ⟨_, rfl, F5, .refl _, ?_⟩
        intro b I7 hI7 hb7
        let y : Ck 2 := ⟨[.string (⟨#[]⟩ : ByteArray), bhV i k], rfl⟩
        refine TriE.perm (TriE.mono (append_spec' (f := cv) (z := 2) (zv := .agg #[.string (⟨#[]⟩ : ByteArray), .int .i64 0]) cv_len (by' := 24) (by kernel_rfl) (by kernel_rfl) rfl (by decide) hA5 (xs := [y]) ?_ (by simp) rfl ?_ ?_ (F := Al5 ++ (H5' ++ F)))
          fun v I8 G3 hI8 ⟨a', n', c', A', hv, hA', hG, hor⟩ => ?_) hp5
        · intro x hx u hu
          rw [List.mem_singleton] at hx; subst hx
          exact List.all_eq_true.1 (show (cv y).all (fun u => u.oneCell') = true from rfl) u hu
        · exact ⟨rfl, _, _, _, .inl hb7, fun j hj => by simp [y, cv, bhV]⟩
        · rw [List.length_append]; simp only [List.length_cons, List.length_nil]; omega
        subst hG
        have hle8 : Imm.le I5 I8 := Imm.le_trans hI6 (Imm.le_trans hI7 hI8)
        refine ⟨_, _, _, hv, _, .refl _, m9 - 1, by omega, i0, by omega, by rw [w64 (by omega)]; omega, by rw [w64 (by omega)]; omega, by rw [w64 (by omega)]; omega,
          ls5, H5', xs5, Al5, r, l5, t5 ++ [y], A', hr, hH5', hAl5, by rw [← List.append_assoc]; exact hA', .refl _, hxl5, hb5, hm5, hml5, ?_, ?_, hrn5, hl5, ?_, fun j r x hj hr hx => (hd5 j r x hj hr hx).mono hle8⟩
        · rw [w64 (by omega), List.length_append, List.length_singleton]; omega
        · refine hmt5.snoc ?_
          show some (bhV i k) = _
          rw [ht5]
        · rcases hor5 with h | h
          · rcases hor with h' | h'
            · exact .inl (h'.trans h)
            · right
              rw [← h, hrn5]
              exact Sl.prefix h'
          · exact .inr (h.mono hle8)
      · have hk := of_decide_eq_false hk
        intro b1 I9 hI9 hb9
        refine TriE.pre fun w hw => ?_
        obtain ⟨J, hJ, hsJ, hSx⟩ := hA5.keep cv_len (hw.perm hp5)
        have hle9 : Imm.le I5 J := Imm.le_trans hI9 hJ
        refine ⟨J, _, hJ, hsJ, ?_⟩
        refine TriE.mono (append_spec' (f := Row.enc) (z := 1) (zv := .slice none 0 0) (fun _ => rfl) (by' := 24) (by kernel_rfl) (by kernel_rfl) rfl (by decide) hAl5 (xs := [⟨xa, xn, xc⟩]) (fun x _ => rows_one x) (by simp) rfl ?_ ?_ (F := H5' ++ F))
          fun v I10 G4 hI10 ⟨a', n', c', A', hv, hA', hG, hor⟩ => ?_
        · exact ⟨rfl, _, _, _, .inl (hJ.at hb9), fun j hj => by simp [Row.enc]⟩
        · simp only [List.length_cons, List.length_nil]; omega
        subst hG
        have hle10 : Imm.le I5 I10 := Imm.le_trans hle9 hI10
        refine ⟨_, _, _, hv, _, .refl _, m7 - 1, by omega, by rw [w64 (by omega)]; omega, by rw [w64 (by omega)]; omega, by rw [w64 (by omega)]; omega, ls5, H5', xs5 ++ [⟨xa, xn, xc⟩], A', ?_, hA', .refl _, ?_, hb5, hm5, ?_⟩
        · rw [w64 (by omega), show (i + 1).toNat = i.toNat + 1 by omega]; exact hH5'
        · rw [w64 (by omega), List.length_append, List.length_singleton]; omega
        · intro j r' x' hj hr' hx'
          rw [w64 (by omega)] at hj
          rcases Int.lt_or_eq_of_le (Int.lt_add_one_iff.1 hj) with h | h
          · rw [List.getElem?_append_left (by omega)] at hx'
            exact (hd5 j r' x' h hr' hx').mono hle10
          · have hji : j = i.toNat := by omega
            subst hji
            obtain rfl : r = r' := by rw [hr] at hr'; exact Option.some.inj hr'
            have hx2 : x' = ⟨xa, xn, xc⟩ := by
              have : i.toNat = xs5.length := by omega
              rw [this, List.getElem?_append_right (Nat.le_refl _), Nat.sub_self] at hx'
              simpa using hx'.symm
            subst hx2
            rw [h]
            refine ⟨l5, t5, ?_, hml5, hSx.mono hI10, by omega, hmt5⟩
            rcases hor5 with h' | h'
            · rw [← h', hrn5]; exact (Sl.prefix hSx).mono hI10
            · exact h'.mono hle10
    · -- the look at all of them
      have hlt := of_decide_eq_false hlt
      have hxs : xs.length = ln := by omega
      refine ⟨⟨_, by omega, by omega, rfl, ⟨Al ++ H4, by rw [List.append_assoc]; exact hp4⟩, xs, (Acc.slg (z := 1) (f := Row.enc) (fun _ => rfl) hAl I4 (G := F4) fun x hx => hp4.mem_iff.2 (List.mem_append_left _ hx)), hxs,
        fun j r x hr hx => hd4 j r x (by have := (List.getElem?_eq_some_iff.1 hx).1; omega) hr hx⟩, ?_⟩
      intro x i m13 I11 F9 hI11 ⟨i0, i1, im, ⟨A9, hp9⟩, xs, hsl, hxs, hd⟩
      have hS11 := hS4.mono hI11
      refine ⟨fun hlt => ?_, fun hlt => ⟨rfl, A9, hp9⟩⟩
      have hlt := of_decide_eq_true hlt
      obtain ⟨ad, r, had, hr, hrd⟩ := hS11.at (i := i) i0 (by omega)
      obtain ⟨adx, xr, hadx, hxr, hrdx⟩ := hsl.at (i := i) i0 (by have := hsl.1; omega)
      have hrn : r.n ≤ 1000000000 := by
        obtain ⟨l, A, R, hl, hA, _⟩ := hH.focus hr
        have := hb _ _ hl
        have := hA.1
        omega
      refine ⟨⟨i0, by omega⟩, ad, had, _, _, _, hrd _, ⟨_, i0, by omega, by omega, ⟨r, hr, rfl, hrn, by omega, rfl⟩, ⟨A9, hp9⟩, xs, hsl, hxs, hd⟩, ?_⟩
      intro x1 k m15 I12 F10 hI12 ⟨_, _, k0, ⟨r', hr', hnn, _, k1, km⟩, ⟨A10, hp10⟩, xs2, hsl2, hxs2, hd2⟩
      obtain rfl : r = r' := by rw [hr] at hr'; exact Option.some.inj hr'
      obtain ⟨adx2, xr2, hadx2, hxr2, hrdx2⟩ := hsl2.at (i := i) i0 (by have := hsl2.1; omega)
      obtain ⟨l, t, hSl, hml, hSx, htl, hmt⟩ := hd2 _ _ _ hr hxr2
      have hrl := hSl.1
      have hxl := hSx.1
      rw [List.length_append] at hxl
      have hrd2 := fun G => (hrd G).mono hI12
      have hii : ((i.toNat : Nat) : Int) = i := Int.toNat_of_nonneg i0
      rw [hii] at hml hmt
      refine ⟨fun hk => ?_, fun hk => ?_⟩
      · have hk := of_decide_eq_true hk
        obtain ⟨ad6, y, ha6, hy, hrd6⟩ := hSl.at (i := k) k0 (by omega)
        have hyv := hml _ _ hy
        have hkk : ((k.toNat : Nat) : Int) = k := Int.toNat_of_nonneg k0
        rw [hkk] at hyv
        obtain ⟨ad8, y', ha8, hy', hrd8⟩ := hSx.at (i := k) k0 (by omega)
        obtain rfl : y = y' := by
          rw [List.getElem?_append_left (by omega), hy] at hy'; exact Option.some.inj hy'
        have hsp : ∀ X : Heap, Tri P 66 #[.int .i64 i, .int .i64 k] I12 X fun e I' G => e = .returned (.int .i64 (spotV i k)) ∧ G.Perm X := fun X => (spot_spec i k I12 X).mono fun e I' G _ ⟨h1, h2⟩ => ⟨h1, by rw [h2]⟩
        refine ⟨⟨i0, by omega⟩, ad, had, _, _, _, hrd2 _, ⟨k0, by omega⟩, ad6, ha6, spotV i k, (hrd6 _).field hyv, spotV i k, hsp, fun h => by simp at h, fun _ => ⟨⟨i0, by have := hsl2.1; omega⟩, adx2, hadx2, _, _, _, hrdx2, ⟨k0, by omega⟩, ad8, ha8, spotV i k, (hrd8 _).field hyv, spotV i k, hsp, fun h => by simp at h, fun _ => ?_⟩⟩
        rw [w64 (by omega)]
        exact ⟨_, by omega, i0, by omega, by omega, ⟨r, hr, hnn, hrn, by omega, rfl⟩, ⟨A10, hp10⟩, xs2, hsl2, hxs2, hd2⟩
      · have hk := of_decide_eq_false hk
        refine ⟨⟨_, i0, by omega, by omega, by omega, rfl, ⟨r, hr, rfl, hrn⟩, ⟨A10, hp10⟩, xs2, hsl2, hxs2, hd2⟩, ?_⟩
        intro x2 k3 m20 I15 F11 hI15 ⟨_, _, k0', k1', km', ⟨r', hr', hnn', _⟩, ⟨A11, hp11⟩, xs3, hsl3, hxs3, hd3⟩
        refine ⟨fun hk => ?_, fun hk => ?_⟩
        · have hk := of_decide_eq_true hk
          obtain ⟨adx3, xr3, hadx3, hxr3, hrdx3⟩ := hsl3.at (i := i) i0 (by have := hsl3.1; omega)
          obtain ⟨l3, t3, hSl3, hml3, hSx3, htl3, hmt3⟩ := hd3 _ _ _ hr hxr3
          have hrl3 := hSl3.1
          have hxl3 := hSx3.1
          rw [List.length_append] at hxl3
          rw [hii] at hmt3
          rw [w64 (by omega)]
          obtain ⟨ad10, y, ha10, hy, hrd10⟩ := hSx3.at (i := ((r.n : Nat) : Int) + k3) (by omega) (by omega)
          rw [List.getElem?_append_right (by omega), show (((r.n : Nat) : Int) + k3).toNat - l3.length = k3.toNat by omega] at hy
          have hyv := hmt3 _ _ hy
          have hkk : ((k3.toNat : Nat) : Int) = k3 := Int.toNat_of_nonneg k0'
          rw [hkk] at hyv
          refine ⟨⟨i0, by have := hsl3.1; omega⟩, adx3, hadx3, _, _, _, hrdx3, ⟨by omega, by omega⟩, ad10, ha10, behindV i k3, (hrd10 _).field hyv, behindV i k3, fun X => (behind_spec i k3 I15 X).mono fun e I' G _ ⟨h1, h2⟩ => ⟨h1, by rw [h2]⟩, fun h => by simp at h, fun _ => ?_⟩
          rw [w64 (by omega)]
          exact ⟨_, by omega, i0, by omega, by omega, by omega, rfl, ⟨r, hr, rfl, hrn⟩, ⟨A11, hp11⟩, xs3, hsl3, hxs3, hd3⟩
        · rw [w64 (by omega)]
          exact ⟨_, by omega, by omega, by omega, rfl, ⟨A11, hp11⟩, xs3, hsl3, hxs3, hd3⟩

theorem ownDos_spec {rs : List Row} {ls : List (List (Ck 36))} {H F : Heap} {la : Option Addr} {ln lc : Nat} {I : Imm} (hS : Sl I 1 Row.enc la ln rs) (hH : RowsH 36 125 rs ls H) (hb : Bd ls) (hrs : rs.length ≤ 1000000000) :
    Tri P 36 #[.slice la ln lc] I (H ++ F) fun e I' G => e = .returned (.bool true) ∧ G = F := by
  refine OwnPost.keep ?_
  have hln := hS.1
  refine ref00_ownDos.vc
    (fun i m I0 F0 I' F' => 0 ≤ i ∧ i ≤ ln ∧ m = (ln - i).toNat ∧ ∃ ls H, RowsH 36 125 rs ls H ∧ F'.Perm (H ++ F) ∧ Bd ls ∧ ∀ (j : Nat) l, (j : Int) < i → ls[j]? = some l → MkAll 35 mkV j l)
    (fun i k m I0 F0 I' F' => 0 ≤ i ∧ 0 ≤ k ∧ ∃ r, rs[i.toNat]? = some r ∧ k ≤ r.n ∧ m = (r.n - k).toNat ∧ ∃ ls H, RowsH 36 125 rs ls H ∧ F'.Perm (H ++ F) ∧ Bd ls ∧ (∀ (j : Nat) l, (j : Int) < i → ls[j]? = some l → MkAll 35 mkV j l) ∧
      ∀ l, ls[i.toNat]? = some l → MkTo 35 mkV i k l)
    (fun a n c i m I0 F0 I' F' => 0 ≤ i ∧ i ≤ ln ∧ m = (ln - i).toNat ∧ ∃ ls H xs Al, RowsH 36 125 (rs.drop i.toNat) (ls.drop i.toNat) H ∧ Acc 1 Row.enc 121 a n c xs Al ∧ F'.Perm (Al ++ (H ++ F)) ∧ (xs.length : Int) = i ∧ Bd ls ∧
      (∀ (j : Nat) l, ls[j]? = some l → MkAll 35 mkV j l) ∧ ∀ (j : Nat) r x, (j : Int) < i → rs[j]? = some r → xs[j]? = some x → Done (z := 36) 35 8 mkV bhV I' j r x)
    (fun a n c i xa xn xc k m I0 F0 I' F' => 0 ≤ i ∧ i < ln ∧ 0 ≤ k ∧ k ≤ 8 ∧ m = (8 - k).toNat ∧ ∃ (ls : List (List (Ck 36))) (H : Heap) (xs : List Row) (Al : Heap) (r : Row) (l t : List (Ck 36)) (A : Heap), rs[i.toNat]? = some r ∧ RowsH 36 125 (rs.drop (i.toNat + 1)) (ls.drop (i.toNat + 1)) H ∧ Acc 1 Row.enc 121 a n c xs Al ∧
      Acc 36 cv 125 xa xn xc (l ++ t) A ∧ F'.Perm (A ++ (Al ++ (H ++ F))) ∧ (xs.length : Int) = i ∧ Bd ls ∧ (∀ (j : Nat) l, ls[j]? = some l → MkAll 35 mkV j l) ∧ MkAll 35 mkV i l ∧ (t.length : Int) = k ∧ MkAll 35 bhV i t ∧ r.n = l.length ∧ l.length ≤ 1000000000 ∧
      (xa = r.a ∨ Sl I' 36 cv r.a r.n l) ∧ ∀ (j : Nat) r x, (j : Int) < i → rs[j]? = some r → xs[j]? = some x → Done (z := 36) 35 8 mkV bhV I' j r x)
    (fun a n c x i m I0 F0 I' F' => 0 ≤ i ∧ i ≤ ln ∧ m = (ln - i).toNat ∧ (∃ A, F'.Perm (A ++ F)) ∧ ∃ xs, SlG I' F' 1 Row.enc a n xs ∧ xs.length = ln ∧ ∀ (j : Nat) r x, rs[j]? = some r → xs[j]? = some x → Done (z := 36) 35 8 mkV bhV I' j r x)
    (fun a n c i nn x k m I0 F0 I' F' => 0 ≤ i ∧ i < ln ∧ 0 ≤ k ∧ (∃ r, rs[i.toNat]? = some r ∧ nn = r.n ∧ r.n ≤ 1000000000 ∧ k ≤ r.n ∧ m = (r.n - k).toNat) ∧ (∃ A, F'.Perm (A ++ F)) ∧ ∃ xs, SlG I' F' 1 Row.enc a n xs ∧ xs.length = ln ∧ ∀ (j : Nat) r x, rs[j]? = some r → xs[j]? = some x → Done (z := 36) 35 8 mkV bhV I' j r x)
    (fun a n c i nn x k m I0 F0 I' F' => 0 ≤ i ∧ i < ln ∧ 0 ≤ k ∧ k ≤ 8 ∧ m = (8 - k).toNat ∧ (∃ r, rs[i.toNat]? = some r ∧ nn = r.n ∧ r.n ≤ 1000000000) ∧ (∃ A, F'.Perm (A ++ F)) ∧ ∃ xs, SlG I' F' 1 Row.enc a n xs ∧ xs.length = ln ∧ ∀ (j : Nat) r x, rs[j]? = some r → xs[j]? = some x → Done (z := 36) 35 8 mkV bhV I' j r x) ?_
  unfold ref00_ownDos.V
  refine ⟨⟨_, by omega, by omega, rfl, ls, H, hH, .refl _, hb, fun j l hj => by omega⟩, ?_⟩
  intro i m1 I1 F1 hI1 ⟨i0, i1, im, ls1, H1, hH1, hp1, hb1, hm1⟩
  have hS1 := hS.mono hI1
  refine ⟨fun hlt => ?_, fun hlt => ?_⟩
  · -- the marks of row i
    have hlt := of_decide_eq_true hlt
    obtain ⟨ad, r, had, hr, hrd⟩ := hS1.at (i := i) i0 (by omega)
    refine ⟨⟨_, i0, by omega, r, hr, by omega, rfl, ls1, H1, hH1, hp1, hb1, hm1, fun l _ q x _ hq => by omega⟩, ?_⟩
    intro k m3 I2 F2 hI2 ⟨_, k0, r', hr', k1, km, ls2, H2, hH2, hp2, hb2, hm2, hmk⟩
    obtain rfl : r = r' := by rw [hr] at hr'; exact Option.some.inj hr'
    have hrd2 := fun G => (hrd G).mono hI2
    refine ⟨⟨i0, by omega⟩, ad, had, _, _, _, hrd2 _, fun hk => ?_, fun hk => ?_⟩
    · have hk := of_decide_eq_true hk
      refine ⟨⟨i0, by omega⟩, ad, had, _, _, _, hrd2 _, spotV i k, fun X => (spot_spec i k I2 X).mono fun e I' G _ ⟨h1, h2⟩ => ⟨h1, by rw [h2]⟩, ⟨k0, by omega⟩, ?_⟩
      obtain ⟨l, A, R, hl, hA, hpA, hset⟩ := hH2.focus hr
      obtain ⟨b, cs, ha, hAe, hlen, hA'⟩ := hA.put (k := k.toNat) (o := 35) (by omega) (by decide) (mkV i k)
      obtain ⟨H3, hH3, hp3⟩ := hset _ _ hA'
      subst hAe
      refine ⟨⟨b, 0, none⟩, ha, cs, 125, R ++ F, ?_, ?_, ?_, m3 - 1, by omega, ?_⟩
      · rw [add_add]; exact hp2.trans (List.Perm.append_right F hpA)
      · rw [add_add]
      · rw [add_add]; exact hlen
      · rw [add_add, w64 (by have := hb2 _ _ hl; have := hA.1; omega)]
        refine ⟨i0, by omega, r, hr, by omega, by omega, _, H3, hH3, ?_, hb2.set hl _, marks_set hm2 _ i0, fun l' hl' => ?_⟩
        · exact (List.Perm.append_right F hp3).symm
        · have hlt2 : i.toNat < ls2.length := (List.getElem?_eq_some_iff.1 hl).1
          rw [List.getElem?_set_self hlt2] at hl'
          obtain rfl : l.modify k.toNat (setC 35 (mkV i k)) = l' := Option.some.inj hl'
          exact (hmk l hl).step (by decide) k0
    · have hk := of_decide_eq_false hk
      rw [w64 (by omega)]
      refine ⟨_, ?_, by omega, by omega, rfl, ls2, H2, hH2, hp2, hb2, fun j l hj hl => ?_⟩
      · omega
      · rcases Int.lt_or_eq_of_le (Int.lt_add_one_iff.1 hj) with h | h
        · exact hm2 j l h hl
        · have hji : j = i.toNat := by omega
          subst hji
          have hmk' := hmk l hl
          obtain ⟨l', A, R, hl', hA, _⟩ := hH2.focus hr
          obtain rfl : l' = l := by rw [hl'] at hl; exact Option.some.inj hl
          intro q x hx
          have hq := (List.getElem?_eq_some_iff.1 hx).1
          rw [h]
          exact hmk' q x hx (by have := hA.1; omega)
  · -- the rows grow
    have hlt := of_decide_eq_false hlt
    have hall : ∀ (j : Nat) l, ls1[j]? = some l → MkAll 35 mkV j l := fun j l hl => hm1 j l (by have := hH1.len; have := (List.getElem?_eq_some_iff.1 hl).1; omega) hl
    refine ⟨⟨_, by omega, by omega, rfl, ls1, H1, [], [], hH1, Acc.nil, hp1, rfl, hb1, hall, fun j r x hj => by omega⟩, ?_⟩
    intro a n c i m7 I4 F4 hI4 ⟨i0, i1, im, ls4, H4, xs, Al, hH4, hAl, hp4, hxl, hb4, hm4, hd4⟩
    have hS4 := hS1.mono hI4
    refine ⟨fun hlt => ?_, fun hlt => ?_⟩
    · have hlt := of_decide_eq_true hlt
      obtain ⟨ad, r, had, hr, hrd⟩ := hS4.at (i := i) i0 (by omega)
      obtain ⟨l, A, H5, hl, hHe, hA, hH5⟩ := hH4.drop hr
      subst hHe
      refine ⟨⟨i0, by omega⟩, ad, had, _, _, _, hrd _, ⟨_, i0, by omega, by omega, by omega, rfl, ls4, H5, xs, Al, r, l, [], A, hr, hH5, hAl, by rw [List.append_nil]; exact hA, ?_, hxl, hb4, hm4, by have := hm4 _ _ hl; rwa [Int.toNat_of_nonneg i0] at this, rfl, fun q x hx => by simp at hx, hA.1, hb4 _ _ hl, .inl rfl, hd4⟩, ?_⟩
      · refine hp4.trans ?_
        rw [List.append_assoc A H5 F, ← List.append_assoc Al A, ← List.append_assoc A Al]
        exact List.Perm.append_right _ List.perm_append_comm
      intro xa xn xc k m9 I5 F5 hI5 ⟨_, _, k0, k1, km, ls5, H5', xs5, Al5, r5, l5, t5, A5, hr5, hH5', hAl5, hA5, hp5, hxl5, hb5, hm5, hml5, ht5, hmt5, hrn5, hl5, hor5, hd5⟩
      obtain rfl : r = r5 := by rw [hr] at hr5; exact Option.some.inj hr5
      refine ⟨fun hk => ?_, fun hk => ?_⟩
      · have hk := of_decide_eq_true hk
        refine Tri.ret (behind_spec i k I5 _) fun I6 hI6 => ⟨_, rfl, F5, .refl _, ?_⟩
        intro b I7 hI7 hb7
        let y : Ck 36 := ⟨[.int .u8 0, .int .u8 0, .string (⟨#[]⟩ : ByteArray), .int .u8 0, .int .u8 0, .int .u8 0, .int .i64 0, .int .u8 0, .string (⟨#[]⟩ : ByteArray), .slice none 0 0, .int .i64 0, .int .u8 0, .int .u8 0, .int .u8 0, .int .i64 0, .int .u8 0, .string (⟨#[]⟩ : ByteArray), .slice none 0 0, .int .i64 0, .int .u8 0, .int .u8 0, .int .u8 0, .int .i64 0, .int .u8 0, .string (⟨#[]⟩ : ByteArray), .slice none 0 0, .int .i64 0, .int .u8 0, .int .u8 0, .int .u8 0, .int .i64 0, .int .u8 0, .string (⟨#[]⟩ : ByteArray), .slice none 0 0, .int .i64 0, bhV i k], rfl⟩
        refine TriE.perm (TriE.mono (append_spec' (f := cv) (z := 36) (zv := .agg #[.int .u8 0, .int .u8 0, .string (⟨#[]⟩ : ByteArray), .int .u8 0, .int .u8 0, .int .u8 0, .int .i64 0, .int .u8 0, .string (⟨#[]⟩ : ByteArray), .slice none 0 0, .int .i64 0, .int .u8 0, .int .u8 0, .int .u8 0, .int .i64 0, .int .u8 0, .string (⟨#[]⟩ : ByteArray), .slice none 0 0, .int .i64 0, .int .u8 0, .int .u8 0, .int .u8 0, .int .i64 0, .int .u8 0, .string (⟨#[]⟩ : ByteArray), .slice none 0 0, .int .i64 0, .int .u8 0, .int .u8 0, .int .u8 0, .int .i64 0, .int .u8 0, .string (⟨#[]⟩ : ByteArray), .slice none 0 0, .int .i64 0, .int .i64 0]) cv_len (by' := 320) (by kernel_rfl) (by kernel_rfl) rfl (by decide) hA5 (xs := [y]) ?_ (by simp) rfl ?_ ?_ (F := Al5 ++ (H5' ++ F)))
          fun v I8 G3 hI8 ⟨a', n', c', A', hv, hA', hG, hor⟩ => ?_) hp5
        · intro x hx u hu
          rw [List.mem_singleton] at hx; subst hx
          exact List.all_eq_true.1 (show (cv y).all (fun u => u.oneCell') = true from rfl) u hu
        · exact ⟨rfl, _, _, _, .inl hb7, fun j hj => by simp [y, cv, bhV]⟩
        · rw [List.length_append]; simp only [List.length_cons, List.length_nil]; omega
        subst hG
        have hle8 : Imm.le I5 I8 := Imm.le_trans hI6 (Imm.le_trans hI7 hI8)
        refine ⟨_, _, _, hv, _, .refl _, m9 - 1, by omega, i0, by omega, by rw [w64 (by omega)]; omega, by rw [w64 (by omega)]; omega, by rw [w64 (by omega)]; omega,
          ls5, H5', xs5, Al5, r, l5, t5 ++ [y], A', hr, hH5', hAl5, by rw [← List.append_assoc]; exact hA', .refl _, hxl5, hb5, hm5, hml5, ?_, ?_, hrn5, hl5, ?_, fun j r x hj hr hx => (hd5 j r x hj hr hx).mono hle8⟩
        · rw [w64 (by omega), List.length_append, List.length_singleton]; omega
        · refine hmt5.snoc ?_
          show some (bhV i k) = _
          rw [ht5]
        · rcases hor5 with h | h
          · rcases hor with h' | h'
            · exact .inl (h'.trans h)
            · right
              rw [← h, hrn5]
              exact Sl.prefix h'
          · exact .inr (h.mono hle8)
      · have hk := of_decide_eq_false hk
        intro b1 I9 hI9 hb9
        refine TriE.pre fun w hw => ?_
        obtain ⟨J, hJ, hsJ, hSx⟩ := hA5.keep cv_len (hw.perm hp5)
        have hle9 : Imm.le I5 J := Imm.le_trans hI9 hJ
        refine ⟨J, _, hJ, hsJ, ?_⟩
        refine TriE.mono (append_spec' (f := Row.enc) (z := 1) (zv := .slice none 0 0) (fun _ => rfl) (by' := 24) (by kernel_rfl) (by kernel_rfl) rfl (by decide) hAl5 (xs := [⟨xa, xn, xc⟩]) (fun x _ => rows_one x) (by simp) rfl ?_ ?_ (F := H5' ++ F))
          fun v I10 G4 hI10 ⟨a', n', c', A', hv, hA', hG, hor⟩ => ?_
        · exact ⟨rfl, _, _, _, .inl (hJ.at hb9), fun j hj => by simp [Row.enc]⟩
        · simp only [List.length_cons, List.length_nil]; omega
        subst hG
        have hle10 : Imm.le I5 I10 := Imm.le_trans hle9 hI10
        refine ⟨_, _, _, hv, _, .refl _, m7 - 1, by omega, by rw [w64 (by omega)]; omega, by rw [w64 (by omega)]; omega, by rw [w64 (by omega)]; omega, ls5, H5', xs5 ++ [⟨xa, xn, xc⟩], A', ?_, hA', .refl _, ?_, hb5, hm5, ?_⟩
        · rw [w64 (by omega), show (i + 1).toNat = i.toNat + 1 by omega]; exact hH5'
        · rw [w64 (by omega), List.length_append, List.length_singleton]; omega
        · intro j r' x' hj hr' hx'
          rw [w64 (by omega)] at hj
          rcases Int.lt_or_eq_of_le (Int.lt_add_one_iff.1 hj) with h | h
          · rw [List.getElem?_append_left (by omega)] at hx'
            exact (hd5 j r' x' h hr' hx').mono hle10
          · have hji : j = i.toNat := by omega
            subst hji
            obtain rfl : r = r' := by rw [hr] at hr'; exact Option.some.inj hr'
            have hx2 : x' = ⟨xa, xn, xc⟩ := by
              have : i.toNat = xs5.length := by omega
              rw [this, List.getElem?_append_right (Nat.le_refl _), Nat.sub_self] at hx'
              simpa using hx'.symm
            subst hx2
            rw [h]
            refine ⟨l5, t5, ?_, hml5, hSx.mono hI10, by omega, hmt5⟩
            rcases hor5 with h' | h'
            · rw [← h', hrn5]; exact (Sl.prefix hSx).mono hI10
            · exact h'.mono hle10
    · -- the look at all of them
      have hlt := of_decide_eq_false hlt
      have hxs : xs.length = ln := by omega
      refine ⟨⟨_, by omega, by omega, rfl, ⟨Al ++ H4, by rw [List.append_assoc]; exact hp4⟩, xs, (Acc.slg (z := 1) (f := Row.enc) (fun _ => rfl) hAl I4 (G := F4) fun x hx => hp4.mem_iff.2 (List.mem_append_left _ hx)), hxs,
        fun j r x hr hx => hd4 j r x (by have := (List.getElem?_eq_some_iff.1 hx).1; omega) hr hx⟩, ?_⟩
      intro x i m13 I11 F9 hI11 ⟨i0, i1, im, ⟨A9, hp9⟩, xs, hsl, hxs, hd⟩
      have hS11 := hS4.mono hI11
      refine ⟨fun hlt => ?_, fun hlt => ⟨rfl, A9, hp9⟩⟩
      have hlt := of_decide_eq_true hlt
      obtain ⟨ad, r, had, hr, hrd⟩ := hS11.at (i := i) i0 (by omega)
      obtain ⟨adx, xr, hadx, hxr, hrdx⟩ := hsl.at (i := i) i0 (by have := hsl.1; omega)
      have hrn : r.n ≤ 1000000000 := by
        obtain ⟨l, A, R, hl, hA, _⟩ := hH.focus hr
        have := hb _ _ hl
        have := hA.1
        omega
      refine ⟨⟨i0, by omega⟩, ad, had, _, _, _, hrd _, ⟨_, i0, by omega, by omega, ⟨r, hr, rfl, hrn, by omega, rfl⟩, ⟨A9, hp9⟩, xs, hsl, hxs, hd⟩, ?_⟩
      intro x1 k m15 I12 F10 hI12 ⟨_, _, k0, ⟨r', hr', hnn, _, k1, km⟩, ⟨A10, hp10⟩, xs2, hsl2, hxs2, hd2⟩
      obtain rfl : r = r' := by rw [hr] at hr'; exact Option.some.inj hr'
      obtain ⟨adx2, xr2, hadx2, hxr2, hrdx2⟩ := hsl2.at (i := i) i0 (by have := hsl2.1; omega)
      obtain ⟨l, t, hSl, hml, hSx, htl, hmt⟩ := hd2 _ _ _ hr hxr2
      have hrl := hSl.1
      have hxl := hSx.1
      rw [List.length_append] at hxl
      have hrd2 := fun G => (hrd G).mono hI12
      have hii : ((i.toNat : Nat) : Int) = i := Int.toNat_of_nonneg i0
      rw [hii] at hml hmt
      refine ⟨fun hk => ?_, fun hk => ?_⟩
      · have hk := of_decide_eq_true hk
        obtain ⟨ad6, y, ha6, hy, hrd6⟩ := hSl.at (i := k) k0 (by omega)
        have hyv := hml _ _ hy
        have hkk : ((k.toNat : Nat) : Int) = k := Int.toNat_of_nonneg k0
        rw [hkk] at hyv
        obtain ⟨ad8, y', ha8, hy', hrd8⟩ := hSx.at (i := k) k0 (by omega)
        obtain rfl : y = y' := by
          rw [List.getElem?_append_left (by omega), hy] at hy'; exact Option.some.inj hy'
        have hsp : ∀ X : Heap, Tri P 66 #[.int .i64 i, .int .i64 k] I12 X fun e I' G => e = .returned (.int .i64 (spotV i k)) ∧ G.Perm X := fun X => (spot_spec i k I12 X).mono fun e I' G _ ⟨h1, h2⟩ => ⟨h1, by rw [h2]⟩
        refine ⟨⟨i0, by omega⟩, ad, had, _, _, _, hrd2 _, ⟨k0, by omega⟩, ad6, ha6, spotV i k, (hrd6 _).field hyv, spotV i k, hsp, fun h => by simp at h, fun _ => ⟨⟨i0, by have := hsl2.1; omega⟩, adx2, hadx2, _, _, _, hrdx2, ⟨k0, by omega⟩, ad8, ha8, spotV i k, (hrd8 _).field hyv, spotV i k, hsp, fun h => by simp at h, fun _ => ?_⟩⟩
        rw [w64 (by omega)]
        exact ⟨_, by omega, i0, by omega, by omega, ⟨r, hr, hnn, hrn, by omega, rfl⟩, ⟨A10, hp10⟩, xs2, hsl2, hxs2, hd2⟩
      · have hk := of_decide_eq_false hk
        refine ⟨⟨_, i0, by omega, by omega, by omega, rfl, ⟨r, hr, rfl, hrn⟩, ⟨A10, hp10⟩, xs2, hsl2, hxs2, hd2⟩, ?_⟩
        intro x2 k3 m20 I15 F11 hI15 ⟨_, _, k0', k1', km', ⟨r', hr', hnn', _⟩, ⟨A11, hp11⟩, xs3, hsl3, hxs3, hd3⟩
        refine ⟨fun hk => ?_, fun hk => ?_⟩
        · have hk := of_decide_eq_true hk
          obtain ⟨adx3, xr3, hadx3, hxr3, hrdx3⟩ := hsl3.at (i := i) i0 (by have := hsl3.1; omega)
          obtain ⟨l3, t3, hSl3, hml3, hSx3, htl3, hmt3⟩ := hd3 _ _ _ hr hxr3
          have hrl3 := hSl3.1
          have hxl3 := hSx3.1
          rw [List.length_append] at hxl3
          rw [hii] at hmt3
          rw [w64 (by omega)]
          obtain ⟨ad10, y, ha10, hy, hrd10⟩ := hSx3.at (i := ((r.n : Nat) : Int) + k3) (by omega) (by omega)
          rw [List.getElem?_append_right (by omega), show (((r.n : Nat) : Int) + k3).toNat - l3.length = k3.toNat by omega] at hy
          have hyv := hmt3 _ _ hy
          have hkk : ((k3.toNat : Nat) : Int) = k3 := Int.toNat_of_nonneg k0'
          rw [hkk] at hyv
          refine ⟨⟨i0, by have := hsl3.1; omega⟩, adx3, hadx3, _, _, _, hrdx3, ⟨by omega, by omega⟩, ad10, ha10, behindV i k3, (hrd10 _).field hyv, behindV i k3, fun X => (behind_spec i k3 I15 X).mono fun e I' G _ ⟨h1, h2⟩ => ⟨h1, by rw [h2]⟩, fun h => by simp at h, fun _ => ?_⟩
          rw [w64 (by omega)]
          exact ⟨_, by omega, i0, by omega, by omega, by omega, rfl, ⟨r, hr, rfl, hrn⟩, ⟨A11, hp11⟩, xs3, hsl3, hxs3, hd3⟩
        · rw [w64 (by omega)]
          exact ⟨_, by omega, by omega, by omega, rfl, ⟨A11, hp11⟩, xs3, hsl3, hxs3, hd3⟩

theorem ownRules_spec {rs : List Row} {ls : List (List (Ck 10))} {H F : Heap} {la : Option Addr} {ln lc : Nat} {I : Imm} (hS : Sl I 1 Row.enc la ln rs) (hH : RowsH 10 128 rs ls H) (hb : Bd ls) (hrs : rs.length ≤ 1000000000) :
    Tri P 37 #[.slice la ln lc] I (H ++ F) fun e I' G => e = .returned (.bool true) ∧ G = F := by
  refine OwnPost.keep ?_
  have hln := hS.1
  refine ref00_ownRules.vc
    (fun i m I0 F0 I' F' => 0 ≤ i ∧ i ≤ ln ∧ m = (ln - i).toNat ∧ ∃ ls H, RowsH 10 128 rs ls H ∧ F'.Perm (H ++ F) ∧ Bd ls ∧ ∀ (j : Nat) l, (j : Int) < i → ls[j]? = some l → MkAll 9 mkV j l)
    (fun i k m I0 F0 I' F' => 0 ≤ i ∧ 0 ≤ k ∧ ∃ r, rs[i.toNat]? = some r ∧ k ≤ r.n ∧ m = (r.n - k).toNat ∧ ∃ ls H, RowsH 10 128 rs ls H ∧ F'.Perm (H ++ F) ∧ Bd ls ∧ (∀ (j : Nat) l, (j : Int) < i → ls[j]? = some l → MkAll 9 mkV j l) ∧
      ∀ l, ls[i.toNat]? = some l → MkTo 9 mkV i k l)
    (fun a n c i m I0 F0 I' F' => 0 ≤ i ∧ i ≤ ln ∧ m = (ln - i).toNat ∧ ∃ ls H xs Al, RowsH 10 128 (rs.drop i.toNat) (ls.drop i.toNat) H ∧ Acc 1 Row.enc 126 a n c xs Al ∧ F'.Perm (Al ++ (H ++ F)) ∧ (xs.length : Int) = i ∧ Bd ls ∧
      (∀ (j : Nat) l, ls[j]? = some l → MkAll 9 mkV j l) ∧ ∀ (j : Nat) r x, (j : Int) < i → rs[j]? = some r → xs[j]? = some x → Done (z := 10) 9 8 mkV bhV I' j r x)
    (fun a n c i xa xn xc k m I0 F0 I' F' => 0 ≤ i ∧ i < ln ∧ 0 ≤ k ∧ k ≤ 8 ∧ m = (8 - k).toNat ∧ ∃ (ls : List (List (Ck 10))) (H : Heap) (xs : List Row) (Al : Heap) (r : Row) (l t : List (Ck 10)) (A : Heap), rs[i.toNat]? = some r ∧ RowsH 10 128 (rs.drop (i.toNat + 1)) (ls.drop (i.toNat + 1)) H ∧ Acc 1 Row.enc 126 a n c xs Al ∧
      Acc 10 cv 128 xa xn xc (l ++ t) A ∧ F'.Perm (A ++ (Al ++ (H ++ F))) ∧ (xs.length : Int) = i ∧ Bd ls ∧ (∀ (j : Nat) l, ls[j]? = some l → MkAll 9 mkV j l) ∧ MkAll 9 mkV i l ∧ (t.length : Int) = k ∧ MkAll 9 bhV i t ∧ r.n = l.length ∧ l.length ≤ 1000000000 ∧
      (xa = r.a ∨ Sl I' 10 cv r.a r.n l) ∧ ∀ (j : Nat) r x, (j : Int) < i → rs[j]? = some r → xs[j]? = some x → Done (z := 10) 9 8 mkV bhV I' j r x)
    (fun a n c x i m I0 F0 I' F' => 0 ≤ i ∧ i ≤ ln ∧ m = (ln - i).toNat ∧ (∃ A, F'.Perm (A ++ F)) ∧ ∃ xs, SlG I' F' 1 Row.enc a n xs ∧ xs.length = ln ∧ ∀ (j : Nat) r x, rs[j]? = some r → xs[j]? = some x → Done (z := 10) 9 8 mkV bhV I' j r x)
    (fun a n c i nn x k m I0 F0 I' F' => 0 ≤ i ∧ i < ln ∧ 0 ≤ k ∧ (∃ r, rs[i.toNat]? = some r ∧ nn = r.n ∧ r.n ≤ 1000000000 ∧ k ≤ r.n ∧ m = (r.n - k).toNat) ∧ (∃ A, F'.Perm (A ++ F)) ∧ ∃ xs, SlG I' F' 1 Row.enc a n xs ∧ xs.length = ln ∧ ∀ (j : Nat) r x, rs[j]? = some r → xs[j]? = some x → Done (z := 10) 9 8 mkV bhV I' j r x)
    (fun a n c i nn x k m I0 F0 I' F' => 0 ≤ i ∧ i < ln ∧ 0 ≤ k ∧ k ≤ 8 ∧ m = (8 - k).toNat ∧ (∃ r, rs[i.toNat]? = some r ∧ nn = r.n ∧ r.n ≤ 1000000000) ∧ (∃ A, F'.Perm (A ++ F)) ∧ ∃ xs, SlG I' F' 1 Row.enc a n xs ∧ xs.length = ln ∧ ∀ (j : Nat) r x, rs[j]? = some r → xs[j]? = some x → Done (z := 10) 9 8 mkV bhV I' j r x) ?_
  unfold ref00_ownRules.V
  refine ⟨⟨_, by omega, by omega, rfl, ls, H, hH, .refl _, hb, fun j l hj => by omega⟩, ?_⟩
  intro i m1 I1 F1 hI1 ⟨i0, i1, im, ls1, H1, hH1, hp1, hb1, hm1⟩
  have hS1 := hS.mono hI1
  refine ⟨fun hlt => ?_, fun hlt => ?_⟩
  · -- the marks of row i
    have hlt := of_decide_eq_true hlt
    obtain ⟨ad, r, had, hr, hrd⟩ := hS1.at (i := i) i0 (by omega)
    refine ⟨⟨_, i0, by omega, r, hr, by omega, rfl, ls1, H1, hH1, hp1, hb1, hm1, fun l _ q x _ hq => by omega⟩, ?_⟩
    intro k m3 I2 F2 hI2 ⟨_, k0, r', hr', k1, km, ls2, H2, hH2, hp2, hb2, hm2, hmk⟩
    obtain rfl : r = r' := by rw [hr] at hr'; exact Option.some.inj hr'
    have hrd2 := fun G => (hrd G).mono hI2
    refine ⟨⟨i0, by omega⟩, ad, had, _, _, _, hrd2 _, fun hk => ?_, fun hk => ?_⟩
    · have hk := of_decide_eq_true hk
      refine ⟨⟨i0, by omega⟩, ad, had, _, _, _, hrd2 _, spotV i k, fun X => (spot_spec i k I2 X).mono fun e I' G _ ⟨h1, h2⟩ => ⟨h1, by rw [h2]⟩, ⟨k0, by omega⟩, ?_⟩
      obtain ⟨l, A, R, hl, hA, hpA, hset⟩ := hH2.focus hr
      obtain ⟨b, cs, ha, hAe, hlen, hA'⟩ := hA.put (k := k.toNat) (o := 9) (by omega) (by decide) (mkV i k)
      obtain ⟨H3, hH3, hp3⟩ := hset _ _ hA'
      subst hAe
      refine ⟨⟨b, 0, none⟩, ha, cs, 128, R ++ F, ?_, ?_, ?_, m3 - 1, by omega, ?_⟩
      · rw [add_add]; exact hp2.trans (List.Perm.append_right F hpA)
      · rw [add_add]
      · rw [add_add]; exact hlen
      · rw [add_add, w64 (by have := hb2 _ _ hl; have := hA.1; omega)]
        refine ⟨i0, by omega, r, hr, by omega, by omega, _, H3, hH3, ?_, hb2.set hl _, marks_set hm2 _ i0, fun l' hl' => ?_⟩
        · exact (List.Perm.append_right F hp3).symm
        · have hlt2 : i.toNat < ls2.length := (List.getElem?_eq_some_iff.1 hl).1
          rw [List.getElem?_set_self hlt2] at hl'
          obtain rfl : l.modify k.toNat (setC 9 (mkV i k)) = l' := Option.some.inj hl'
          exact (hmk l hl).step (by decide) k0
    · have hk := of_decide_eq_false hk
      rw [w64 (by omega)]
      refine ⟨_, ?_, by omega, by omega, rfl, ls2, H2, hH2, hp2, hb2, fun j l hj hl => ?_⟩
      · omega
      · rcases Int.lt_or_eq_of_le (Int.lt_add_one_iff.1 hj) with h | h
        · exact hm2 j l h hl
        · have hji : j = i.toNat := by omega
          subst hji
          have hmk' := hmk l hl
          obtain ⟨l', A, R, hl', hA, _⟩ := hH2.focus hr
          obtain rfl : l' = l := by rw [hl'] at hl; exact Option.some.inj hl
          intro q x hx
          have hq := (List.getElem?_eq_some_iff.1 hx).1
          rw [h]
          exact hmk' q x hx (by have := hA.1; omega)
  · -- the rows grow
    have hlt := of_decide_eq_false hlt
    have hall : ∀ (j : Nat) l, ls1[j]? = some l → MkAll 9 mkV j l := fun j l hl => hm1 j l (by have := hH1.len; have := (List.getElem?_eq_some_iff.1 hl).1; omega) hl
    refine ⟨⟨_, by omega, by omega, rfl, ls1, H1, [], [], hH1, Acc.nil, hp1, rfl, hb1, hall, fun j r x hj => by omega⟩, ?_⟩
    intro a n c i m7 I4 F4 hI4 ⟨i0, i1, im, ls4, H4, xs, Al, hH4, hAl, hp4, hxl, hb4, hm4, hd4⟩
    have hS4 := hS1.mono hI4
    refine ⟨fun hlt => ?_, fun hlt => ?_⟩
    · have hlt := of_decide_eq_true hlt
      obtain ⟨ad, r, had, hr, hrd⟩ := hS4.at (i := i) i0 (by omega)
      obtain ⟨l, A, H5, hl, hHe, hA, hH5⟩ := hH4.drop hr
      subst hHe
      refine ⟨⟨i0, by omega⟩, ad, had, _, _, _, hrd _, ⟨_, i0, by omega, by omega, by omega, rfl, ls4, H5, xs, Al, r, l, [], A, hr, hH5, hAl, by rw [List.append_nil]; exact hA, ?_, hxl, hb4, hm4, by have := hm4 _ _ hl; rwa [Int.toNat_of_nonneg i0] at this, rfl, fun q x hx => by simp at hx, hA.1, hb4 _ _ hl, .inl rfl, hd4⟩, ?_⟩
      · refine hp4.trans ?_
        rw [List.append_assoc A H5 F, ← List.append_assoc Al A, ← List.append_assoc A Al]
        exact List.Perm.append_right _ List.perm_append_comm
      intro xa xn xc k m9 I5 F5 hI5 ⟨_, _, k0, k1, km, ls5, H5', xs5, Al5, r5, l5, t5, A5, hr5, hH5', hAl5, hA5, hp5, hxl5, hb5, hm5, hml5, ht5, hmt5, hrn5, hl5, hor5, hd5⟩
      obtain rfl : r = r5 := by rw [hr] at hr5; exact Option.some.inj hr5
      refine ⟨fun hk => ?_, fun hk => ?_⟩
      · have hk := of_decide_eq_true hk
        refine Tri.ret (behind_spec i k I5 _) fun I6 hI6 => ⟨_, rfl, F5, .refl _, ?_⟩
        intro b I7 hI7 hb7
        let y : Ck 10 := ⟨[.int .u8 0, .int .u8 0, .int .u8 0, .int .i64 0, .int .u8 0, .string (⟨#[]⟩ : ByteArray), .slice none 0 0, .int .i64 0, .slice none 0 0, bhV i k], rfl⟩
        refine TriE.perm (TriE.mono (append_spec' (f := cv) (z := 10) (zv := .agg #[.int .u8 0, .int .u8 0, .int .u8 0, .int .i64 0, .int .u8 0, .string (⟨#[]⟩ : ByteArray), .slice none 0 0, .int .i64 0, .slice none 0 0, .int .i64 0]) cv_len (by' := 104) (by kernel_rfl) (by kernel_rfl) rfl (by decide) hA5 (xs := [y]) ?_ (by simp) rfl ?_ ?_ (F := Al5 ++ (H5' ++ F)))
          fun v I8 G3 hI8 ⟨a', n', c', A', hv, hA', hG, hor⟩ => ?_) hp5
        · intro x hx u hu
          rw [List.mem_singleton] at hx; subst hx
          exact List.all_eq_true.1 (show (cv y).all (fun u => u.oneCell') = true from rfl) u hu
        · exact ⟨rfl, _, _, _, .inl hb7, fun j hj => by simp [y, cv, bhV]⟩
        · rw [List.length_append]; simp only [List.length_cons, List.length_nil]; omega
        subst hG
        have hle8 : Imm.le I5 I8 := Imm.le_trans hI6 (Imm.le_trans hI7 hI8)
        refine ⟨_, _, _, hv, _, .refl _, m9 - 1, by omega, i0, by omega, by rw [w64 (by omega)]; omega, by rw [w64 (by omega)]; omega, by rw [w64 (by omega)]; omega,
          ls5, H5', xs5, Al5, r, l5, t5 ++ [y], A', hr, hH5', hAl5, by rw [← List.append_assoc]; exact hA', .refl _, hxl5, hb5, hm5, hml5, ?_, ?_, hrn5, hl5, ?_, fun j r x hj hr hx => (hd5 j r x hj hr hx).mono hle8⟩
        · rw [w64 (by omega), List.length_append, List.length_singleton]; omega
        · refine hmt5.snoc ?_
          show some (bhV i k) = _
          rw [ht5]
        · rcases hor5 with h | h
          · rcases hor with h' | h'
            · exact .inl (h'.trans h)
            · right
              rw [← h, hrn5]
              exact Sl.prefix h'
          · exact .inr (h.mono hle8)
      · have hk := of_decide_eq_false hk
        intro b1 I9 hI9 hb9
        refine TriE.pre fun w hw => ?_
        obtain ⟨J, hJ, hsJ, hSx⟩ := hA5.keep cv_len (hw.perm hp5)
        have hle9 : Imm.le I5 J := Imm.le_trans hI9 hJ
        refine ⟨J, _, hJ, hsJ, ?_⟩
        refine TriE.mono (append_spec' (f := Row.enc) (z := 1) (zv := .slice none 0 0) (fun _ => rfl) (by' := 24) (by kernel_rfl) (by kernel_rfl) rfl (by decide) hAl5 (xs := [⟨xa, xn, xc⟩]) (fun x _ => rows_one x) (by simp) rfl ?_ ?_ (F := H5' ++ F))
          fun v I10 G4 hI10 ⟨a', n', c', A', hv, hA', hG, hor⟩ => ?_
        · exact ⟨rfl, _, _, _, .inl (hJ.at hb9), fun j hj => by simp [Row.enc]⟩
        · simp only [List.length_cons, List.length_nil]; omega
        subst hG
        have hle10 : Imm.le I5 I10 := Imm.le_trans hle9 hI10
        refine ⟨_, _, _, hv, _, .refl _, m7 - 1, by omega, by rw [w64 (by omega)]; omega, by rw [w64 (by omega)]; omega, by rw [w64 (by omega)]; omega, ls5, H5', xs5 ++ [⟨xa, xn, xc⟩], A', ?_, hA', .refl _, ?_, hb5, hm5, ?_⟩
        · rw [w64 (by omega), show (i + 1).toNat = i.toNat + 1 by omega]; exact hH5'
        · rw [w64 (by omega), List.length_append, List.length_singleton]; omega
        · intro j r' x' hj hr' hx'
          rw [w64 (by omega)] at hj
          rcases Int.lt_or_eq_of_le (Int.lt_add_one_iff.1 hj) with h | h
          · rw [List.getElem?_append_left (by omega)] at hx'
            exact (hd5 j r' x' h hr' hx').mono hle10
          · have hji : j = i.toNat := by omega
            subst hji
            obtain rfl : r = r' := by rw [hr] at hr'; exact Option.some.inj hr'
            have hx2 : x' = ⟨xa, xn, xc⟩ := by
              have : i.toNat = xs5.length := by omega
              rw [this, List.getElem?_append_right (Nat.le_refl _), Nat.sub_self] at hx'
              simpa using hx'.symm
            subst hx2
            rw [h]
            refine ⟨l5, t5, ?_, hml5, hSx.mono hI10, by omega, hmt5⟩
            rcases hor5 with h' | h'
            · rw [← h', hrn5]; exact (Sl.prefix hSx).mono hI10
            · exact h'.mono hle10
    · -- the look at all of them
      have hlt := of_decide_eq_false hlt
      have hxs : xs.length = ln := by omega
      refine ⟨⟨_, by omega, by omega, rfl, ⟨Al ++ H4, by rw [List.append_assoc]; exact hp4⟩, xs, (Acc.slg (z := 1) (f := Row.enc) (fun _ => rfl) hAl I4 (G := F4) fun x hx => hp4.mem_iff.2 (List.mem_append_left _ hx)), hxs,
        fun j r x hr hx => hd4 j r x (by have := (List.getElem?_eq_some_iff.1 hx).1; omega) hr hx⟩, ?_⟩
      intro x i m13 I11 F9 hI11 ⟨i0, i1, im, ⟨A9, hp9⟩, xs, hsl, hxs, hd⟩
      have hS11 := hS4.mono hI11
      refine ⟨fun hlt => ?_, fun hlt => ⟨rfl, A9, hp9⟩⟩
      have hlt := of_decide_eq_true hlt
      obtain ⟨ad, r, had, hr, hrd⟩ := hS11.at (i := i) i0 (by omega)
      obtain ⟨adx, xr, hadx, hxr, hrdx⟩ := hsl.at (i := i) i0 (by have := hsl.1; omega)
      have hrn : r.n ≤ 1000000000 := by
        obtain ⟨l, A, R, hl, hA, _⟩ := hH.focus hr
        have := hb _ _ hl
        have := hA.1
        omega
      refine ⟨⟨i0, by omega⟩, ad, had, _, _, _, hrd _, ⟨_, i0, by omega, by omega, ⟨r, hr, rfl, hrn, by omega, rfl⟩, ⟨A9, hp9⟩, xs, hsl, hxs, hd⟩, ?_⟩
      intro x1 k m15 I12 F10 hI12 ⟨_, _, k0, ⟨r', hr', hnn, _, k1, km⟩, ⟨A10, hp10⟩, xs2, hsl2, hxs2, hd2⟩
      obtain rfl : r = r' := by rw [hr] at hr'; exact Option.some.inj hr'
      obtain ⟨adx2, xr2, hadx2, hxr2, hrdx2⟩ := hsl2.at (i := i) i0 (by have := hsl2.1; omega)
      obtain ⟨l, t, hSl, hml, hSx, htl, hmt⟩ := hd2 _ _ _ hr hxr2
      have hrl := hSl.1
      have hxl := hSx.1
      rw [List.length_append] at hxl
      have hrd2 := fun G => (hrd G).mono hI12
      have hii : ((i.toNat : Nat) : Int) = i := Int.toNat_of_nonneg i0
      rw [hii] at hml hmt
      refine ⟨fun hk => ?_, fun hk => ?_⟩
      · have hk := of_decide_eq_true hk
        obtain ⟨ad6, y, ha6, hy, hrd6⟩ := hSl.at (i := k) k0 (by omega)
        have hyv := hml _ _ hy
        have hkk : ((k.toNat : Nat) : Int) = k := Int.toNat_of_nonneg k0
        rw [hkk] at hyv
        obtain ⟨ad8, y', ha8, hy', hrd8⟩ := hSx.at (i := k) k0 (by omega)
        obtain rfl : y = y' := by
          rw [List.getElem?_append_left (by omega), hy] at hy'; exact Option.some.inj hy'
        have hsp : ∀ X : Heap, Tri P 66 #[.int .i64 i, .int .i64 k] I12 X fun e I' G => e = .returned (.int .i64 (spotV i k)) ∧ G.Perm X := fun X => (spot_spec i k I12 X).mono fun e I' G _ ⟨h1, h2⟩ => ⟨h1, by rw [h2]⟩
        refine ⟨⟨i0, by omega⟩, ad, had, _, _, _, hrd2 _, ⟨k0, by omega⟩, ad6, ha6, spotV i k, (hrd6 _).field hyv, spotV i k, hsp, fun h => by simp at h, fun _ => ⟨⟨i0, by have := hsl2.1; omega⟩, adx2, hadx2, _, _, _, hrdx2, ⟨k0, by omega⟩, ad8, ha8, spotV i k, (hrd8 _).field hyv, spotV i k, hsp, fun h => by simp at h, fun _ => ?_⟩⟩
        rw [w64 (by omega)]
        exact ⟨_, by omega, i0, by omega, by omega, ⟨r, hr, hnn, hrn, by omega, rfl⟩, ⟨A10, hp10⟩, xs2, hsl2, hxs2, hd2⟩
      · have hk := of_decide_eq_false hk
        refine ⟨⟨_, i0, by omega, by omega, by omega, rfl, ⟨r, hr, rfl, hrn⟩, ⟨A10, hp10⟩, xs2, hsl2, hxs2, hd2⟩, ?_⟩
        intro x2 k3 m20 I15 F11 hI15 ⟨_, _, k0', k1', km', ⟨r', hr', hnn', _⟩, ⟨A11, hp11⟩, xs3, hsl3, hxs3, hd3⟩
        refine ⟨fun hk => ?_, fun hk => ?_⟩
        · have hk := of_decide_eq_true hk
          obtain ⟨adx3, xr3, hadx3, hxr3, hrdx3⟩ := hsl3.at (i := i) i0 (by have := hsl3.1; omega)
          obtain ⟨l3, t3, hSl3, hml3, hSx3, htl3, hmt3⟩ := hd3 _ _ _ hr hxr3
          have hrl3 := hSl3.1
          have hxl3 := hSx3.1
          rw [List.length_append] at hxl3
          rw [hii] at hmt3
          rw [w64 (by omega)]
          obtain ⟨ad10, y, ha10, hy, hrd10⟩ := hSx3.at (i := ((r.n : Nat) : Int) + k3) (by omega) (by omega)
          rw [List.getElem?_append_right (by omega), show (((r.n : Nat) : Int) + k3).toNat - l3.length = k3.toNat by omega] at hy
          have hyv := hmt3 _ _ hy
          have hkk : ((k3.toNat : Nat) : Int) = k3 := Int.toNat_of_nonneg k0'
          rw [hkk] at hyv
          refine ⟨⟨i0, by have := hsl3.1; omega⟩, adx3, hadx3, _, _, _, hrdx3, ⟨by omega, by omega⟩, ad10, ha10, behindV i k3, (hrd10 _).field hyv, behindV i k3, fun X => (behind_spec i k3 I15 X).mono fun e I' G _ ⟨h1, h2⟩ => ⟨h1, by rw [h2]⟩, fun h => by simp at h, fun _ => ?_⟩
          rw [w64 (by omega)]
          exact ⟨_, by omega, i0, by omega, by omega, by omega, rfl, ⟨r, hr, rfl, hrn⟩, ⟨A11, hp11⟩, xs3, hsl3, hxs3, hd3⟩
        · rw [w64 (by omega)]
          exact ⟨_, by omega, by omega, by omega, rfl, ⟨A11, hp11⟩, xs3, hsl3, hxs3, hd3⟩

theorem ownStates_spec {rs : List Row} {ls : List (List (Ck 3))} {H F : Heap} {la : Option Addr} {ln lc : Nat} {I : Imm} (hS : Sl I 1 Row.enc la ln rs) (hH : RowsH 3 131 rs ls H) (hb : Bd ls) (hrs : rs.length ≤ 1000000000) :
    Tri P 38 #[.slice la ln lc] I (H ++ F) fun e I' G => e = .returned (.bool true) ∧ G = F := by
  refine OwnPost.keep ?_
  have hln := hS.1
  refine ref00_ownStates.vc
    (fun i m I0 F0 I' F' => 0 ≤ i ∧ i ≤ ln ∧ m = (ln - i).toNat ∧ ∃ ls H, RowsH 3 131 rs ls H ∧ F'.Perm (H ++ F) ∧ Bd ls ∧ ∀ (j : Nat) l, (j : Int) < i → ls[j]? = some l → MkAll 2 mkV j l)
    (fun i k m I0 F0 I' F' => 0 ≤ i ∧ 0 ≤ k ∧ ∃ r, rs[i.toNat]? = some r ∧ k ≤ r.n ∧ m = (r.n - k).toNat ∧ ∃ ls H, RowsH 3 131 rs ls H ∧ F'.Perm (H ++ F) ∧ Bd ls ∧ (∀ (j : Nat) l, (j : Int) < i → ls[j]? = some l → MkAll 2 mkV j l) ∧
      ∀ l, ls[i.toNat]? = some l → MkTo 2 mkV i k l)
    (fun a n c i m I0 F0 I' F' => 0 ≤ i ∧ i ≤ ln ∧ m = (ln - i).toNat ∧ ∃ ls H xs Al, RowsH 3 131 (rs.drop i.toNat) (ls.drop i.toNat) H ∧ Acc 1 Row.enc 129 a n c xs Al ∧ F'.Perm (Al ++ (H ++ F)) ∧ (xs.length : Int) = i ∧ Bd ls ∧
      (∀ (j : Nat) l, ls[j]? = some l → MkAll 2 mkV j l) ∧ ∀ (j : Nat) r x, (j : Int) < i → rs[j]? = some r → xs[j]? = some x → Done (z := 3) 2 8 mkV bhV I' j r x)
    (fun a n c i xa xn xc k m I0 F0 I' F' => 0 ≤ i ∧ i < ln ∧ 0 ≤ k ∧ k ≤ 8 ∧ m = (8 - k).toNat ∧ ∃ (ls : List (List (Ck 3))) (H : Heap) (xs : List Row) (Al : Heap) (r : Row) (l t : List (Ck 3)) (A : Heap), rs[i.toNat]? = some r ∧ RowsH 3 131 (rs.drop (i.toNat + 1)) (ls.drop (i.toNat + 1)) H ∧ Acc 1 Row.enc 129 a n c xs Al ∧
      Acc 3 cv 131 xa xn xc (l ++ t) A ∧ F'.Perm (A ++ (Al ++ (H ++ F))) ∧ (xs.length : Int) = i ∧ Bd ls ∧ (∀ (j : Nat) l, ls[j]? = some l → MkAll 2 mkV j l) ∧ MkAll 2 mkV i l ∧ (t.length : Int) = k ∧ MkAll 2 bhV i t ∧ r.n = l.length ∧ l.length ≤ 1000000000 ∧
      (xa = r.a ∨ Sl I' 3 cv r.a r.n l) ∧ ∀ (j : Nat) r x, (j : Int) < i → rs[j]? = some r → xs[j]? = some x → Done (z := 3) 2 8 mkV bhV I' j r x)
    (fun a n c x i m I0 F0 I' F' => 0 ≤ i ∧ i ≤ ln ∧ m = (ln - i).toNat ∧ (∃ A, F'.Perm (A ++ F)) ∧ ∃ xs, SlG I' F' 1 Row.enc a n xs ∧ xs.length = ln ∧ ∀ (j : Nat) r x, rs[j]? = some r → xs[j]? = some x → Done (z := 3) 2 8 mkV bhV I' j r x)
    (fun a n c i nn x k m I0 F0 I' F' => 0 ≤ i ∧ i < ln ∧ 0 ≤ k ∧ (∃ r, rs[i.toNat]? = some r ∧ nn = r.n ∧ r.n ≤ 1000000000 ∧ k ≤ r.n ∧ m = (r.n - k).toNat) ∧ (∃ A, F'.Perm (A ++ F)) ∧ ∃ xs, SlG I' F' 1 Row.enc a n xs ∧ xs.length = ln ∧ ∀ (j : Nat) r x, rs[j]? = some r → xs[j]? = some x → Done (z := 3) 2 8 mkV bhV I' j r x)
    (fun a n c i nn x k m I0 F0 I' F' => 0 ≤ i ∧ i < ln ∧ 0 ≤ k ∧ k ≤ 8 ∧ m = (8 - k).toNat ∧ (∃ r, rs[i.toNat]? = some r ∧ nn = r.n ∧ r.n ≤ 1000000000) ∧ (∃ A, F'.Perm (A ++ F)) ∧ ∃ xs, SlG I' F' 1 Row.enc a n xs ∧ xs.length = ln ∧ ∀ (j : Nat) r x, rs[j]? = some r → xs[j]? = some x → Done (z := 3) 2 8 mkV bhV I' j r x) ?_
  unfold ref00_ownStates.V
  refine ⟨⟨_, by omega, by omega, rfl, ls, H, hH, .refl _, hb, fun j l hj => by omega⟩, ?_⟩
  intro i m1 I1 F1 hI1 ⟨i0, i1, im, ls1, H1, hH1, hp1, hb1, hm1⟩
  have hS1 := hS.mono hI1
  refine ⟨fun hlt => ?_, fun hlt => ?_⟩
  · -- the marks of row i
    have hlt := of_decide_eq_true hlt
    obtain ⟨ad, r, had, hr, hrd⟩ := hS1.at (i := i) i0 (by omega)
    refine ⟨⟨_, i0, by omega, r, hr, by omega, rfl, ls1, H1, hH1, hp1, hb1, hm1, fun l _ q x _ hq => by omega⟩, ?_⟩
    intro k m3 I2 F2 hI2 ⟨_, k0, r', hr', k1, km, ls2, H2, hH2, hp2, hb2, hm2, hmk⟩
    obtain rfl : r = r' := by rw [hr] at hr'; exact Option.some.inj hr'
    have hrd2 := fun G => (hrd G).mono hI2
    refine ⟨⟨i0, by omega⟩, ad, had, _, _, _, hrd2 _, fun hk => ?_, fun hk => ?_⟩
    · have hk := of_decide_eq_true hk
      refine ⟨⟨i0, by omega⟩, ad, had, _, _, _, hrd2 _, spotV i k, fun X => (spot_spec i k I2 X).mono fun e I' G _ ⟨h1, h2⟩ => ⟨h1, by rw [h2]⟩, ⟨k0, by omega⟩, ?_⟩
      obtain ⟨l, A, R, hl, hA, hpA, hset⟩ := hH2.focus hr
      obtain ⟨b, cs, ha, hAe, hlen, hA'⟩ := hA.put (k := k.toNat) (o := 2) (by omega) (by decide) (mkV i k)
      obtain ⟨H3, hH3, hp3⟩ := hset _ _ hA'
      subst hAe
      refine ⟨⟨b, 0, none⟩, ha, cs, 131, R ++ F, ?_, ?_, ?_, m3 - 1, by omega, ?_⟩
      · rw [add_add]; exact hp2.trans (List.Perm.append_right F hpA)
      · rw [add_add]
      · rw [add_add]; exact hlen
      · rw [add_add, w64 (by have := hb2 _ _ hl; have := hA.1; omega)]
        refine ⟨i0, by omega, r, hr, by omega, by omega, _, H3, hH3, ?_, hb2.set hl _, marks_set hm2 _ i0, fun l' hl' => ?_⟩
        · exact (List.Perm.append_right F hp3).symm
        · have hlt2 : i.toNat < ls2.length := (List.getElem?_eq_some_iff.1 hl).1
          rw [List.getElem?_set_self hlt2] at hl'
          obtain rfl : l.modify k.toNat (setC 2 (mkV i k)) = l' := Option.some.inj hl'
          exact (hmk l hl).step (by decide) k0
    · have hk := of_decide_eq_false hk
      rw [w64 (by omega)]
      refine ⟨_, ?_, by omega, by omega, rfl, ls2, H2, hH2, hp2, hb2, fun j l hj hl => ?_⟩
      · omega
      · rcases Int.lt_or_eq_of_le (Int.lt_add_one_iff.1 hj) with h | h
        · exact hm2 j l h hl
        · have hji : j = i.toNat := by omega
          subst hji
          have hmk' := hmk l hl
          obtain ⟨l', A, R, hl', hA, _⟩ := hH2.focus hr
          obtain rfl : l' = l := by rw [hl'] at hl; exact Option.some.inj hl
          intro q x hx
          have hq := (List.getElem?_eq_some_iff.1 hx).1
          rw [h]
          exact hmk' q x hx (by have := hA.1; omega)
  · -- the rows grow
    have hlt := of_decide_eq_false hlt
    have hall : ∀ (j : Nat) l, ls1[j]? = some l → MkAll 2 mkV j l := fun j l hl => hm1 j l (by have := hH1.len; have := (List.getElem?_eq_some_iff.1 hl).1; omega) hl
    refine ⟨⟨_, by omega, by omega, rfl, ls1, H1, [], [], hH1, Acc.nil, hp1, rfl, hb1, hall, fun j r x hj => by omega⟩, ?_⟩
    intro a n c i m7 I4 F4 hI4 ⟨i0, i1, im, ls4, H4, xs, Al, hH4, hAl, hp4, hxl, hb4, hm4, hd4⟩
    have hS4 := hS1.mono hI4
    refine ⟨fun hlt => ?_, fun hlt => ?_⟩
    · have hlt := of_decide_eq_true hlt
      obtain ⟨ad, r, had, hr, hrd⟩ := hS4.at (i := i) i0 (by omega)
      obtain ⟨l, A, H5, hl, hHe, hA, hH5⟩ := hH4.drop hr
      subst hHe
      refine ⟨⟨i0, by omega⟩, ad, had, _, _, _, hrd _, ⟨_, i0, by omega, by omega, by omega, rfl, ls4, H5, xs, Al, r, l, [], A, hr, hH5, hAl, by rw [List.append_nil]; exact hA, ?_, hxl, hb4, hm4, by have := hm4 _ _ hl; rwa [Int.toNat_of_nonneg i0] at this, rfl, fun q x hx => by simp at hx, hA.1, hb4 _ _ hl, .inl rfl, hd4⟩, ?_⟩
      · refine hp4.trans ?_
        rw [List.append_assoc A H5 F, ← List.append_assoc Al A, ← List.append_assoc A Al]
        exact List.Perm.append_right _ List.perm_append_comm
      intro xa xn xc k m9 I5 F5 hI5 ⟨_, _, k0, k1, km, ls5, H5', xs5, Al5, r5, l5, t5, A5, hr5, hH5', hAl5, hA5, hp5, hxl5, hb5, hm5, hml5, ht5, hmt5, hrn5, hl5, hor5, hd5⟩
      obtain rfl : r = r5 := by rw [hr] at hr5; exact Option.some.inj hr5
      refine ⟨fun hk => ?_, fun hk => ?_⟩
      · have hk := of_decide_eq_true hk
        refine Tri.ret (behind_spec i k I5 _) fun I6 hI6 => ⟨_, rfl, F5, .refl _, ?_⟩
        intro b I7 hI7 hb7
        let y : Ck 3 := ⟨[.string (⟨#[]⟩ : ByteArray), .slice none 0 0, bhV i k], rfl⟩
        refine TriE.perm (TriE.mono (append_spec' (f := cv) (z := 3) (zv := .agg #[.string (⟨#[]⟩ : ByteArray), .slice none 0 0, .int .i64 0]) cv_len (by' := 48) (by kernel_rfl) (by kernel_rfl) rfl (by decide) hA5 (xs := [y]) ?_ (by simp) rfl ?_ ?_ (F := Al5 ++ (H5' ++ F)))
          fun v I8 G3 hI8 ⟨a', n', c', A', hv, hA', hG, hor⟩ => ?_) hp5
        · intro x hx u hu
          rw [List.mem_singleton] at hx; subst hx
          exact List.all_eq_true.1 (show (cv y).all (fun u => u.oneCell') = true from rfl) u hu
        · exact ⟨rfl, _, _, _, .inl hb7, fun j hj => by simp [y, cv, bhV]⟩
        · rw [List.length_append]; simp only [List.length_cons, List.length_nil]; omega
        subst hG
        have hle8 : Imm.le I5 I8 := Imm.le_trans hI6 (Imm.le_trans hI7 hI8)
        refine ⟨_, _, _, hv, _, .refl _, m9 - 1, by omega, i0, by omega, by rw [w64 (by omega)]; omega, by rw [w64 (by omega)]; omega, by rw [w64 (by omega)]; omega,
          ls5, H5', xs5, Al5, r, l5, t5 ++ [y], A', hr, hH5', hAl5, by rw [← List.append_assoc]; exact hA', .refl _, hxl5, hb5, hm5, hml5, ?_, ?_, hrn5, hl5, ?_, fun j r x hj hr hx => (hd5 j r x hj hr hx).mono hle8⟩
        · rw [w64 (by omega), List.length_append, List.length_singleton]; omega
        · refine hmt5.snoc ?_
          show some (bhV i k) = _
          rw [ht5]
        · rcases hor5 with h | h
          · rcases hor with h' | h'
            · exact .inl (h'.trans h)
            · right
              rw [← h, hrn5]
              exact Sl.prefix h'
          · exact .inr (h.mono hle8)
      · have hk := of_decide_eq_false hk
        intro b1 I9 hI9 hb9
        refine TriE.pre fun w hw => ?_
        obtain ⟨J, hJ, hsJ, hSx⟩ := hA5.keep cv_len (hw.perm hp5)
        have hle9 : Imm.le I5 J := Imm.le_trans hI9 hJ
        refine ⟨J, _, hJ, hsJ, ?_⟩
        refine TriE.mono (append_spec' (f := Row.enc) (z := 1) (zv := .slice none 0 0) (fun _ => rfl) (by' := 24) (by kernel_rfl) (by kernel_rfl) rfl (by decide) hAl5 (xs := [⟨xa, xn, xc⟩]) (fun x _ => rows_one x) (by simp) rfl ?_ ?_ (F := H5' ++ F))
          fun v I10 G4 hI10 ⟨a', n', c', A', hv, hA', hG, hor⟩ => ?_
        · exact ⟨rfl, _, _, _, .inl (hJ.at hb9), fun j hj => by simp [Row.enc]⟩
        · simp only [List.length_cons, List.length_nil]; omega
        subst hG
        have hle10 : Imm.le I5 I10 := Imm.le_trans hle9 hI10
        refine ⟨_, _, _, hv, _, .refl _, m7 - 1, by omega, by rw [w64 (by omega)]; omega, by rw [w64 (by omega)]; omega, by rw [w64 (by omega)]; omega, ls5, H5', xs5 ++ [⟨xa, xn, xc⟩], A', ?_, hA', .refl _, ?_, hb5, hm5, ?_⟩
        · rw [w64 (by omega), show (i + 1).toNat = i.toNat + 1 by omega]; exact hH5'
        · rw [w64 (by omega), List.length_append, List.length_singleton]; omega
        · intro j r' x' hj hr' hx'
          rw [w64 (by omega)] at hj
          rcases Int.lt_or_eq_of_le (Int.lt_add_one_iff.1 hj) with h | h
          · rw [List.getElem?_append_left (by omega)] at hx'
            exact (hd5 j r' x' h hr' hx').mono hle10
          · have hji : j = i.toNat := by omega
            subst hji
            obtain rfl : r = r' := by rw [hr] at hr'; exact Option.some.inj hr'
            have hx2 : x' = ⟨xa, xn, xc⟩ := by
              have : i.toNat = xs5.length := by omega
              rw [this, List.getElem?_append_right (Nat.le_refl _), Nat.sub_self] at hx'
              simpa using hx'.symm
            subst hx2
            rw [h]
            refine ⟨l5, t5, ?_, hml5, hSx.mono hI10, by omega, hmt5⟩
            rcases hor5 with h' | h'
            · rw [← h', hrn5]; exact (Sl.prefix hSx).mono hI10
            · exact h'.mono hle10
    · -- the look at all of them
      have hlt := of_decide_eq_false hlt
      have hxs : xs.length = ln := by omega
      refine ⟨⟨_, by omega, by omega, rfl, ⟨Al ++ H4, by rw [List.append_assoc]; exact hp4⟩, xs, (Acc.slg (z := 1) (f := Row.enc) (fun _ => rfl) hAl I4 (G := F4) fun x hx => hp4.mem_iff.2 (List.mem_append_left _ hx)), hxs,
        fun j r x hr hx => hd4 j r x (by have := (List.getElem?_eq_some_iff.1 hx).1; omega) hr hx⟩, ?_⟩
      intro x i m13 I11 F9 hI11 ⟨i0, i1, im, ⟨A9, hp9⟩, xs, hsl, hxs, hd⟩
      have hS11 := hS4.mono hI11
      refine ⟨fun hlt => ?_, fun hlt => ⟨rfl, A9, hp9⟩⟩
      have hlt := of_decide_eq_true hlt
      obtain ⟨ad, r, had, hr, hrd⟩ := hS11.at (i := i) i0 (by omega)
      obtain ⟨adx, xr, hadx, hxr, hrdx⟩ := hsl.at (i := i) i0 (by have := hsl.1; omega)
      have hrn : r.n ≤ 1000000000 := by
        obtain ⟨l, A, R, hl, hA, _⟩ := hH.focus hr
        have := hb _ _ hl
        have := hA.1
        omega
      refine ⟨⟨i0, by omega⟩, ad, had, _, _, _, hrd _, ⟨_, i0, by omega, by omega, ⟨r, hr, rfl, hrn, by omega, rfl⟩, ⟨A9, hp9⟩, xs, hsl, hxs, hd⟩, ?_⟩
      intro x1 k m15 I12 F10 hI12 ⟨_, _, k0, ⟨r', hr', hnn, _, k1, km⟩, ⟨A10, hp10⟩, xs2, hsl2, hxs2, hd2⟩
      obtain rfl : r = r' := by rw [hr] at hr'; exact Option.some.inj hr'
      obtain ⟨adx2, xr2, hadx2, hxr2, hrdx2⟩ := hsl2.at (i := i) i0 (by have := hsl2.1; omega)
      obtain ⟨l, t, hSl, hml, hSx, htl, hmt⟩ := hd2 _ _ _ hr hxr2
      have hrl := hSl.1
      have hxl := hSx.1
      rw [List.length_append] at hxl
      have hrd2 := fun G => (hrd G).mono hI12
      have hii : ((i.toNat : Nat) : Int) = i := Int.toNat_of_nonneg i0
      rw [hii] at hml hmt
      refine ⟨fun hk => ?_, fun hk => ?_⟩
      · have hk := of_decide_eq_true hk
        obtain ⟨ad6, y, ha6, hy, hrd6⟩ := hSl.at (i := k) k0 (by omega)
        have hyv := hml _ _ hy
        have hkk : ((k.toNat : Nat) : Int) = k := Int.toNat_of_nonneg k0
        rw [hkk] at hyv
        obtain ⟨ad8, y', ha8, hy', hrd8⟩ := hSx.at (i := k) k0 (by omega)
        obtain rfl : y = y' := by
          rw [List.getElem?_append_left (by omega), hy] at hy'; exact Option.some.inj hy'
        have hsp : ∀ X : Heap, Tri P 66 #[.int .i64 i, .int .i64 k] I12 X fun e I' G => e = .returned (.int .i64 (spotV i k)) ∧ G.Perm X := fun X => (spot_spec i k I12 X).mono fun e I' G _ ⟨h1, h2⟩ => ⟨h1, by rw [h2]⟩
        refine ⟨⟨i0, by omega⟩, ad, had, _, _, _, hrd2 _, ⟨k0, by omega⟩, ad6, ha6, spotV i k, (hrd6 _).field hyv, spotV i k, hsp, fun h => by simp at h, fun _ => ⟨⟨i0, by have := hsl2.1; omega⟩, adx2, hadx2, _, _, _, hrdx2, ⟨k0, by omega⟩, ad8, ha8, spotV i k, (hrd8 _).field hyv, spotV i k, hsp, fun h => by simp at h, fun _ => ?_⟩⟩
        rw [w64 (by omega)]
        exact ⟨_, by omega, i0, by omega, by omega, ⟨r, hr, hnn, hrn, by omega, rfl⟩, ⟨A10, hp10⟩, xs2, hsl2, hxs2, hd2⟩
      · have hk := of_decide_eq_false hk
        refine ⟨⟨_, i0, by omega, by omega, by omega, rfl, ⟨r, hr, rfl, hrn⟩, ⟨A10, hp10⟩, xs2, hsl2, hxs2, hd2⟩, ?_⟩
        intro x2 k3 m20 I15 F11 hI15 ⟨_, _, k0', k1', km', ⟨r', hr', hnn', _⟩, ⟨A11, hp11⟩, xs3, hsl3, hxs3, hd3⟩
        refine ⟨fun hk => ?_, fun hk => ?_⟩
        · have hk := of_decide_eq_true hk
          obtain ⟨adx3, xr3, hadx3, hxr3, hrdx3⟩ := hsl3.at (i := i) i0 (by have := hsl3.1; omega)
          obtain ⟨l3, t3, hSl3, hml3, hSx3, htl3, hmt3⟩ := hd3 _ _ _ hr hxr3
          have hrl3 := hSl3.1
          have hxl3 := hSx3.1
          rw [List.length_append] at hxl3
          rw [hii] at hmt3
          rw [w64 (by omega)]
          obtain ⟨ad10, y, ha10, hy, hrd10⟩ := hSx3.at (i := ((r.n : Nat) : Int) + k3) (by omega) (by omega)
          rw [List.getElem?_append_right (by omega), show (((r.n : Nat) : Int) + k3).toNat - l3.length = k3.toNat by omega] at hy
          have hyv := hmt3 _ _ hy
          have hkk : ((k3.toNat : Nat) : Int) = k3 := Int.toNat_of_nonneg k0'
          rw [hkk] at hyv
          refine ⟨⟨i0, by have := hsl3.1; omega⟩, adx3, hadx3, _, _, _, hrdx3, ⟨by omega, by omega⟩, ad10, ha10, behindV i k3, (hrd10 _).field hyv, behindV i k3, fun X => (behind_spec i k3 I15 X).mono fun e I' G _ ⟨h1, h2⟩ => ⟨h1, by rw [h2]⟩, fun h => by simp at h, fun _ => ?_⟩
          rw [w64 (by omega)]
          exact ⟨_, by omega, i0, by omega, by omega, by omega, rfl, ⟨r, hr, rfl, hrn⟩, ⟨A11, hp11⟩, xs3, hsl3, hxs3, hd3⟩
        · rw [w64 (by omega)]
          exact ⟨_, by omega, by omega, by omega, rfl, ⟨A11, hp11⟩, xs3, hsl3, hxs3, hd3⟩

theorem ownInstrs_spec {rs : List Row} {ls : List (List (Ck 2))} {H F : Heap} {la : Option Addr} {ln lc : Nat} {I : Imm} (hS : Sl I 1 Row.enc la ln rs) (hH : RowsH 2 135 rs ls H) (hb : Bd ls) (hrs : rs.length ≤ 1000000000) :
    Tri P 39 #[.slice la ln lc] I (H ++ F) fun e I' G => e = .returned (.bool true) ∧ G = F := by
  refine OwnPost.keep ?_
  have hln := hS.1
  refine ref00_ownInstrs.vc
    (fun i m I0 F0 I' F' => 0 ≤ i ∧ i ≤ ln ∧ m = (ln - i).toNat ∧ ∃ ls H, RowsH 2 135 rs ls H ∧ F'.Perm (H ++ F) ∧ Bd ls ∧ ∀ (j : Nat) l, (j : Int) < i → ls[j]? = some l → MkAll 1 mkV j l)
    (fun i k m I0 F0 I' F' => 0 ≤ i ∧ 0 ≤ k ∧ ∃ r, rs[i.toNat]? = some r ∧ k ≤ r.n ∧ m = (r.n - k).toNat ∧ ∃ ls H, RowsH 2 135 rs ls H ∧ F'.Perm (H ++ F) ∧ Bd ls ∧ (∀ (j : Nat) l, (j : Int) < i → ls[j]? = some l → MkAll 1 mkV j l) ∧
      ∀ l, ls[i.toNat]? = some l → MkTo 1 mkV i k l)
    (fun a n c i m I0 F0 I' F' => 0 ≤ i ∧ i ≤ ln ∧ m = (ln - i).toNat ∧ ∃ ls H xs Al, RowsH 2 135 (rs.drop i.toNat) (ls.drop i.toNat) H ∧ Acc 1 Row.enc 132 a n c xs Al ∧ F'.Perm (Al ++ (H ++ F)) ∧ (xs.length : Int) = i ∧ Bd ls ∧
      (∀ (j : Nat) l, ls[j]? = some l → MkAll 1 mkV j l) ∧ ∀ (j : Nat) r x, (j : Int) < i → rs[j]? = some r → xs[j]? = some x → Done (z := 2) 1 8 mkV bhV I' j r x)
    (fun a n c i xa xn xc k m I0 F0 I' F' => 0 ≤ i ∧ i < ln ∧ 0 ≤ k ∧ k ≤ 8 ∧ m = (8 - k).toNat ∧ ∃ (ls : List (List (Ck 2))) (H : Heap) (xs : List Row) (Al : Heap) (r : Row) (l t : List (Ck 2)) (A : Heap), rs[i.toNat]? = some r ∧ RowsH 2 135 (rs.drop (i.toNat + 1)) (ls.drop (i.toNat + 1)) H ∧ Acc 1 Row.enc 132 a n c xs Al ∧
      Acc 2 cv 135 xa xn xc (l ++ t) A ∧ F'.Perm (A ++ (Al ++ (H ++ F))) ∧ (xs.length : Int) = i ∧ Bd ls ∧ (∀ (j : Nat) l, ls[j]? = some l → MkAll 1 mkV j l) ∧ MkAll 1 mkV i l ∧ (t.length : Int) = k ∧ MkAll 1 bhV i t ∧ r.n = l.length ∧ l.length ≤ 1000000000 ∧
      (xa = r.a ∨ Sl I' 2 cv r.a r.n l) ∧ ∀ (j : Nat) r x, (j : Int) < i → rs[j]? = some r → xs[j]? = some x → Done (z := 2) 1 8 mkV bhV I' j r x)
    (fun a n c x i m I0 F0 I' F' => 0 ≤ i ∧ i ≤ ln ∧ m = (ln - i).toNat ∧ (∃ A, F'.Perm (A ++ F)) ∧ ∃ xs, SlG I' F' 1 Row.enc a n xs ∧ xs.length = ln ∧ ∀ (j : Nat) r x, rs[j]? = some r → xs[j]? = some x → Done (z := 2) 1 8 mkV bhV I' j r x)
    (fun a n c i nn x k m I0 F0 I' F' => 0 ≤ i ∧ i < ln ∧ 0 ≤ k ∧ (∃ r, rs[i.toNat]? = some r ∧ nn = r.n ∧ r.n ≤ 1000000000 ∧ k ≤ r.n ∧ m = (r.n - k).toNat) ∧ (∃ A, F'.Perm (A ++ F)) ∧ ∃ xs, SlG I' F' 1 Row.enc a n xs ∧ xs.length = ln ∧ ∀ (j : Nat) r x, rs[j]? = some r → xs[j]? = some x → Done (z := 2) 1 8 mkV bhV I' j r x)
    (fun a n c i nn x k m I0 F0 I' F' => 0 ≤ i ∧ i < ln ∧ 0 ≤ k ∧ k ≤ 8 ∧ m = (8 - k).toNat ∧ (∃ r, rs[i.toNat]? = some r ∧ nn = r.n ∧ r.n ≤ 1000000000) ∧ (∃ A, F'.Perm (A ++ F)) ∧ ∃ xs, SlG I' F' 1 Row.enc a n xs ∧ xs.length = ln ∧ ∀ (j : Nat) r x, rs[j]? = some r → xs[j]? = some x → Done (z := 2) 1 8 mkV bhV I' j r x) ?_
  unfold ref00_ownInstrs.V
  refine ⟨⟨_, by omega, by omega, rfl, ls, H, hH, .refl _, hb, fun j l hj => by omega⟩, ?_⟩
  intro i m1 I1 F1 hI1 ⟨i0, i1, im, ls1, H1, hH1, hp1, hb1, hm1⟩
  have hS1 := hS.mono hI1
  refine ⟨fun hlt => ?_, fun hlt => ?_⟩
  · -- the marks of row i
    have hlt := of_decide_eq_true hlt
    obtain ⟨ad, r, had, hr, hrd⟩ := hS1.at (i := i) i0 (by omega)
    refine ⟨⟨_, i0, by omega, r, hr, by omega, rfl, ls1, H1, hH1, hp1, hb1, hm1, fun l _ q x _ hq => by omega⟩, ?_⟩
    intro k m3 I2 F2 hI2 ⟨_, k0, r', hr', k1, km, ls2, H2, hH2, hp2, hb2, hm2, hmk⟩
    obtain rfl : r = r' := by rw [hr] at hr'; exact Option.some.inj hr'
    have hrd2 := fun G => (hrd G).mono hI2
    refine ⟨⟨i0, by omega⟩, ad, had, _, _, _, hrd2 _, fun hk => ?_, fun hk => ?_⟩
    · have hk := of_decide_eq_true hk
      refine ⟨⟨i0, by omega⟩, ad, had, _, _, _, hrd2 _, spotV i k, fun X => (spot_spec i k I2 X).mono fun e I' G _ ⟨h1, h2⟩ => ⟨h1, by rw [h2]⟩, ⟨k0, by omega⟩, ?_⟩
      obtain ⟨l, A, R, hl, hA, hpA, hset⟩ := hH2.focus hr
      obtain ⟨b, cs, ha, hAe, hlen, hA'⟩ := hA.put (k := k.toNat) (o := 1) (by omega) (by decide) (mkV i k)
      obtain ⟨H3, hH3, hp3⟩ := hset _ _ hA'
      subst hAe
      refine ⟨⟨b, 0, none⟩, ha, cs, 135, R ++ F, ?_, ?_, ?_, m3 - 1, by omega, ?_⟩
      · rw [add_add]; exact hp2.trans (List.Perm.append_right F hpA)
      · rw [add_add]
      · rw [add_add]; exact hlen
      · rw [add_add, w64 (by have := hb2 _ _ hl; have := hA.1; omega)]
        refine ⟨i0, by omega, r, hr, by omega, by omega, _, H3, hH3, ?_, hb2.set hl _, marks_set hm2 _ i0, fun l' hl' => ?_⟩
        · exact (List.Perm.append_right F hp3).symm
        · have hlt2 : i.toNat < ls2.length := (List.getElem?_eq_some_iff.1 hl).1
          rw [List.getElem?_set_self hlt2] at hl'
          obtain rfl : l.modify k.toNat (setC 1 (mkV i k)) = l' := Option.some.inj hl'
          exact (hmk l hl).step (by decide) k0
    · have hk := of_decide_eq_false hk
      rw [w64 (by omega)]
      refine ⟨_, ?_, by omega, by omega, rfl, ls2, H2, hH2, hp2, hb2, fun j l hj hl => ?_⟩
      · omega
      · rcases Int.lt_or_eq_of_le (Int.lt_add_one_iff.1 hj) with h | h
        · exact hm2 j l h hl
        · have hji : j = i.toNat := by omega
          subst hji
          have hmk' := hmk l hl
          obtain ⟨l', A, R, hl', hA, _⟩ := hH2.focus hr
          obtain rfl : l' = l := by rw [hl'] at hl; exact Option.some.inj hl
          intro q x hx
          have hq := (List.getElem?_eq_some_iff.1 hx).1
          rw [h]
          exact hmk' q x hx (by have := hA.1; omega)
  · -- the rows grow
    have hlt := of_decide_eq_false hlt
    have hall : ∀ (j : Nat) l, ls1[j]? = some l → MkAll 1 mkV j l := fun j l hl => hm1 j l (by have := hH1.len; have := (List.getElem?_eq_some_iff.1 hl).1; omega) hl
    refine ⟨⟨_, by omega, by omega, rfl, ls1, H1, [], [], hH1, Acc.nil, hp1, rfl, hb1, hall, fun j r x hj => by omega⟩, ?_⟩
    intro a n c i m7 I4 F4 hI4 ⟨i0, i1, im, ls4, H4, xs, Al, hH4, hAl, hp4, hxl, hb4, hm4, hd4⟩
    have hS4 := hS1.mono hI4
    refine ⟨fun hlt => ?_, fun hlt => ?_⟩
    · have hlt := of_decide_eq_true hlt
      obtain ⟨ad, r, had, hr, hrd⟩ := hS4.at (i := i) i0 (by omega)
      obtain ⟨l, A, H5, hl, hHe, hA, hH5⟩ := hH4.drop hr
      subst hHe
      refine ⟨⟨i0, by omega⟩, ad, had, _, _, _, hrd _, ⟨_, i0, by omega, by omega, by omega, rfl, ls4, H5, xs, Al, r, l, [], A, hr, hH5, hAl, by rw [List.append_nil]; exact hA, ?_, hxl, hb4, hm4, by have := hm4 _ _ hl; rwa [Int.toNat_of_nonneg i0] at this, rfl, fun q x hx => by simp at hx, hA.1, hb4 _ _ hl, .inl rfl, hd4⟩, ?_⟩
      · refine hp4.trans ?_
        rw [List.append_assoc A H5 F, ← List.append_assoc Al A, ← List.append_assoc A Al]
        exact List.Perm.append_right _ List.perm_append_comm
      intro xa xn xc k m9 I5 F5 hI5 ⟨_, _, k0, k1, km, ls5, H5', xs5, Al5, r5, l5, t5, A5, hr5, hH5', hAl5, hA5, hp5, hxl5, hb5, hm5, hml5, ht5, hmt5, hrn5, hl5, hor5, hd5⟩
      obtain rfl : r = r5 := by rw [hr] at hr5; exact Option.some.inj hr5
      refine ⟨fun hk => ?_, fun hk => ?_⟩
      · have hk := of_decide_eq_true hk
        refine Tri.ret (behind_spec i k I5 _) fun I6 hI6 => ⟨_, rfl, F5, .refl _, ?_⟩
        intro b I7 hI7 hb7
        let y : Ck 2 := ⟨[.int .u8 0, bhV i k], rfl⟩
        refine TriE.perm (TriE.mono (append_spec' (f := cv) (z := 2) (zv := .agg #[.int .u8 0, .int .i64 0]) cv_len (by' := 16) (by kernel_rfl) (by kernel_rfl) rfl (by decide) hA5 (xs := [y]) ?_ (by simp) rfl ?_ ?_ (F := Al5 ++ (H5' ++ F)))
          fun v I8 G3 hI8 ⟨a', n', c', A', hv, hA', hG, hor⟩ => ?_) hp5
        · intro x hx u hu
          rw [List.mem_singleton] at hx; subst hx
          exact List.all_eq_true.1 (show (cv y).all (fun u => u.oneCell') = true from rfl) u hu
        · exact ⟨rfl, _, _, _, .inl hb7, fun j hj => by simp [y, cv, bhV]⟩
        · rw [List.length_append]; simp only [List.length_cons, List.length_nil]; omega
        subst hG
        have hle8 : Imm.le I5 I8 := Imm.le_trans hI6 (Imm.le_trans hI7 hI8)
        refine ⟨_, _, _, hv, _, .refl _, m9 - 1, by omega, i0, by omega, by rw [w64 (by omega)]; omega, by rw [w64 (by omega)]; omega, by rw [w64 (by omega)]; omega,
          ls5, H5', xs5, Al5, r, l5, t5 ++ [y], A', hr, hH5', hAl5, by rw [← List.append_assoc]; exact hA', .refl _, hxl5, hb5, hm5, hml5, ?_, ?_, hrn5, hl5, ?_, fun j r x hj hr hx => (hd5 j r x hj hr hx).mono hle8⟩
        · rw [w64 (by omega), List.length_append, List.length_singleton]; omega
        · refine hmt5.snoc ?_
          show some (bhV i k) = _
          rw [ht5]
        · rcases hor5 with h | h
          · rcases hor with h' | h'
            · exact .inl (h'.trans h)
            · right
              rw [← h, hrn5]
              exact Sl.prefix h'
          · exact .inr (h.mono hle8)
      · have hk := of_decide_eq_false hk
        intro b1 I9 hI9 hb9
        refine TriE.pre fun w hw => ?_
        obtain ⟨J, hJ, hsJ, hSx⟩ := hA5.keep cv_len (hw.perm hp5)
        have hle9 : Imm.le I5 J := Imm.le_trans hI9 hJ
        refine ⟨J, _, hJ, hsJ, ?_⟩
        refine TriE.mono (append_spec' (f := Row.enc) (z := 1) (zv := .slice none 0 0) (fun _ => rfl) (by' := 24) (by kernel_rfl) (by kernel_rfl) rfl (by decide) hAl5 (xs := [⟨xa, xn, xc⟩]) (fun x _ => rows_one x) (by simp) rfl ?_ ?_ (F := H5' ++ F))
          fun v I10 G4 hI10 ⟨a', n', c', A', hv, hA', hG, hor⟩ => ?_
        · exact ⟨rfl, _, _, _, .inl (hJ.at hb9), fun j hj => by simp [Row.enc]⟩
        · simp only [List.length_cons, List.length_nil]; omega
        subst hG
        have hle10 : Imm.le I5 I10 := Imm.le_trans hle9 hI10
        refine ⟨_, _, _, hv, _, .refl _, m7 - 1, by omega, by rw [w64 (by omega)]; omega, by rw [w64 (by omega)]; omega, by rw [w64 (by omega)]; omega, ls5, H5', xs5 ++ [⟨xa, xn, xc⟩], A', ?_, hA', .refl _, ?_, hb5, hm5, ?_⟩
        · rw [w64 (by omega), show (i + 1).toNat = i.toNat + 1 by omega]; exact hH5'
        · rw [w64 (by omega), List.length_append, List.length_singleton]; omega
        · intro j r' x' hj hr' hx'
          rw [w64 (by omega)] at hj
          rcases Int.lt_or_eq_of_le (Int.lt_add_one_iff.1 hj) with h | h
          · rw [List.getElem?_append_left (by omega)] at hx'
            exact (hd5 j r' x' h hr' hx').mono hle10
          · have hji : j = i.toNat := by omega
            subst hji
            obtain rfl : r = r' := by rw [hr] at hr'; exact Option.some.inj hr'
            have hx2 : x' = ⟨xa, xn, xc⟩ := by
              have : i.toNat = xs5.length := by omega
              rw [this, List.getElem?_append_right (Nat.le_refl _), Nat.sub_self] at hx'
              simpa using hx'.symm
            subst hx2
            rw [h]
            refine ⟨l5, t5, ?_, hml5, hSx.mono hI10, by omega, hmt5⟩
            rcases hor5 with h' | h'
            · rw [← h', hrn5]; exact (Sl.prefix hSx).mono hI10
            · exact h'.mono hle10
    · -- the look at all of them
      have hlt := of_decide_eq_false hlt
      have hxs : xs.length = ln := by omega
      refine ⟨⟨_, by omega, by omega, rfl, ⟨Al ++ H4, by rw [List.append_assoc]; exact hp4⟩, xs, (Acc.slg (z := 1) (f := Row.enc) (fun _ => rfl) hAl I4 (G := F4) fun x hx => hp4.mem_iff.2 (List.mem_append_left _ hx)), hxs,
        fun j r x hr hx => hd4 j r x (by have := (List.getElem?_eq_some_iff.1 hx).1; omega) hr hx⟩, ?_⟩
      intro x i m13 I11 F9 hI11 ⟨i0, i1, im, ⟨A9, hp9⟩, xs, hsl, hxs, hd⟩
      have hS11 := hS4.mono hI11
      refine ⟨fun hlt => ?_, fun hlt => ⟨rfl, A9, hp9⟩⟩
      have hlt := of_decide_eq_true hlt
      obtain ⟨ad, r, had, hr, hrd⟩ := hS11.at (i := i) i0 (by omega)
      obtain ⟨adx, xr, hadx, hxr, hrdx⟩ := hsl.at (i := i) i0 (by have := hsl.1; omega)
      have hrn : r.n ≤ 1000000000 := by
        obtain ⟨l, A, R, hl, hA, _⟩ := hH.focus hr
        have := hb _ _ hl
        have := hA.1
        omega
      refine ⟨⟨i0, by omega⟩, ad, had, _, _, _, hrd _, ⟨_, i0, by omega, by omega, ⟨r, hr, rfl, hrn, by omega, rfl⟩, ⟨A9, hp9⟩, xs, hsl, hxs, hd⟩, ?_⟩
      intro x1 k m15 I12 F10 hI12 ⟨_, _, k0, ⟨r', hr', hnn, _, k1, km⟩, ⟨A10, hp10⟩, xs2, hsl2, hxs2, hd2⟩
      obtain rfl : r = r' := by rw [hr] at hr'; exact Option.some.inj hr'
      obtain ⟨adx2, xr2, hadx2, hxr2, hrdx2⟩ := hsl2.at (i := i) i0 (by have := hsl2.1; omega)
      obtain ⟨l, t, hSl, hml, hSx, htl, hmt⟩ := hd2 _ _ _ hr hxr2
      have hrl := hSl.1
      have hxl := hSx.1
      rw [List.length_append] at hxl
      have hrd2 := fun G => (hrd G).mono hI12
      have hii : ((i.toNat : Nat) : Int) = i := Int.toNat_of_nonneg i0
      rw [hii] at hml hmt
      refine ⟨fun hk => ?_, fun hk => ?_⟩
      · have hk := of_decide_eq_true hk
        obtain ⟨ad6, y, ha6, hy, hrd6⟩ := hSl.at (i := k) k0 (by omega)
        have hyv := hml _ _ hy
        have hkk : ((k.toNat : Nat) : Int) = k := Int.toNat_of_nonneg k0
        rw [hkk] at hyv
        obtain ⟨ad8, y', ha8, hy', hrd8⟩ := hSx.at (i := k) k0 (by omega)
        obtain rfl : y = y' := by
          rw [List.getElem?_append_left (by omega), hy] at hy'; exact Option.some.inj hy'
        have hsp : ∀ X : Heap, Tri P 66 #[.int .i64 i, .int .i64 k] I12 X fun e I' G => e = .returned (.int .i64 (spotV i k)) ∧ G.Perm X := fun X => (spot_spec i k I12 X).mono fun e I' G _ ⟨h1, h2⟩ => ⟨h1, by rw [h2]⟩
        refine ⟨⟨i0, by omega⟩, ad, had, _, _, _, hrd2 _, ⟨k0, by omega⟩, ad6, ha6, spotV i k, (hrd6 _).field hyv, spotV i k, hsp, fun h => by simp at h, fun _ => ⟨⟨i0, by have := hsl2.1; omega⟩, adx2, hadx2, _, _, _, hrdx2, ⟨k0, by omega⟩, ad8, ha8, spotV i k, (hrd8 _).field hyv, spotV i k, hsp, fun h => by simp at h, fun _ => ?_⟩⟩
        rw [w64 (by omega)]
        exact ⟨_, by omega, i0, by omega, by omega, ⟨r, hr, hnn, hrn, by omega, rfl⟩, ⟨A10, hp10⟩, xs2, hsl2, hxs2, hd2⟩
      · have hk := of_decide_eq_false hk
        refine ⟨⟨_, i0, by omega, by omega, by omega, rfl, ⟨r, hr, rfl, hrn⟩, ⟨A10, hp10⟩, xs2, hsl2, hxs2, hd2⟩, ?_⟩
        intro x2 k3 m20 I15 F11 hI15 ⟨_, _, k0', k1', km', ⟨r', hr', hnn', _⟩, ⟨A11, hp11⟩, xs3, hsl3, hxs3, hd3⟩
        refine ⟨fun hk => ?_, fun hk => ?_⟩
        · have hk := of_decide_eq_true hk
          obtain ⟨adx3, xr3, hadx3, hxr3, hrdx3⟩ := hsl3.at (i := i) i0 (by have := hsl3.1; omega)
          obtain ⟨l3, t3, hSl3, hml3, hSx3, htl3, hmt3⟩ := hd3 _ _ _ hr hxr3
          have hrl3 := hSl3.1
          have hxl3 := hSx3.1
          rw [List.length_append] at hxl3
          rw [hii] at hmt3
          rw [w64 (by omega)]
          obtain ⟨ad10, y, ha10, hy, hrd10⟩ := hSx3.at (i := ((r.n : Nat) : Int) + k3) (by omega) (by omega)
          rw [List.getElem?_append_right (by omega), show (((r.n : Nat) : Int) + k3).toNat - l3.length = k3.toNat by omega] at hy
          have hyv := hmt3 _ _ hy
          have hkk : ((k3.toNat : Nat) : Int) = k3 := Int.toNat_of_nonneg k0'
          rw [hkk] at hyv
          refine ⟨⟨i0, by have := hsl3.1; omega⟩, adx3, hadx3, _, _, _, hrdx3, ⟨by omega, by omega⟩, ad10, ha10, behindV i k3, (hrd10 _).field hyv, behindV i k3, fun X => (behind_spec i k3 I15 X).mono fun e I' G _ ⟨h1, h2⟩ => ⟨h1, by rw [h2]⟩, fun h => by simp at h, fun _ => ?_⟩
          rw [w64 (by omega)]
          exact ⟨_, by omega, i0, by omega, by omega, by omega, rfl, ⟨r, hr, rfl, hrn⟩, ⟨A11, hp11⟩, xs3, hsl3, hxs3, hd3⟩
        · rw [w64 (by omega)]
          exact ⟨_, by omega, by omega, by omega, rfl, ⟨A11, hp11⟩, xs3, hsl3, hxs3, hd3⟩

theorem ownRows_spec {rs : List Row} {ls : List (List (Ck 11))} {H F : Heap} {la : Option Addr} {ln lc : Nat} {I : Imm} (hS : Sl I 1 Row.enc la ln rs) (hH : RowsH 11 140 rs ls H) (hb : Bd ls) (hrs : rs.length ≤ 1000000000) :
    Tri P 40 #[.slice la ln lc] I (H ++ F) fun e I' G => e = .returned (.bool true) ∧ G = F := by
  refine OwnPost.keep ?_
  have hln := hS.1
  refine ref00_ownRows.vc
    (fun i m I0 F0 I' F' => 0 ≤ i ∧ i ≤ ln ∧ m = (ln - i).toNat ∧ ∃ ls H, RowsH 11 140 rs ls H ∧ F'.Perm (H ++ F) ∧ Bd ls ∧ ∀ (j : Nat) l, (j : Int) < i → ls[j]? = some l → MkAll 2 mkV j l)
    (fun i k m I0 F0 I' F' => 0 ≤ i ∧ 0 ≤ k ∧ ∃ r, rs[i.toNat]? = some r ∧ k ≤ r.n ∧ m = (r.n - k).toNat ∧ ∃ ls H, RowsH 11 140 rs ls H ∧ F'.Perm (H ++ F) ∧ Bd ls ∧ (∀ (j : Nat) l, (j : Int) < i → ls[j]? = some l → MkAll 2 mkV j l) ∧
      ∀ l, ls[i.toNat]? = some l → MkTo 2 mkV i k l)
    (fun a n c i m I0 F0 I' F' => 0 ≤ i ∧ i ≤ ln ∧ m = (ln - i).toNat ∧ ∃ ls H xs Al, RowsH 11 140 (rs.drop i.toNat) (ls.drop i.toNat) H ∧ Acc 1 Row.enc 136 a n c xs Al ∧ F'.Perm (Al ++ (H ++ F)) ∧ (xs.length : Int) = i ∧ Bd ls ∧
      (∀ (j : Nat) l, ls[j]? = some l → MkAll 2 mkV j l) ∧ ∀ (j : Nat) r x, (j : Int) < i → rs[j]? = some r → xs[j]? = some x → Done (z := 11) 2 8 mkV bhV I' j r x)
    (fun a n c i xa xn xc k m I0 F0 I' F' => 0 ≤ i ∧ i < ln ∧ 0 ≤ k ∧ k ≤ 8 ∧ m = (8 - k).toNat ∧ ∃ (ls : List (List (Ck 11))) (H : Heap) (xs : List Row) (Al : Heap) (r : Row) (l t : List (Ck 11)) (A : Heap), rs[i.toNat]? = some r ∧ RowsH 11 140 (rs.drop (i.toNat + 1)) (ls.drop (i.toNat + 1)) H ∧ Acc 1 Row.enc 136 a n c xs Al ∧
      Acc 11 cv 140 xa xn xc (l ++ t) A ∧ F'.Perm (A ++ (Al ++ (H ++ F))) ∧ (xs.length : Int) = i ∧ Bd ls ∧ (∀ (j : Nat) l, ls[j]? = some l → MkAll 2 mkV j l) ∧ MkAll 2 mkV i l ∧ (t.length : Int) = k ∧ MkAll 2 bhV i t ∧ r.n = l.length ∧ l.length ≤ 1000000000 ∧
      (xa = r.a ∨ Sl I' 11 cv r.a r.n l) ∧ ∀ (j : Nat) r x, (j : Int) < i → rs[j]? = some r → xs[j]? = some x → Done (z := 11) 2 8 mkV bhV I' j r x)
    (fun a n c x i m I0 F0 I' F' => 0 ≤ i ∧ i ≤ ln ∧ m = (ln - i).toNat ∧ (∃ A, F'.Perm (A ++ F)) ∧ ∃ xs, SlG I' F' 1 Row.enc a n xs ∧ xs.length = ln ∧ ∀ (j : Nat) r x, rs[j]? = some r → xs[j]? = some x → Done (z := 11) 2 8 mkV bhV I' j r x)
    (fun a n c i nn x k m I0 F0 I' F' => 0 ≤ i ∧ i < ln ∧ 0 ≤ k ∧ (∃ r, rs[i.toNat]? = some r ∧ nn = r.n ∧ r.n ≤ 1000000000 ∧ k ≤ r.n ∧ m = (r.n - k).toNat) ∧ (∃ A, F'.Perm (A ++ F)) ∧ ∃ xs, SlG I' F' 1 Row.enc a n xs ∧ xs.length = ln ∧ ∀ (j : Nat) r x, rs[j]? = some r → xs[j]? = some x → Done (z := 11) 2 8 mkV bhV I' j r x)
    (fun a n c i nn x k m I0 F0 I' F' => 0 ≤ i ∧ i < ln ∧ 0 ≤ k ∧ k ≤ 8 ∧ m = (8 - k).toNat ∧ (∃ r, rs[i.toNat]? = some r ∧ nn = r.n ∧ r.n ≤ 1000000000) ∧ (∃ A, F'.Perm (A ++ F)) ∧ ∃ xs, SlG I' F' 1 Row.enc a n xs ∧ xs.length = ln ∧ ∀ (j : Nat) r x, rs[j]? = some r → xs[j]? = some x → Done (z := 11) 2 8 mkV bhV I' j r x) ?_
  unfold ref00_ownRows.V
  refine ⟨⟨_, by omega, by omega, rfl, ls, H, hH, .refl _, hb, fun j l hj => by omega⟩, ?_⟩
  intro i m1 I1 F1 hI1 ⟨i0, i1, im, ls1, H1, hH1, hp1, hb1, hm1⟩
  have hS1 := hS.mono hI1
  refine ⟨fun hlt => ?_, fun hlt => ?_⟩
  · -- the marks of row i
    have hlt := of_decide_eq_true hlt
    obtain ⟨ad, r, had, hr, hrd⟩ := hS1.at (i := i) i0 (by omega)
    refine ⟨⟨_, i0, by omega, r, hr, by omega, rfl, ls1, H1, hH1, hp1, hb1, hm1, fun l _ q x _ hq => by omega⟩, ?_⟩
    intro k m3 I2 F2 hI2 ⟨_, k0, r', hr', k1, km, ls2, H2, hH2, hp2, hb2, hm2, hmk⟩
    obtain rfl : r = r' := by rw [hr] at hr'; exact Option.some.inj hr'
    have hrd2 := fun G => (hrd G).mono hI2
    refine ⟨⟨i0, by omega⟩, ad, had, _, _, _, hrd2 _, fun hk => ?_, fun hk => ?_⟩
    · have hk := of_decide_eq_true hk
      refine ⟨⟨i0, by omega⟩, ad, had, _, _, _, hrd2 _, spotV i k, fun X => (spot_spec i k I2 X).mono fun e I' G _ ⟨h1, h2⟩ => ⟨h1, by rw [h2]⟩, ⟨k0, by omega⟩, ?_⟩
      obtain ⟨l, A, R, hl, hA, hpA, hset⟩ := hH2.focus hr
      obtain ⟨b, cs, ha, hAe, hlen, hA'⟩ := hA.put (k := k.toNat) (o := 2) (by omega) (by decide) (mkV i k)
      obtain ⟨H3, hH3, hp3⟩ := hset _ _ hA'
      subst hAe
      refine ⟨⟨b, 0, none⟩, ha, cs, 140, R ++ F, ?_, ?_, ?_, m3 - 1, by omega, ?_⟩
      · rw [add_add]; exact hp2.trans (List.Perm.append_right F hpA)
      · rw [add_add]
      · rw [add_add]; exact hlen
      · rw [add_add, w64 (by have := hb2 _ _ hl; have := hA.1; omega)]
        refine ⟨i0, by omega, r, hr, by omega, by omega, _, H3, hH3, ?_, hb2.set hl _, marks_set hm2 _ i0, fun l' hl' => ?_⟩
        · exact (List.Perm.append_right F hp3).symm
        · have hlt2 : i.toNat < ls2.length := (List.getElem?_eq_some_iff.1 hl).1
          rw [List.getElem?_set_self hlt2] at hl'
          obtain rfl : l.modify k.toNat (setC 2 (mkV i k)) = l' := Option.some.inj hl'
          exact (hmk l hl).step (by decide) k0
    · have hk := of_decide_eq_false hk
      rw [w64 (by omega)]
      refine ⟨_, ?_, by omega, by omega, rfl, ls2, H2, hH2, hp2, hb2, fun j l hj hl => ?_⟩
      · omega
      · rcases Int.lt_or_eq_of_le (Int.lt_add_one_iff.1 hj) with h | h
        · exact hm2 j l h hl
        · have hji : j = i.toNat := by omega
          subst hji
          have hmk' := hmk l hl
          obtain ⟨l', A, R, hl', hA, _⟩ := hH2.focus hr
          obtain rfl : l' = l := by rw [hl'] at hl; exact Option.some.inj hl
          intro q x hx
          have hq := (List.getElem?_eq_some_iff.1 hx).1
          rw [h]
          exact hmk' q x hx (by have := hA.1; omega)
  · -- the rows grow
    have hlt := of_decide_eq_false hlt
    have hall : ∀ (j : Nat) l, ls1[j]? = some l → MkAll 2 mkV j l := fun j l hl => hm1 j l (by have := hH1.len; have := (List.getElem?_eq_some_iff.1 hl).1; omega) hl
    refine ⟨⟨_, by omega, by omega, rfl, ls1, H1, [], [], hH1, Acc.nil, hp1, rfl, hb1, hall, fun j r x hj => by omega⟩, ?_⟩
    intro a n c i m7 I4 F4 hI4 ⟨i0, i1, im, ls4, H4, xs, Al, hH4, hAl, hp4, hxl, hb4, hm4, hd4⟩
    have hS4 := hS1.mono hI4
    refine ⟨fun hlt => ?_, fun hlt => ?_⟩
    · have hlt := of_decide_eq_true hlt
      obtain ⟨ad, r, had, hr, hrd⟩ := hS4.at (i := i) i0 (by omega)
      obtain ⟨l, A, H5, hl, hHe, hA, hH5⟩ := hH4.drop hr
      subst hHe
      refine ⟨⟨i0, by omega⟩, ad, had, _, _, _, hrd _, ⟨_, i0, by omega, by omega, by omega, rfl, ls4, H5, xs, Al, r, l, [], A, hr, hH5, hAl, by rw [List.append_nil]; exact hA, ?_, hxl, hb4, hm4, by have := hm4 _ _ hl; rwa [Int.toNat_of_nonneg i0] at this, rfl, fun q x hx => by simp at hx, hA.1, hb4 _ _ hl, .inl rfl, hd4⟩, ?_⟩
      · refine hp4.trans ?_
        rw [List.append_assoc A H5 F, ← List.append_assoc Al A, ← List.append_assoc A Al]
        exact List.Perm.append_right _ List.perm_append_comm
      intro xa xn xc k m9 I5 F5 hI5 ⟨_, _, k0, k1, km, ls5, H5', xs5, Al5, r5, l5, t5, A5, hr5, hH5', hAl5, hA5, hp5, hxl5, hb5, hm5, hml5, ht5, hmt5, hrn5, hl5, hor5, hd5⟩
      obtain rfl : r = r5 := by rw [hr] at hr5; exact Option.some.inj hr5
      refine ⟨fun hk => ?_, fun hk => ?_⟩
      · have hk := of_decide_eq_true hk
        refine Tri.ret (behind_spec i k I5 _) fun I6 hI6 => ⟨_, rfl, F5, .refl _, ?_⟩
        intro b I7 hI7 hb7
        let y : Ck 11 := ⟨[.int .u8 0, .int .u8 0, bhV i k, .int .i64 0, .int .i64 0, .int .i64 0, .int .i64 0, .int .i64 0, .int .i64 0, .int .i64 0, .int .i64 0], rfl⟩
        refine TriE.perm (TriE.mono (append_spec' (f := cv) (z := 11) (zv := .agg #[.int .u8 0, .int .u8 0, .int .i64 0, .int .i64 0, .int .i64 0, .int .i64 0, .int .i64 0, .int .i64 0, .int .i64 0, .int .i64 0, .int .i64 0]) cv_len (by' := 80) (by kernel_rfl) (by kernel_rfl) rfl (by decide) hA5 (xs := [y]) ?_ (by simp) rfl ?_ ?_ (F := Al5 ++ (H5' ++ F)))
          fun v I8 G3 hI8 ⟨a', n', c', A', hv, hA', hG, hor⟩ => ?_) hp5
        · intro x hx u hu
          rw [List.mem_singleton] at hx; subst hx
          exact List.all_eq_true.1 (show (cv y).all (fun u => u.oneCell') = true from rfl) u hu
        · exact ⟨rfl, _, _, _, .inl hb7, fun j hj => by simp [y, cv, bhV]⟩
        · rw [List.length_append]; simp only [List.length_cons, List.length_nil]; omega
        subst hG
        have hle8 : Imm.le I5 I8 := Imm.le_trans hI6 (Imm.le_trans hI7 hI8)
        refine ⟨_, _, _, hv, _, .refl _, m9 - 1, by omega, i0, by omega, by rw [w64 (by omega)]; omega, by rw [w64 (by omega)]; omega, by rw [w64 (by omega)]; omega,
          ls5, H5', xs5, Al5, r, l5, t5 ++ [y], A', hr, hH5', hAl5, by rw [← List.append_assoc]; exact hA', .refl _, hxl5, hb5, hm5, hml5, ?_, ?_, hrn5, hl5, ?_, fun j r x hj hr hx => (hd5 j r x hj hr hx).mono hle8⟩
        · rw [w64 (by omega), List.length_append, List.length_singleton]; omega
        · refine hmt5.snoc ?_
          show some (bhV i k) = _
          rw [ht5]
        · rcases hor5 with h | h
          · rcases hor with h' | h'
            · exact .inl (h'.trans h)
            · right
              rw [← h, hrn5]
              exact Sl.prefix h'
          · exact .inr (h.mono hle8)
      · have hk := of_decide_eq_false hk
        intro b1 I9 hI9 hb9
        refine TriE.pre fun w hw => ?_
        obtain ⟨J, hJ, hsJ, hSx⟩ := hA5.keep cv_len (hw.perm hp5)
        have hle9 : Imm.le I5 J := Imm.le_trans hI9 hJ
        refine ⟨J, _, hJ, hsJ, ?_⟩
        refine TriE.mono (append_spec' (f := Row.enc) (z := 1) (zv := .slice none 0 0) (fun _ => rfl) (by' := 24) (by kernel_rfl) (by kernel_rfl) rfl (by decide) hAl5 (xs := [⟨xa, xn, xc⟩]) (fun x _ => rows_one x) (by simp) rfl ?_ ?_ (F := H5' ++ F))
          fun v I10 G4 hI10 ⟨a', n', c', A', hv, hA', hG, hor⟩ => ?_
        · exact ⟨rfl, _, _, _, .inl (hJ.at hb9), fun j hj => by simp [Row.enc]⟩
        · simp only [List.length_cons, List.length_nil]; omega
        subst hG
        have hle10 : Imm.le I5 I10 := Imm.le_trans hle9 hI10
        refine ⟨_, _, _, hv, _, .refl _, m7 - 1, by omega, by rw [w64 (by omega)]; omega, by rw [w64 (by omega)]; omega, by rw [w64 (by omega)]; omega, ls5, H5', xs5 ++ [⟨xa, xn, xc⟩], A', ?_, hA', .refl _, ?_, hb5, hm5, ?_⟩
        · rw [w64 (by omega), show (i + 1).toNat = i.toNat + 1 by omega]; exact hH5'
        · rw [w64 (by omega), List.length_append, List.length_singleton]; omega
        · intro j r' x' hj hr' hx'
          rw [w64 (by omega)] at hj
          rcases Int.lt_or_eq_of_le (Int.lt_add_one_iff.1 hj) with h | h
          · rw [List.getElem?_append_left (by omega)] at hx'
            exact (hd5 j r' x' h hr' hx').mono hle10
          · have hji : j = i.toNat := by omega
            subst hji
            obtain rfl : r = r' := by rw [hr] at hr'; exact Option.some.inj hr'
            have hx2 : x' = ⟨xa, xn, xc⟩ := by
              have : i.toNat = xs5.length := by omega
              rw [this, List.getElem?_append_right (Nat.le_refl _), Nat.sub_self] at hx'
              simpa using hx'.symm
            subst hx2
            rw [h]
            refine ⟨l5, t5, ?_, hml5, hSx.mono hI10, by omega, hmt5⟩
            rcases hor5 with h' | h'
            · rw [← h', hrn5]; exact (Sl.prefix hSx).mono hI10
            · exact h'.mono hle10
    · -- the look at all of them
      have hlt := of_decide_eq_false hlt
      have hxs : xs.length = ln := by omega
      refine ⟨⟨_, by omega, by omega, rfl, ⟨Al ++ H4, by rw [List.append_assoc]; exact hp4⟩, xs, (Acc.slg (z := 1) (f := Row.enc) (fun _ => rfl) hAl I4 (G := F4) fun x hx => hp4.mem_iff.2 (List.mem_append_left _ hx)), hxs,
        fun j r x hr hx => hd4 j r x (by have := (List.getElem?_eq_some_iff.1 hx).1; omega) hr hx⟩, ?_⟩
      intro x i m13 I11 F9 hI11 ⟨i0, i1, im, ⟨A9, hp9⟩, xs, hsl, hxs, hd⟩
      have hS11 := hS4.mono hI11
      refine ⟨fun hlt => ?_, fun hlt => ⟨rfl, A9, hp9⟩⟩
      have hlt := of_decide_eq_true hlt
      obtain ⟨ad, r, had, hr, hrd⟩ := hS11.at (i := i) i0 (by omega)
      obtain ⟨adx, xr, hadx, hxr, hrdx⟩ := hsl.at (i := i) i0 (by have := hsl.1; omega)
      have hrn : r.n ≤ 1000000000 := by
        obtain ⟨l, A, R, hl, hA, _⟩ := hH.focus hr
        have := hb _ _ hl
        have := hA.1
        omega
      refine ⟨⟨i0, by omega⟩, ad, had, _, _, _, hrd _, ⟨_, i0, by omega, by omega, ⟨r, hr, rfl, hrn, by omega, rfl⟩, ⟨A9, hp9⟩, xs, hsl, hxs, hd⟩, ?_⟩
      intro x1 k m15 I12 F10 hI12 ⟨_, _, k0, ⟨r', hr', hnn, _, k1, km⟩, ⟨A10, hp10⟩, xs2, hsl2, hxs2, hd2⟩
      obtain rfl : r = r' := by rw [hr] at hr'; exact Option.some.inj hr'
      obtain ⟨adx2, xr2, hadx2, hxr2, hrdx2⟩ := hsl2.at (i := i) i0 (by have := hsl2.1; omega)
      obtain ⟨l, t, hSl, hml, hSx, htl, hmt⟩ := hd2 _ _ _ hr hxr2
      have hrl := hSl.1
      have hxl := hSx.1
      rw [List.length_append] at hxl
      have hrd2 := fun G => (hrd G).mono hI12
      have hii : ((i.toNat : Nat) : Int) = i := Int.toNat_of_nonneg i0
      rw [hii] at hml hmt
      refine ⟨fun hk => ?_, fun hk => ?_⟩
      · have hk := of_decide_eq_true hk
        obtain ⟨ad6, y, ha6, hy, hrd6⟩ := hSl.at (i := k) k0 (by omega)
        have hyv := hml _ _ hy
        have hkk : ((k.toNat : Nat) : Int) = k := Int.toNat_of_nonneg k0
        rw [hkk] at hyv
        obtain ⟨ad8, y', ha8, hy', hrd8⟩ := hSx.at (i := k) k0 (by omega)
        obtain rfl : y = y' := by
          rw [List.getElem?_append_left (by omega), hy] at hy'; exact Option.some.inj hy'
        have hsp : ∀ X : Heap, Tri P 66 #[.int .i64 i, .int .i64 k] I12 X fun e I' G => e = .returned (.int .i64 (spotV i k)) ∧ G.Perm X := fun X => (spot_spec i k I12 X).mono fun e I' G _ ⟨h1, h2⟩ => ⟨h1, by rw [h2]⟩
        refine ⟨⟨i0, by omega⟩, ad, had, _, _, _, hrd2 _, ⟨k0, by omega⟩, ad6, ha6, spotV i k, (hrd6 _).field hyv, spotV i k, hsp, fun h => by simp at h, fun _ => ⟨⟨i0, by have := hsl2.1; omega⟩, adx2, hadx2, _, _, _, hrdx2, ⟨k0, by omega⟩, ad8, ha8, spotV i k, (hrd8 _).field hyv, spotV i k, hsp, fun h => by simp at h, fun _ => ?_⟩⟩
        rw [w64 (by omega)]
        exact ⟨_, by omega, i0, by omega, by omega, ⟨r, hr, hnn, hrn, by omega, rfl⟩, ⟨A10, hp10⟩, xs2, hsl2, hxs2, hd2⟩
      · have hk := of_decide_eq_false hk
        refine ⟨⟨_, i0, by omega, by omega, by omega, rfl, ⟨r, hr, rfl, hrn⟩, ⟨A10, hp10⟩, xs2, hsl2, hxs2, hd2⟩, ?_⟩
        intro x2 k3 m20 I15 F11 hI15 ⟨_, _, k0', k1', km', ⟨r', hr', hnn', _⟩, ⟨A11, hp11⟩, xs3, hsl3, hxs3, hd3⟩
        refine ⟨fun hk => ?_, fun hk => ?_⟩
        · have hk := of_decide_eq_true hk
          obtain ⟨adx3, xr3, hadx3, hxr3, hrdx3⟩ := hsl3.at (i := i) i0 (by have := hsl3.1; omega)
          obtain ⟨l3, t3, hSl3, hml3, hSx3, htl3, hmt3⟩ := hd3 _ _ _ hr hxr3
          have hrl3 := hSl3.1
          have hxl3 := hSx3.1
          rw [List.length_append] at hxl3
          rw [hii] at hmt3
          rw [w64 (by omega)]
          obtain ⟨ad10, y, ha10, hy, hrd10⟩ := hSx3.at (i := ((r.n : Nat) : Int) + k3) (by omega) (by omega)
          rw [List.getElem?_append_right (by omega), show (((r.n : Nat) : Int) + k3).toNat - l3.length = k3.toNat by omega] at hy
          have hyv := hmt3 _ _ hy
          have hkk : ((k3.toNat : Nat) : Int) = k3 := Int.toNat_of_nonneg k0'
          rw [hkk] at hyv
          refine ⟨⟨i0, by have := hsl3.1; omega⟩, adx3, hadx3, _, _, _, hrdx3, ⟨by omega, by omega⟩, ad10, ha10, behindV i k3, (hrd10 _).field hyv, behindV i k3, fun X => (behind_spec i k3 I15 X).mono fun e I' G _ ⟨h1, h2⟩ => ⟨h1, by rw [h2]⟩, fun h => by simp at h, fun _ => ?_⟩
          rw [w64 (by omega)]
          exact ⟨_, by omega, i0, by omega, by omega, by omega, rfl, ⟨r, hr, rfl, hrn⟩, ⟨A11, hp11⟩, xs3, hsl3, hxs3, hd3⟩
        · rw [w64 (by omega)]
          exact ⟨_, by omega, by omega, by omega, rfl, ⟨A11, hp11⟩, xs3, hsl3, hxs3, hd3⟩

theorem ownGuards_spec {rs : List Row} {ls : List (List (Ck 5))} {H F : Heap} {la : Option Addr} {ln lc : Nat} {I : Imm} (hS : Sl I 1 Row.enc la ln rs) (hH : RowsH 5 145 rs ls H) (hb : Bd ls) (hrs : rs.length ≤ 1000000000) :
    Tri P 41 #[.slice la ln lc] I (H ++ F) fun e I' G => e = .returned (.bool true) ∧ G = F := by
  refine OwnPost.keep ?_
  have hln := hS.1
  refine ref00_ownGuards.vc
    (fun i m I0 F0 I' F' => 0 ≤ i ∧ i ≤ ln ∧ m = (ln - i).toNat ∧ ∃ ls H, RowsH 5 145 rs ls H ∧ F'.Perm (H ++ F) ∧ Bd ls ∧ ∀ (j : Nat) l, (j : Int) < i → ls[j]? = some l → MkAll 0 mkV j l)
    (fun i k m I0 F0 I' F' => 0 ≤ i ∧ 0 ≤ k ∧ ∃ r, rs[i.toNat]? = some r ∧ k ≤ r.n ∧ m = (r.n - k).toNat ∧ ∃ ls H, RowsH 5 145 rs ls H ∧ F'.Perm (H ++ F) ∧ Bd ls ∧ (∀ (j : Nat) l, (j : Int) < i → ls[j]? = some l → MkAll 0 mkV j l) ∧
      ∀ l, ls[i.toNat]? = some l → MkTo 0 mkV i k l)
    (fun a n c i m I0 F0 I' F' => 0 ≤ i ∧ i ≤ ln ∧ m = (ln - i).toNat ∧ ∃ ls H xs Al, RowsH 5 145 (rs.drop i.toNat) (ls.drop i.toNat) H ∧ Acc 1 Row.enc 141 a n c xs Al ∧ F'.Perm (Al ++ (H ++ F)) ∧ (xs.length : Int) = i ∧ Bd ls ∧
      (∀ (j : Nat) l, ls[j]? = some l → MkAll 0 mkV j l) ∧ ∀ (j : Nat) r x, (j : Int) < i → rs[j]? = some r → xs[j]? = some x → Done (z := 5) 0 8 mkV bhV I' j r x)
    (fun a n c i xa xn xc k m I0 F0 I' F' => 0 ≤ i ∧ i < ln ∧ 0 ≤ k ∧ k ≤ 8 ∧ m = (8 - k).toNat ∧ ∃ (ls : List (List (Ck 5))) (H : Heap) (xs : List Row) (Al : Heap) (r : Row) (l t : List (Ck 5)) (A : Heap), rs[i.toNat]? = some r ∧ RowsH 5 145 (rs.drop (i.toNat + 1)) (ls.drop (i.toNat + 1)) H ∧ Acc 1 Row.enc 141 a n c xs Al ∧
      Acc 5 cv 145 xa xn xc (l ++ t) A ∧ F'.Perm (A ++ (Al ++ (H ++ F))) ∧ (xs.length : Int) = i ∧ Bd ls ∧ (∀ (j : Nat) l, ls[j]? = some l → MkAll 0 mkV j l) ∧ MkAll 0 mkV i l ∧ (t.length : Int) = k ∧ MkAll 0 bhV i t ∧ r.n = l.length ∧ l.length ≤ 1000000000 ∧
      (xa = r.a ∨ Sl I' 5 cv r.a r.n l) ∧ ∀ (j : Nat) r x, (j : Int) < i → rs[j]? = some r → xs[j]? = some x → Done (z := 5) 0 8 mkV bhV I' j r x)
    (fun a n c x i m I0 F0 I' F' => 0 ≤ i ∧ i ≤ ln ∧ m = (ln - i).toNat ∧ (∃ A, F'.Perm (A ++ F)) ∧ ∃ xs, SlG I' F' 1 Row.enc a n xs ∧ xs.length = ln ∧ ∀ (j : Nat) r x, rs[j]? = some r → xs[j]? = some x → Done (z := 5) 0 8 mkV bhV I' j r x)
    (fun a n c i nn x k m I0 F0 I' F' => 0 ≤ i ∧ i < ln ∧ 0 ≤ k ∧ (∃ r, rs[i.toNat]? = some r ∧ nn = r.n ∧ r.n ≤ 1000000000 ∧ k ≤ r.n ∧ m = (r.n - k).toNat) ∧ (∃ A, F'.Perm (A ++ F)) ∧ ∃ xs, SlG I' F' 1 Row.enc a n xs ∧ xs.length = ln ∧ ∀ (j : Nat) r x, rs[j]? = some r → xs[j]? = some x → Done (z := 5) 0 8 mkV bhV I' j r x)
    (fun a n c i nn x k m I0 F0 I' F' => 0 ≤ i ∧ i < ln ∧ 0 ≤ k ∧ k ≤ 8 ∧ m = (8 - k).toNat ∧ (∃ r, rs[i.toNat]? = some r ∧ nn = r.n ∧ r.n ≤ 1000000000) ∧ (∃ A, F'.Perm (A ++ F)) ∧ ∃ xs, SlG I' F' 1 Row.enc a n xs ∧ xs.length = ln ∧ ∀ (j : Nat) r x, rs[j]? = some r → xs[j]? = some x → Done (z := 5) 0 8 mkV bhV I' j r x) ?_
  unfold ref00_ownGuards.V
  refine ⟨⟨_, by omega, by omega, rfl, ls, H, hH, .refl _, hb, fun j l hj => by omega⟩, ?_⟩
  intro i m1 I1 F1 hI1 ⟨i0, i1, im, ls1, H1, hH1, hp1, hb1, hm1⟩
  have hS1 := hS.mono hI1
  refine ⟨fun hlt => ?_, fun hlt => ?_⟩
  · -- the marks of row i
    have hlt := of_decide_eq_true hlt
    obtain ⟨ad, r, had, hr, hrd⟩ := hS1.at (i := i) i0 (by omega)
    refine ⟨⟨_, i0, by omega, r, hr, by omega, rfl, ls1, H1, hH1, hp1, hb1, hm1, fun l _ q x _ hq => by omega⟩, ?_⟩
    intro k m3 I2 F2 hI2 ⟨_, k0, r', hr', k1, km, ls2, H2, hH2, hp2, hb2, hm2, hmk⟩
    obtain rfl : r = r' := by rw [hr] at hr'; exact Option.some.inj hr'
    have hrd2 := fun G => (hrd G).mono hI2
    refine ⟨⟨i0, by omega⟩, ad, had, _, _, _, hrd2 _, fun hk => ?_, fun hk => ?_⟩
    · have hk := of_decide_eq_true hk
      refine ⟨⟨i0, by omega⟩, ad, had, _, _, _, hrd2 _, spotV i k, fun X => (spot_spec i k I2 X).mono fun e I' G _ ⟨h1, h2⟩ => ⟨h1, by rw [h2]⟩, ⟨k0, by omega⟩, ?_⟩
      obtain ⟨l, A, R, hl, hA, hpA, hset⟩ := hH2.focus hr
      obtain ⟨b, cs, ha, hAe, hlen, hA'⟩ := hA.put (k := k.toNat) (o := 0) (by omega) (by decide) (mkV i k)
      obtain ⟨H3, hH3, hp3⟩ := hset _ _ hA'
      subst hAe
      refine ⟨⟨b, 0, none⟩, ha, cs, 145, R ++ F, ?_, ?_, ?_, m3 - 1, by omega, ?_⟩
      · rw [add_add2]; exact hp2.trans (List.Perm.append_right F hpA)
      · rw [add_add2]
      · rw [add_add2]; exact hlen
      · rw [add_add2, w64 (by have := hb2 _ _ hl; have := hA.1; omega)]
        refine ⟨i0, by omega, r, hr, by omega, by omega, _, H3, hH3, ?_, hb2.set hl _, marks_set hm2 _ i0, fun l' hl' => ?_⟩
        · exact (List.Perm.append_right F hp3).symm
        · have hlt2 : i.toNat < ls2.length := (List.getElem?_eq_some_iff.1 hl).1
          rw [List.getElem?_set_self hlt2] at hl'
          obtain rfl : l.modify k.toNat (setC 0 (mkV i k)) = l' := Option.some.inj hl'
          exact (hmk l hl).step (by decide) k0
    · have hk := of_decide_eq_false hk
      rw [w64 (by omega)]
      refine ⟨_, ?_, by omega, by omega, rfl, ls2, H2, hH2, hp2, hb2, fun j l hj hl => ?_⟩
      · omega
      · rcases Int.lt_or_eq_of_le (Int.lt_add_one_iff.1 hj) with h | h
        · exact hm2 j l h hl
        · have hji : j = i.toNat := by omega
          subst hji
          have hmk' := hmk l hl
          obtain ⟨l', A, R, hl', hA, _⟩ := hH2.focus hr
          obtain rfl : l' = l := by rw [hl'] at hl; exact Option.some.inj hl
          intro q x hx
          have hq := (List.getElem?_eq_some_iff.1 hx).1
          rw [h]
          exact hmk' q x hx (by have := hA.1; omega)
  · -- the rows grow
    have hlt := of_decide_eq_false hlt
    have hall : ∀ (j : Nat) l, ls1[j]? = some l → MkAll 0 mkV j l := fun j l hl => hm1 j l (by have := hH1.len; have := (List.getElem?_eq_some_iff.1 hl).1; omega) hl
    refine ⟨⟨_, by omega, by omega, rfl, ls1, H1, [], [], hH1, Acc.nil, hp1, rfl, hb1, hall, fun j r x hj => by omega⟩, ?_⟩
    intro a n c i m7 I4 F4 hI4 ⟨i0, i1, im, ls4, H4, xs, Al, hH4, hAl, hp4, hxl, hb4, hm4, hd4⟩
    have hS4 := hS1.mono hI4
    refine ⟨fun hlt => ?_, fun hlt => ?_⟩
    · have hlt := of_decide_eq_true hlt
      obtain ⟨ad, r, had, hr, hrd⟩ := hS4.at (i := i) i0 (by omega)
      obtain ⟨l, A, H5, hl, hHe, hA, hH5⟩ := hH4.drop hr
      subst hHe
      refine ⟨⟨i0, by omega⟩, ad, had, _, _, _, hrd _, ⟨_, i0, by omega, by omega, by omega, rfl, ls4, H5, xs, Al, r, l, [], A, hr, hH5, hAl, by rw [List.append_nil]; exact hA, ?_, hxl, hb4, hm4, by have := hm4 _ _ hl; rwa [Int.toNat_of_nonneg i0] at this, rfl, fun q x hx => by simp at hx, hA.1, hb4 _ _ hl, .inl rfl, hd4⟩, ?_⟩
      · refine hp4.trans ?_
        rw [List.append_assoc A H5 F, ← List.append_assoc Al A, ← List.append_assoc A Al]
        exact List.Perm.append_right _ List.perm_append_comm
      intro xa xn xc k m9 I5 F5 hI5 ⟨_, _, k0, k1, km, ls5, H5', xs5, Al5, r5, l5, t5, A5, hr5, hH5', hAl5, hA5, hp5, hxl5, hb5, hm5, hml5, ht5, hmt5, hrn5, hl5, hor5, hd5⟩
      obtain rfl : r = r5 := by rw [hr] at hr5; exact Option.some.inj hr5
      refine ⟨fun hk => ?_, fun hk => ?_⟩
      · have hk := of_decide_eq_true hk
        refine Tri.ret (behind_spec i k I5 _) fun I6 hI6 => ⟨_, rfl, F5, .refl _, ?_⟩
        intro b I7 hI7 hb7
        let y : Ck 5 := ⟨[bhV i k, .int .i64 0, .int .u16 0, .int .u16 0, .slice none 0 0], rfl⟩
        refine TriE.perm (TriE.mono (append_spec' (f := cv) (z := 5) (zv := .agg #[.int .i64 0, .int .i64 0, .int .u16 0, .int .u16 0, .slice none 0 0]) cv_len (by' := 48) (by kernel_rfl) (by kernel_rfl) rfl (by decide) hA5 (xs := [y]) ?_ (by simp) rfl ?_ ?_ (F := Al5 ++ (H5' ++ F)))
          fun v I8 G3 hI8 ⟨a', n', c', A', hv, hA', hG, hor⟩ => ?_) hp5
        · intro x hx u hu
          rw [List.mem_singleton] at hx; subst hx
          exact List.all_eq_true.1 (show (cv y).all (fun u => u.oneCell') = true from rfl) u hu
        · exact ⟨rfl, _, _, _, .inl hb7, fun j hj => by simp [y, cv, bhV]⟩
        · rw [List.length_append]; simp only [List.length_cons, List.length_nil]; omega
        subst hG
        have hle8 : Imm.le I5 I8 := Imm.le_trans hI6 (Imm.le_trans hI7 hI8)
        refine ⟨_, _, _, hv, _, .refl _, m9 - 1, by omega, i0, by omega, by rw [w64 (by omega)]; omega, by rw [w64 (by omega)]; omega, by rw [w64 (by omega)]; omega,
          ls5, H5', xs5, Al5, r, l5, t5 ++ [y], A', hr, hH5', hAl5, by rw [← List.append_assoc]; exact hA', .refl _, hxl5, hb5, hm5, hml5, ?_, ?_, hrn5, hl5, ?_, fun j r x hj hr hx => (hd5 j r x hj hr hx).mono hle8⟩
        · rw [w64 (by omega), List.length_append, List.length_singleton]; omega
        · refine hmt5.snoc ?_
          show some (bhV i k) = _
          rw [ht5]
        · rcases hor5 with h | h
          · rcases hor with h' | h'
            · exact .inl (h'.trans h)
            · right
              rw [← h, hrn5]
              exact Sl.prefix h'
          · exact .inr (h.mono hle8)
      · have hk := of_decide_eq_false hk
        intro b1 I9 hI9 hb9
        refine TriE.pre fun w hw => ?_
        obtain ⟨J, hJ, hsJ, hSx⟩ := hA5.keep cv_len (hw.perm hp5)
        have hle9 : Imm.le I5 J := Imm.le_trans hI9 hJ
        refine ⟨J, _, hJ, hsJ, ?_⟩
        refine TriE.mono (append_spec' (f := Row.enc) (z := 1) (zv := .slice none 0 0) (fun _ => rfl) (by' := 24) (by kernel_rfl) (by kernel_rfl) rfl (by decide) hAl5 (xs := [⟨xa, xn, xc⟩]) (fun x _ => rows_one x) (by simp) rfl ?_ ?_ (F := H5' ++ F))
          fun v I10 G4 hI10 ⟨a', n', c', A', hv, hA', hG, hor⟩ => ?_
        · exact ⟨rfl, _, _, _, .inl (hJ.at hb9), fun j hj => by simp [Row.enc]⟩
        · simp only [List.length_cons, List.length_nil]; omega
        subst hG
        have hle10 : Imm.le I5 I10 := Imm.le_trans hle9 hI10
        refine ⟨_, _, _, hv, _, .refl _, m7 - 1, by omega, by rw [w64 (by omega)]; omega, by rw [w64 (by omega)]; omega, by rw [w64 (by omega)]; omega, ls5, H5', xs5 ++ [⟨xa, xn, xc⟩], A', ?_, hA', .refl _, ?_, hb5, hm5, ?_⟩
        · rw [w64 (by omega), show (i + 1).toNat = i.toNat + 1 by omega]; exact hH5'
        · rw [w64 (by omega), List.length_append, List.length_singleton]; omega
        · intro j r' x' hj hr' hx'
          rw [w64 (by omega)] at hj
          rcases Int.lt_or_eq_of_le (Int.lt_add_one_iff.1 hj) with h | h
          · rw [List.getElem?_append_left (by omega)] at hx'
            exact (hd5 j r' x' h hr' hx').mono hle10
          · have hji : j = i.toNat := by omega
            subst hji
            obtain rfl : r = r' := by rw [hr] at hr'; exact Option.some.inj hr'
            have hx2 : x' = ⟨xa, xn, xc⟩ := by
              have : i.toNat = xs5.length := by omega
              rw [this, List.getElem?_append_right (Nat.le_refl _), Nat.sub_self] at hx'
              simpa using hx'.symm
            subst hx2
            rw [h]
            refine ⟨l5, t5, ?_, hml5, hSx.mono hI10, by omega, hmt5⟩
            rcases hor5 with h' | h'
            · rw [← h', hrn5]; exact (Sl.prefix hSx).mono hI10
            · exact h'.mono hle10
    · -- the look at all of them
      have hlt := of_decide_eq_false hlt
      have hxs : xs.length = ln := by omega
      refine ⟨⟨_, by omega, by omega, rfl, ⟨Al ++ H4, by rw [List.append_assoc]; exact hp4⟩, xs, (Acc.slg (z := 1) (f := Row.enc) (fun _ => rfl) hAl I4 (G := F4) fun x hx => hp4.mem_iff.2 (List.mem_append_left _ hx)), hxs,
        fun j r x hr hx => hd4 j r x (by have := (List.getElem?_eq_some_iff.1 hx).1; omega) hr hx⟩, ?_⟩
      intro x i m13 I11 F9 hI11 ⟨i0, i1, im, ⟨A9, hp9⟩, xs, hsl, hxs, hd⟩
      have hS11 := hS4.mono hI11
      refine ⟨fun hlt => ?_, fun hlt => ⟨rfl, A9, hp9⟩⟩
      have hlt := of_decide_eq_true hlt
      obtain ⟨ad, r, had, hr, hrd⟩ := hS11.at (i := i) i0 (by omega)
      obtain ⟨adx, xr, hadx, hxr, hrdx⟩ := hsl.at (i := i) i0 (by have := hsl.1; omega)
      have hrn : r.n ≤ 1000000000 := by
        obtain ⟨l, A, R, hl, hA, _⟩ := hH.focus hr
        have := hb _ _ hl
        have := hA.1
        omega
      refine ⟨⟨i0, by omega⟩, ad, had, _, _, _, hrd _, ⟨_, i0, by omega, by omega, ⟨r, hr, rfl, hrn, by omega, rfl⟩, ⟨A9, hp9⟩, xs, hsl, hxs, hd⟩, ?_⟩
      intro x1 k m15 I12 F10 hI12 ⟨_, _, k0, ⟨r', hr', hnn, _, k1, km⟩, ⟨A10, hp10⟩, xs2, hsl2, hxs2, hd2⟩
      obtain rfl : r = r' := by rw [hr] at hr'; exact Option.some.inj hr'
      obtain ⟨adx2, xr2, hadx2, hxr2, hrdx2⟩ := hsl2.at (i := i) i0 (by have := hsl2.1; omega)
      obtain ⟨l, t, hSl, hml, hSx, htl, hmt⟩ := hd2 _ _ _ hr hxr2
      have hrl := hSl.1
      have hxl := hSx.1
      rw [List.length_append] at hxl
      have hrd2 := fun G => (hrd G).mono hI12
      have hii : ((i.toNat : Nat) : Int) = i := Int.toNat_of_nonneg i0
      rw [hii] at hml hmt
      refine ⟨fun hk => ?_, fun hk => ?_⟩
      · have hk := of_decide_eq_true hk
        obtain ⟨ad6, y, ha6, hy, hrd6⟩ := hSl.at (i := k) k0 (by omega)
        have hyv := hml _ _ hy
        have hkk : ((k.toNat : Nat) : Int) = k := Int.toNat_of_nonneg k0
        rw [hkk] at hyv
        obtain ⟨ad8, y', ha8, hy', hrd8⟩ := hSx.at (i := k) k0 (by omega)
        obtain rfl : y = y' := by
          rw [List.getElem?_append_left (by omega), hy] at hy'; exact Option.some.inj hy'
        have hsp : ∀ X : Heap, Tri P 66 #[.int .i64 i, .int .i64 k] I12 X fun e I' G => e = .returned (.int .i64 (spotV i k)) ∧ G.Perm X := fun X => (spot_spec i k I12 X).mono fun e I' G _ ⟨h1, h2⟩ => ⟨h1, by rw [h2]⟩
        refine ⟨⟨i0, by omega⟩, ad, had, _, _, _, hrd2 _, ⟨k0, by omega⟩, ad6, ha6, spotV i k, (hrd6 _).field2 (p := 0) (q := 0) hyv, spotV i k, hsp, fun h => by simp at h, fun _ => ⟨⟨i0, by have := hsl2.1; omega⟩, adx2, hadx2, _, _, _, hrdx2, ⟨k0, by omega⟩, ad8, ha8, spotV i k, (hrd8 _).field2 (p := 0) (q := 0) hyv, spotV i k, hsp, fun h => by simp at h, fun _ => ?_⟩⟩
        rw [w64 (by omega)]
        exact ⟨_, by omega, i0, by omega, by omega, ⟨r, hr, hnn, hrn, by omega, rfl⟩, ⟨A10, hp10⟩, xs2, hsl2, hxs2, hd2⟩
      · have hk := of_decide_eq_false hk
        refine ⟨⟨_, i0, by omega, by omega, by omega, rfl, ⟨r, hr, rfl, hrn⟩, ⟨A10, hp10⟩, xs2, hsl2, hxs2, hd2⟩, ?_⟩
        intro x2 k3 m20 I15 F11 hI15 ⟨_, _, k0', k1', km', ⟨r', hr', hnn', _⟩, ⟨A11, hp11⟩, xs3, hsl3, hxs3, hd3⟩
        refine ⟨fun hk => ?_, fun hk => ?_⟩
        · have hk := of_decide_eq_true hk
          obtain ⟨adx3, xr3, hadx3, hxr3, hrdx3⟩ := hsl3.at (i := i) i0 (by have := hsl3.1; omega)
          obtain ⟨l3, t3, hSl3, hml3, hSx3, htl3, hmt3⟩ := hd3 _ _ _ hr hxr3
          have hrl3 := hSl3.1
          have hxl3 := hSx3.1
          rw [List.length_append] at hxl3
          rw [hii] at hmt3
          rw [w64 (by omega)]
          obtain ⟨ad10, y, ha10, hy, hrd10⟩ := hSx3.at (i := ((r.n : Nat) : Int) + k3) (by omega) (by omega)
          rw [List.getElem?_append_right (by omega), show (((r.n : Nat) : Int) + k3).toNat - l3.length = k3.toNat by omega] at hy
          have hyv := hmt3 _ _ hy
          have hkk : ((k3.toNat : Nat) : Int) = k3 := Int.toNat_of_nonneg k0'
          rw [hkk] at hyv
          refine ⟨⟨i0, by have := hsl3.1; omega⟩, adx3, hadx3, _, _, _, hrdx3, ⟨by omega, by omega⟩, ad10, ha10, behindV i k3, (hrd10 _).field2 (p := 0) (q := 0) hyv, behindV i k3, fun X => (behind_spec i k3 I15 X).mono fun e I' G _ ⟨h1, h2⟩ => ⟨h1, by rw [h2]⟩, fun h => by simp at h, fun _ => ?_⟩
          rw [w64 (by omega)]
          exact ⟨_, by omega, i0, by omega, by omega, by omega, rfl, ⟨r, hr, rfl, hrn⟩, ⟨A11, hp11⟩, xs3, hsl3, hxs3, hd3⟩
        · rw [w64 (by omega)]
          exact ⟨_, by omega, by omega, by omega, rfl, ⟨A11, hp11⟩, xs3, hsl3, hxs3, hd3⟩
end Go.Lx
