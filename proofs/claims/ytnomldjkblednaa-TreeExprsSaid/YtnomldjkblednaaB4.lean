import Derived.Test.YtnomldjkblednaaB3
set_option linter.unusedVariables false
set_option linter.unusedSimpArgs false
namespace Go.Lx
open Go.Vc
theorem ownTokens_spec {rs : List Row} {ls : List (List (Ck 5))} {H F : Heap} {la : Option Addr} {ln lc : Nat} {I : Imm} (hS : Sl I 1 Row.enc la ln rs) (hH : RowsH 5 145 rs ls H) (hb : Bd ls) (hrs : rs.length ≤ 1000000000) : Tri P 51 #[.slice la ln lc] I (H ++ F) fun e I' G => e = .returned (.bool true) ∧ G = F :=
  ownG_spec (zv := .agg #[.int .u8 0, .string (⟨#[]⟩ : ByteArray), .int .u8 0, .int .i64 0, .int .i64 0]) (B := 48) ref00_ownTokens.vc (by decide) (fun _ => rfl) (fun _ => rfl) (fun v u hu => List.all_eq_true.1 (rfl : List.all [Value.int .u8 0, Value.string (⟨#[]⟩ : ByteArray), Value.int .u8 0, Value.int .i64 0, Value.int .i64 v] (fun u => u.oneCell') = true) u hu) (by kernel_rfl) (by kernel_rfl) rfl (by decide) (by decide) (by kernel_rfl) (by kernel_rfl) hS hH hb hrs
theorem ownNodes_spec {rs : List Row} {ls : List (List (Ck 8))} {H F : Heap} {la : Option Addr} {ln lc : Nat} {I : Imm} (hS : Sl I 1 Row.enc la ln rs) (hH : RowsH 8 28 rs ls H) (hb : Bd ls) (hrs : rs.length ≤ 1000000000) : Tri P 52 #[.slice la ln lc] I (H ++ F) fun e I' G => e = .returned (.bool true) ∧ G = F :=
  ownG_spec (zv := .agg #[.int .u8 0, .int .u8 0, .int .u8 0, .int .i64 0, .int .u8 0, .string (⟨#[]⟩ : ByteArray), .slice none 0 0, .int .i64 0]) (B := 72) ref00_ownNodes.vc (by decide) (fun _ => rfl) (fun _ => rfl) (fun v u hu => List.all_eq_true.1 (rfl : List.all [Value.int .u8 0, Value.int .u8 0, Value.int .u8 0, Value.int .i64 0, Value.int .u8 0, Value.string (⟨#[]⟩ : ByteArray), Value.slice none 0 0, Value.int .i64 v] (fun u => u.oneCell') = true) u hu) (by kernel_rfl) (by kernel_rfl) rfl (by decide) (by decide) (by kernel_rfl) (by kernel_rfl) hS hH hb hrs
theorem ownRegs_spec {rs : List Row} {ls : List (List (Ck 11))} {H F : Heap} {la : Option Addr} {ln lc : Nat} {I : Imm} (hS : Sl I 1 Row.enc la ln rs) (hH : RowsH 11 128 rs ls H) (hb : Bd ls) (hrs : rs.length ≤ 1000000000) : Tri P 53 #[.slice la ln lc] I (H ++ F) fun e I' G => e = .returned (.bool true) ∧ G = F :=
  ownG_spec (zv := .agg #[.string (⟨#[]⟩ : ByteArray), .int .u8 0, .int .u8 0, .int .u8 0, .int .u8 0, .int .i64 0, .int .u8 0, .string (⟨#[]⟩ : ByteArray), .slice none 0 0, .int .i64 0, .int .i64 0]) (B := 104) ref00_ownRegs.vc (by decide) (fun _ => rfl) (fun _ => rfl) (fun v u hu => List.all_eq_true.1 (rfl : List.all [Value.string (⟨#[]⟩ : ByteArray), Value.int .u8 0, Value.int .u8 0, Value.int .u8 0, Value.int .u8 0, Value.int .i64 0, Value.int .u8 0, Value.string (⟨#[]⟩ : ByteArray), Value.slice none 0 0, Value.int .i64 0, Value.int .i64 v] (fun u => u.oneCell') = true) u hu) (by kernel_rfl) (by kernel_rfl) rfl (by decide) (by decide) (by kernel_rfl) (by kernel_rfl) hS hH hb hrs
theorem ownSlots_spec {rs : List Row} {ls : List (List (Ck 2))} {H F : Heap} {la : Option Addr} {ln lc : Nat} {I : Imm} (hS : Sl I 1 Row.enc la ln rs) (hH : RowsH 2 130 rs ls H) (hb : Bd ls) (hrs : rs.length ≤ 1000000000) : Tri P 54 #[.slice la ln lc] I (H ++ F) fun e I' G => e = .returned (.bool true) ∧ G = F :=
  ownG_spec (zv := .agg #[.string (⟨#[]⟩ : ByteArray), .int .i64 0]) (B := 24) ref00_ownSlots.vc (by decide) (fun _ => rfl) (fun _ => rfl) (fun v u hu => List.all_eq_true.1 (rfl : List.all [Value.string (⟨#[]⟩ : ByteArray), Value.int .i64 v] (fun u => u.oneCell') = true) u hu) (by kernel_rfl) (by kernel_rfl) rfl (by decide) (by decide) (by kernel_rfl) (by kernel_rfl) hS hH hb hrs
theorem ownDos_spec {rs : List Row} {ls : List (List (Ck 36))} {H F : Heap} {la : Option Addr} {ln lc : Nat} {I : Imm} (hS : Sl I 1 Row.enc la ln rs) (hH : RowsH 36 135 rs ls H) (hb : Bd ls) (hrs : rs.length ≤ 1000000000) : Tri P 55 #[.slice la ln lc] I (H ++ F) fun e I' G => e = .returned (.bool true) ∧ G = F :=
  ownG_spec (zv := .agg #[.int .u8 0, .int .u8 0, .string (⟨#[]⟩ : ByteArray), .int .u8 0, .int .u8 0, .int .u8 0, .int .i64 0, .int .u8 0, .string (⟨#[]⟩ : ByteArray), .slice none 0 0, .int .i64 0, .int .u8 0, .int .u8 0, .int .u8 0, .int .i64 0, .int .u8 0, .string (⟨#[]⟩ : ByteArray), .slice none 0 0, .int .i64 0, .int .u8 0, .int .u8 0, .int .u8 0, .int .i64 0, .int .u8 0, .string (⟨#[]⟩ : ByteArray), .slice none 0 0, .int .i64 0, .int .u8 0, .int .u8 0, .int .u8 0, .int .i64 0, .int .u8 0, .string (⟨#[]⟩ : ByteArray), .slice none 0 0, .int .i64 0, .int .i64 0]) (B := 320) ref00_ownDos.vc (by decide) (fun _ => rfl) (fun _ => rfl) (fun v u hu => List.all_eq_true.1 (rfl : List.all [Value.int .u8 0, Value.int .u8 0, Value.string (⟨#[]⟩ : ByteArray), Value.int .u8 0, Value.int .u8 0, Value.int .u8 0, Value.int .i64 0, Value.int .u8 0, Value.string (⟨#[]⟩ : ByteArray), Value.slice none 0 0, Value.int .i64 0, Value.int .u8 0, Value.int .u8 0, Value.int .u8 0, Value.int .i64 0, Value.int .u8 0, Value.string (⟨#[]⟩ : ByteArray), Value.slice none 0 0, Value.int .i64 0, Value.int .u8 0, Value.int .u8 0, Value.int .u8 0, Value.int .i64 0, Value.int .u8 0, Value.string (⟨#[]⟩ : ByteArray), Value.slice none 0 0, Value.int .i64 0, Value.int .u8 0, Value.int .u8 0, Value.int .u8 0, Value.int .i64 0, Value.int .u8 0, Value.string (⟨#[]⟩ : ByteArray), Value.slice none 0 0, Value.int .i64 0, Value.int .i64 v] (fun u => u.oneCell') = true) u hu) (by kernel_rfl) (by kernel_rfl) rfl (by decide) (by decide) (by kernel_rfl) (by kernel_rfl) hS hH hb hrs
theorem ownRules_spec {rs : List Row} {ls : List (List (Ck 10))} {H F : Heap} {la : Option Addr} {ln lc : Nat} {I : Imm} (hS : Sl I 1 Row.enc la ln rs) (hH : RowsH 10 90 rs ls H) (hb : Bd ls) (hrs : rs.length ≤ 1000000000) : Tri P 56 #[.slice la ln lc] I (H ++ F) fun e I' G => e = .returned (.bool true) ∧ G = F :=
  ownG_spec (zv := .agg #[.int .u8 0, .int .u8 0, .int .u8 0, .int .i64 0, .int .u8 0, .string (⟨#[]⟩ : ByteArray), .slice none 0 0, .int .i64 0, .slice none 0 0, .int .i64 0]) (B := 104) ref00_ownRules.vc (by decide) (fun _ => rfl) (fun _ => rfl) (fun v u hu => List.all_eq_true.1 (rfl : List.all [Value.int .u8 0, Value.int .u8 0, Value.int .u8 0, Value.int .i64 0, Value.int .u8 0, Value.string (⟨#[]⟩ : ByteArray), Value.slice none 0 0, Value.int .i64 0, Value.slice none 0 0, Value.int .i64 v] (fun u => u.oneCell') = true) u hu) (by kernel_rfl) (by kernel_rfl) rfl (by decide) (by decide) (by kernel_rfl) (by kernel_rfl) hS hH hb hrs
theorem ownStates_spec {rs : List Row} {ls : List (List (Ck 3))} {H F : Heap} {la : Option Addr} {ln lc : Nat} {I : Imm} (hS : Sl I 1 Row.enc la ln rs) (hH : RowsH 3 93 rs ls H) (hb : Bd ls) (hrs : rs.length ≤ 1000000000) : Tri P 57 #[.slice la ln lc] I (H ++ F) fun e I' G => e = .returned (.bool true) ∧ G = F :=
  ownG_spec (zv := .agg #[.string (⟨#[]⟩ : ByteArray), .slice none 0 0, .int .i64 0]) (B := 48) ref00_ownStates.vc (by decide) (fun _ => rfl) (fun _ => rfl) (fun v u hu => List.all_eq_true.1 (rfl : List.all [Value.string (⟨#[]⟩ : ByteArray), Value.slice none 0 0, Value.int .i64 v] (fun u => u.oneCell') = true) u hu) (by kernel_rfl) (by kernel_rfl) rfl (by decide) (by decide) (by kernel_rfl) (by kernel_rfl) hS hH hb hrs
theorem ownInstrs_spec {rs : List Row} {ls : List (List (Ck 2))} {H F : Heap} {la : Option Addr} {ln lc : Nat} {I : Imm} (hS : Sl I 1 Row.enc la ln rs) (hH : RowsH 2 149 rs ls H) (hb : Bd ls) (hrs : rs.length ≤ 1000000000) : Tri P 58 #[.slice la ln lc] I (H ++ F) fun e I' G => e = .returned (.bool true) ∧ G = F :=
  ownG_spec (zv := .agg #[.int .u8 0, .int .i64 0]) (B := 16) ref00_ownInstrs.vc (by decide) (fun _ => rfl) (fun _ => rfl) (fun v u hu => List.all_eq_true.1 (rfl : List.all [Value.int .u8 0, Value.int .i64 v] (fun u => u.oneCell') = true) u hu) (by kernel_rfl) (by kernel_rfl) rfl (by decide) (by decide) (by kernel_rfl) (by kernel_rfl) hS hH hb hrs
theorem ownRows_spec {rs : List Row} {ls : List (List (Ck 11))} {H F : Heap} {la : Option Addr} {ln lc : Nat} {I : Imm} (hS : Sl I 1 Row.enc la ln rs) (hH : RowsH 11 154 rs ls H) (hb : Bd ls) (hrs : rs.length ≤ 1000000000) : Tri P 59 #[.slice la ln lc] I (H ++ F) fun e I' G => e = .returned (.bool true) ∧ G = F :=
  ownG_spec (zv := .agg #[.int .u8 0, .int .u8 0, .int .i64 0, .int .i64 0, .int .i64 0, .int .i64 0, .int .i64 0, .int .i64 0, .int .i64 0, .int .i64 0, .int .i64 0]) (B := 80) ref00_ownRows.vc (by decide) (fun _ => rfl) (fun _ => rfl) (fun v u hu => List.all_eq_true.1 (rfl : List.all [Value.int .u8 0, Value.int .u8 0, Value.int .i64 v, Value.int .i64 0, Value.int .i64 0, Value.int .i64 0, Value.int .i64 0, Value.int .i64 0, Value.int .i64 0, Value.int .i64 0, Value.int .i64 0] (fun u => u.oneCell') = true) u hu) (by kernel_rfl) (by kernel_rfl) rfl (by decide) (by decide) (by kernel_rfl) (by kernel_rfl) hS hH hb hrs
theorem ownGuards_spec {rs : List Row} {ls : List (List (Ck 5))} {H F : Heap} {la : Option Addr} {ln lc : Nat} {I : Imm} (hS : Sl I 1 Row.enc la ln rs) (hH : RowsH 5 157 rs ls H) (hb : Bd ls) (hrs : rs.length ≤ 1000000000) :
    Tri P 60 #[.slice la ln lc] I (H ++ F) fun e I' G => e = .returned (.bool true) ∧ G = F := by
  refine OwnPost.keep ?_
  have hln := hS.1
  refine ref00_ownGuards.vc
    (fun i m I0 F0 I' F' => 0 ≤ i ∧ i ≤ ln ∧ m = (ln - i).toNat ∧ ∃ ls H, RowsH 5 157 rs ls H ∧ F'.Perm (H ++ F) ∧ Bd ls ∧ ∀ (j : Nat) l, (j : Int) < i → ls[j]? = some l → MkAll 0 mkV j l)
    (fun i k m I0 F0 I' F' => 0 ≤ i ∧ 0 ≤ k ∧ ∃ r, rs[i.toNat]? = some r ∧ k ≤ r.n ∧ m = (r.n - k).toNat ∧ ∃ ls H, RowsH 5 157 rs ls H ∧ F'.Perm (H ++ F) ∧ Bd ls ∧ (∀ (j : Nat) l, (j : Int) < i → ls[j]? = some l → MkAll 0 mkV j l) ∧
      ∀ l, ls[i.toNat]? = some l → MkTo 0 mkV i k l)
    (fun a n c i m I0 F0 I' F' => 0 ≤ i ∧ i ≤ ln ∧ m = (ln - i).toNat ∧ ∃ ls H xs Al, RowsH 5 157 (rs.drop i.toNat) (ls.drop i.toNat) H ∧ Acc 1 Row.enc 155 a n c xs Al ∧ F'.Perm (Al ++ (H ++ F)) ∧ (xs.length : Int) = i ∧ Bd ls ∧
      (∀ (j : Nat) l, ls[j]? = some l → MkAll 0 mkV j l) ∧ ∀ (j : Nat) r x, (j : Int) < i → rs[j]? = some r → xs[j]? = some x → Done (z := 5) 0 8 mkV bhV I' j r x)
    (fun a n c i xa xn xc k m I0 F0 I' F' => 0 ≤ i ∧ i < ln ∧ 0 ≤ k ∧ k ≤ 8 ∧ m = (8 - k).toNat ∧ ∃ (ls : List (List (Ck 5))) (H : Heap) (xs : List Row) (Al : Heap) (r : Row) (l t : List (Ck 5)) (A : Heap), rs[i.toNat]? = some r ∧ RowsH 5 157 (rs.drop (i.toNat + 1)) (ls.drop (i.toNat + 1)) H ∧ Acc 1 Row.enc 155 a n c xs Al ∧
      Acc 5 cv 157 xa xn xc (l ++ t) A ∧ F'.Perm (A ++ (Al ++ (H ++ F))) ∧ (xs.length : Int) = i ∧ Bd ls ∧ (∀ (j : Nat) l, ls[j]? = some l → MkAll 0 mkV j l) ∧ MkAll 0 mkV i l ∧ (t.length : Int) = k ∧ MkAll 0 bhV i t ∧ r.n = l.length ∧ l.length ≤ 1000000000 ∧
      (xa = r.a ∨ Sl I' 5 cv r.a r.n l) ∧ ∀ (j : Nat) r x, (j : Int) < i → rs[j]? = some r → xs[j]? = some x → Done (z := 5) 0 8 mkV bhV I' j r x)
    (fun a n c x i m I0 F0 I' F' => 0 ≤ i ∧ i ≤ ln ∧ m = (ln - i).toNat ∧ (∃ A, F'.Perm (A ++ F)) ∧ ∃ xs, SlG I' F' 1 Row.enc a n xs ∧ xs.length = ln ∧ ∀ (j : Nat) r x, rs[j]? = some r → xs[j]? = some x → Done (z := 5) 0 8 mkV bhV I' j r x)
    (fun a n c i nn x k m I0 F0 I' F' => 0 ≤ i ∧ i < ln ∧ 0 ≤ k ∧ (∃ r, rs[i.toNat]? = some r ∧ nn = r.n ∧ r.n ≤ 1000000000 ∧ k ≤ r.n ∧ m = (r.n - k).toNat) ∧ (∃ A, F'.Perm (A ++ F)) ∧ ∃ xs, SlG I' F' 1 Row.enc a n xs ∧ xs.length = ln ∧ ∀ (j : Nat) r x, rs[j]? = some r → xs[j]? = some x → Done (z := 5) 0 8 mkV bhV I' j r x)
    (fun a n c i nn x k m I0 F0 I' F' => 0 ≤ i ∧ i < ln ∧ 0 ≤ k ∧ k ≤ 8 ∧ m = (8 - k).toNat ∧ (∃ r, rs[i.toNat]? = some r ∧ nn = r.n ∧ r.n ≤ 1000000000) ∧ (∃ A, F'.Perm (A ++ F)) ∧ ∃ xs, SlG I' F' 1 Row.enc a n xs ∧ xs.length = ln ∧ ∀ (j : Nat) r x, rs[j]? = some r → xs[j]? = some x → Done (z := 5) 0 8 mkV bhV I' j r x) ?_
  unfold ref00_ownGuards.V
  refine ⟨⟨_, by omega, by omega, rfl, ls, H, hH, .refl _, hb, fun j l hj => by omega⟩, ?_⟩
  intro i m1 I1 F1 hI1 ⟨i0, i1, im, ls1, H1, hH1, hp1, hb1, hm1⟩
  have hS1 := hS.mono hI1
  refine ⟨fun hlt => ?_, fun hlt => ?_⟩
  · -- the marks of row i
    have hlt := of_decide_eq_true hlt
    obtain ⟨ad, r, had, hr, hrd⟩ := hS1.at (i := i) i0 (by omega)
    refine ⟨⟨_, i0, by omega, r, hr, by omega, rfl, ls1, H1, hH1, hp1, hb1, hm1, fun l _ q x _ hq => by omega⟩, ?_⟩
    intro k m3 I2 F2 hI2 ⟨_, k0, r', hr', k1, km, ls2, H2, hH2, hp2, hb2, hm2, hmk⟩
    obtain rfl : r = r' := by rw [hr] at hr'; exact Option.some.inj hr'
    have hrd2 := fun G => (hrd G).mono hI2
    refine ⟨⟨i0, by omega⟩, ad, had, _, _, _, hrd2 _, fun hk => ?_, fun hk => ?_⟩
    · have hk := of_decide_eq_true hk
      refine ⟨⟨i0, by omega⟩, ad, had, _, _, _, hrd2 _, spotV i k, (spot_spec i k I2 _).mono fun e I' G _ ⟨h1, h2⟩ => ⟨h1, by rw [h2]⟩, ⟨k0, by omega⟩, ?_⟩
      obtain ⟨l, A, R, hl, hA, hpA, hset⟩ := hH2.focus hr
      obtain ⟨b, cs, ha, hAe, hlen, hA'⟩ := hA.put (k := k.toNat) (o := 0) (by omega) (by decide) (mkV i k)
      obtain ⟨H3, hH3, hp3⟩ := hset _ _ hA'
      subst hAe
      refine ⟨⟨b, 0, none⟩, ha, cs, 157, R ++ F, ?_, ?_, ?_, m3 - 1, by omega, ?_⟩
      · rw [add_add2]; exact hp2.trans (List.Perm.append_right F hpA)
      · rw [add_add2]
      · rw [add_add2]; exact hlen
      · rw [add_add2, w64 (by have := hb2 _ _ hl; have := hA.1; omega)]
        refine ⟨i0, by omega, r, hr, by omega, by omega, _, H3, hH3, ?_, hb2.set hl _, marks_set hm2 _ i0, fun l' hl' => ?_⟩
        · exact (List.Perm.append_right F hp3).symm
        · have hlt2 : i.toNat < ls2.length := (List.getElem?_eq_some_iff.1 hl).1
          rw [List.getElem?_set_self hlt2] at hl'
          obtain rfl : l.modify k.toNat (setC 0 (mkV i k)) = l' := Option.some.inj hl'
          exact (hmk l hl).step (by decide) k0
    · have hk := of_decide_eq_false hk
      rw [w64 (by omega)]
      refine ⟨_, ?_, by omega, by omega, rfl, ls2, H2, hH2, hp2, hb2, fun j l hj hl => ?_⟩
      · omega
      · rcases Int.lt_or_eq_of_le (Int.lt_add_one_iff.1 hj) with h | h
        · exact hm2 j l h hl
        · have hji : j = i.toNat := by omega
          subst hji
          have hmk' := hmk l hl
          obtain ⟨l', A, R, hl', hA, _⟩ := hH2.focus hr
          obtain rfl : l' = l := by rw [hl'] at hl; exact Option.some.inj hl
          intro q x hx
          have hq := (List.getElem?_eq_some_iff.1 hx).1
          rw [h]
          exact hmk' q x hx (by have := hA.1; omega)
  · -- the rows grow
    have hlt := of_decide_eq_false hlt
    have hall : ∀ (j : Nat) l, ls1[j]? = some l → MkAll 0 mkV j l := fun j l hl => hm1 j l (by have := hH1.len; have := (List.getElem?_eq_some_iff.1 hl).1; omega) hl
    refine ⟨⟨_, by omega, by omega, rfl, ls1, H1, [], [], hH1, Acc.nil, hp1, rfl, hb1, hall, fun j r x hj => by omega⟩, ?_⟩
    intro a n c i m7 I4 F4 hI4 ⟨i0, i1, im, ls4, H4, xs, Al, hH4, hAl, hp4, hxl, hb4, hm4, hd4⟩
    have hS4 := hS1.mono hI4
    refine ⟨fun hlt => ?_, fun hlt => ?_⟩
    · have hlt := of_decide_eq_true hlt
      obtain ⟨ad, r, had, hr, hrd⟩ := hS4.at (i := i) i0 (by omega)
      obtain ⟨l, A, H5, hl, hHe, hA, hH5⟩ := hH4.drop hr
      subst hHe
      refine ⟨⟨i0, by omega⟩, ad, had, _, _, _, hrd _, ⟨_, i0, by omega, by omega, by omega, rfl, ls4, H5, xs, Al, r, l, [], A, hr, hH5, hAl, by rw [List.append_nil]; exact hA, ?_, hxl, hb4, hm4, by have := hm4 _ _ hl; rwa [Int.toNat_of_nonneg i0] at this, rfl, fun q x hx => by simp at hx, hA.1, hb4 _ _ hl, .inl rfl, hd4⟩, ?_⟩
      · refine hp4.trans ?_
        rw [List.append_assoc A H5 F, ← List.append_assoc Al A, ← List.append_assoc A Al]
        exact List.Perm.append_right _ List.perm_append_comm
      intro xa xn xc k m9 I5 F5 hI5 ⟨_, _, k0, k1, km, ls5, H5', xs5, Al5, r5, l5, t5, A5, hr5, hH5', hAl5, hA5, hp5, hxl5, hb5, hm5, hml5, ht5, hmt5, hrn5, hl5, hor5, hd5⟩
      obtain rfl : r = r5 := by rw [hr] at hr5; exact Option.some.inj hr5
      refine ⟨fun hk => ?_, fun hk => ?_⟩
      · have hk := of_decide_eq_true hk
        refine Tri.ret (behind_spec i k I5 _) fun I6 hI6 => ⟨_, rfl, F5, .refl _, ?_⟩
        intro b I7 hI7 hb7
        let y : Ck 5 := ⟨[bhV i k, .int .i64 0, .int .u16 0, .int .u16 0, .slice none 0 0], rfl⟩
        refine TriE.perm (TriE.mono (append_spec' (f := cv) (z := 5) (zv := .agg #[.int .i64 0, .int .i64 0, .int .u16 0, .int .u16 0, .slice none 0 0]) cv_len (by' := 48) (by kernel_rfl) (by kernel_rfl) rfl (by decide) hA5 (xs := [y]) ?_ (by simp) rfl ?_ ?_ (F := Al5 ++ (H5' ++ F)))
          fun v I8 G3 hI8 ⟨a', n', c', A', hv, hA', hG, hor⟩ => ?_) hp5
        · intro x hx u hu
          rw [List.mem_singleton] at hx; subst hx
          exact List.all_eq_true.1 (show (cv y).all (fun u => u.oneCell') = true from rfl) u hu
        · exact ⟨rfl, _, _, _, .inl hb7, fun j hj => by simp [y, cv, bhV]⟩
        · rw [List.length_append]; simp only [List.length_cons, List.length_nil]; omega
        subst hG
        have hle8 : Imm.le I5 I8 := Imm.le_trans hI6 (Imm.le_trans hI7 hI8)
        refine ⟨_, _, _, hv, _, .refl _, m9 - 1, by omega, i0, by omega, by rw [w64 (by omega)]; omega, by rw [w64 (by omega)]; omega, by rw [w64 (by omega)]; omega,
          ls5, H5', xs5, Al5, r, l5, t5 ++ [y], A', hr, hH5', hAl5, by rw [← List.append_assoc]; exact hA', .refl _, hxl5, hb5, hm5, hml5, ?_, ?_, hrn5, hl5, ?_, fun j r x hj hr hx => (hd5 j r x hj hr hx).mono hle8⟩
        · rw [w64 (by omega), List.length_append, List.length_singleton]; omega
        · refine hmt5.snoc ?_
          show some (bhV i k) = _
          rw [ht5]
        · rcases hor5 with h | h
          · rcases hor with h' | h'
            · exact .inl (h'.trans h)
            · right
              rw [← h, hrn5]
              exact Sl.prefix h'
          · exact .inr (h.mono hle8)
      · have hk := of_decide_eq_false hk
        intro b1 I9 hI9 hb9
        refine TriE.pre fun w hw => ?_
        obtain ⟨J, hJ, hsJ, hSx⟩ := hA5.keep cv_len (hw.perm hp5)
        have hle9 : Imm.le I5 J := Imm.le_trans hI9 hJ
        refine ⟨J, _, hJ, hsJ, ?_⟩
        refine TriE.mono (append_spec' (f := Row.enc) (z := 1) (zv := .slice none 0 0) (fun _ => rfl) (by' := 24) (by kernel_rfl) (by kernel_rfl) rfl (by decide) hAl5 (xs := [⟨xa, xn, xc⟩]) (fun x _ => rows_one x) (by simp) rfl ?_ ?_ (F := H5' ++ F))
          fun v I10 G4 hI10 ⟨a', n', c', A', hv, hA', hG, hor⟩ => ?_
        · exact ⟨rfl, _, _, _, .inl (hJ.at hb9), fun j hj => by simp [Row.enc]⟩
        · simp only [List.length_cons, List.length_nil]; omega
        subst hG
        have hle10 : Imm.le I5 I10 := Imm.le_trans hle9 hI10
        refine ⟨_, _, _, hv, _, .refl _, m7 - 1, by omega, by rw [w64 (by omega)]; omega, by rw [w64 (by omega)]; omega, by rw [w64 (by omega)]; omega, ls5, H5', xs5 ++ [⟨xa, xn, xc⟩], A', ?_, hA', .refl _, ?_, hb5, hm5, ?_⟩
        · rw [w64 (by omega), show (i + 1).toNat = i.toNat + 1 by omega]; exact hH5'
        · rw [w64 (by omega), List.length_append, List.length_singleton]; omega
        · intro j r' x' hj hr' hx'
          rw [w64 (by omega)] at hj
          rcases Int.lt_or_eq_of_le (Int.lt_add_one_iff.1 hj) with h | h
          · rw [List.getElem?_append_left (by omega)] at hx'
            exact (hd5 j r' x' h hr' hx').mono hle10
          · have hji : j = i.toNat := by omega
            subst hji
            obtain rfl : r = r' := by rw [hr] at hr'; exact Option.some.inj hr'
            have hx2 : x' = ⟨xa, xn, xc⟩ := by
              have : i.toNat = xs5.length := by omega
              rw [this, List.getElem?_append_right (Nat.le_refl _), Nat.sub_self] at hx'
              simpa using hx'.symm
            subst hx2
            rw [h]
            refine ⟨l5, t5, ?_, hml5, hSx.mono hI10, by omega, hmt5⟩
            rcases hor5 with h' | h'
            · rw [← h', hrn5]; exact (Sl.prefix hSx).mono hI10
            · exact h'.mono hle10
    · -- the look at all of them
      have hlt := of_decide_eq_false hlt
      have hxs : xs.length = ln := by omega
      refine ⟨⟨_, by omega, by omega, rfl, ⟨Al ++ H4, by rw [List.append_assoc]; exact hp4⟩, xs, (Acc.slg (z := 1) (f := Row.enc) (fun _ => rfl) hAl I4 (G := F4) fun x hx => hp4.mem_iff.2 (List.mem_append_left _ hx)), hxs,
        fun j r x hr hx => hd4 j r x (by have := (List.getElem?_eq_some_iff.1 hx).1; omega) hr hx⟩, ?_⟩
      intro x i m13 I11 F9 hI11 ⟨i0, i1, im, ⟨A9, hp9⟩, xs, hsl, hxs, hd⟩
      have hS11 := hS4.mono hI11
      refine ⟨fun hlt => ?_, fun hlt => ⟨rfl, A9, hp9⟩⟩
      have hlt := of_decide_eq_true hlt
      obtain ⟨ad, r, had, hr, hrd⟩ := hS11.at (i := i) i0 (by omega)
      obtain ⟨adx, xr, hadx, hxr, hrdx⟩ := hsl.at (i := i) i0 (by have := hsl.1; omega)
      have hrn : r.n ≤ 1000000000 := by
        obtain ⟨l, A, R, hl, hA, _⟩ := hH.focus hr
        have := hb _ _ hl
        have := hA.1
        omega
      refine ⟨⟨i0, by omega⟩, ad, had, _, _, _, hrd _, ⟨_, i0, by omega, by omega, ⟨r, hr, rfl, hrn, by omega, rfl⟩, ⟨A9, hp9⟩, xs, hsl, hxs, hd⟩, ?_⟩
      intro x1 k m15 I12 F10 hI12 ⟨_, _, k0, ⟨r', hr', hnn, _, k1, km⟩, ⟨A10, hp10⟩, xs2, hsl2, hxs2, hd2⟩
      obtain rfl : r = r' := by rw [hr] at hr'; exact Option.some.inj hr'
      obtain ⟨adx2, xr2, hadx2, hxr2, hrdx2⟩ := hsl2.at (i := i) i0 (by have := hsl2.1; omega)
      obtain ⟨l, t, hSl, hml, hSx, htl, hmt⟩ := hd2 _ _ _ hr hxr2
      have hrl := hSl.1
      have hxl := hSx.1
      rw [List.length_append] at hxl
      have hrd2 := fun G => (hrd G).mono hI12
      have hii : ((i.toNat : Nat) : Int) = i := Int.toNat_of_nonneg i0
      rw [hii] at hml hmt
      refine ⟨fun hk => ?_, fun hk => ?_⟩
      · have hk := of_decide_eq_true hk
        obtain ⟨ad6, y, ha6, hy, hrd6⟩ := hSl.at (i := k) k0 (by omega)
        have hyv := hml _ _ hy
        have hkk : ((k.toNat : Nat) : Int) = k := Int.toNat_of_nonneg k0
        rw [hkk] at hyv
        obtain ⟨ad8, y', ha8, hy', hrd8⟩ := hSx.at (i := k) k0 (by omega)
        obtain rfl : y = y' := by
          rw [List.getElem?_append_left (by omega), hy] at hy'; exact Option.some.inj hy'
        have hsp : ∀ X : Heap, Tri P 88 #[.int .i64 i, .int .i64 k] I12 X fun e I' G => e = .returned (.int .i64 (spotV i k)) ∧ G.Perm X := fun X => (spot_spec i k I12 X).mono fun e I' G _ ⟨h1, h2⟩ => ⟨h1, by rw [h2]⟩
        refine ⟨⟨i0, by omega⟩, ad, had, _, _, _, hrd2 _, ⟨k0, by omega⟩, ad6, ha6, spotV i k, (hrd6 _).field2 (p := 0) (q := 0) hyv, spotV i k, hsp _, fun h => by simp at h, fun _ => ⟨⟨i0, by have := hsl2.1; omega⟩, adx2, hadx2, _, _, _, hrdx2, ⟨k0, by omega⟩, ad8, ha8, spotV i k, (hrd8 _).field2 (p := 0) (q := 0) hyv, spotV i k, hsp _, fun h => by simp at h, fun _ => ?_⟩⟩
        rw [w64 (by omega)]
        exact ⟨_, by omega, i0, by omega, by omega, ⟨r, hr, hnn, hrn, by omega, rfl⟩, ⟨A10, hp10⟩, xs2, hsl2, hxs2, hd2⟩
      · have hk := of_decide_eq_false hk
        refine ⟨⟨_, i0, by omega, by omega, by omega, rfl, ⟨r, hr, rfl, hrn⟩, ⟨A10, hp10⟩, xs2, hsl2, hxs2, hd2⟩, ?_⟩
        intro x2 k3 m20 I15 F11 hI15 ⟨_, _, k0', k1', km', ⟨r', hr', hnn', _⟩, ⟨A11, hp11⟩, xs3, hsl3, hxs3, hd3⟩
        refine ⟨fun hk => ?_, fun hk => ?_⟩
        · have hk := of_decide_eq_true hk
          obtain ⟨adx3, xr3, hadx3, hxr3, hrdx3⟩ := hsl3.at (i := i) i0 (by have := hsl3.1; omega)
          obtain ⟨l3, t3, hSl3, hml3, hSx3, htl3, hmt3⟩ := hd3 _ _ _ hr hxr3
          have hrl3 := hSl3.1
          have hxl3 := hSx3.1
          rw [List.length_append] at hxl3
          rw [hii] at hmt3
          rw [w64 (by omega)]
          obtain ⟨ad10, y, ha10, hy, hrd10⟩ := hSx3.at (i := ((r.n : Nat) : Int) + k3) (by omega) (by omega)
          rw [List.getElem?_append_right (by omega), show (((r.n : Nat) : Int) + k3).toNat - l3.length = k3.toNat by omega] at hy
          have hyv := hmt3 _ _ hy
          have hkk : ((k3.toNat : Nat) : Int) = k3 := Int.toNat_of_nonneg k0'
          rw [hkk] at hyv
          refine ⟨⟨i0, by have := hsl3.1; omega⟩, adx3, hadx3, _, _, _, hrdx3, ⟨by omega, by omega⟩, ad10, ha10, behindV i k3, (hrd10 _).field2 (p := 0) (q := 0) hyv, behindV i k3, (behind_spec i k3 I15 _).mono fun e I' G _ ⟨h1, h2⟩ => ⟨h1, by rw [h2]⟩, fun h => by simp at h, fun _ => ?_⟩
          rw [w64 (by omega)]
          exact ⟨_, by omega, i0, by omega, by omega, by omega, rfl, ⟨r, hr, rfl, hrn⟩, ⟨A11, hp11⟩, xs3, hsl3, hxs3, hd3⟩
        · rw [w64 (by omega)]
          exact ⟨_, by omega, by omega, by omega, rfl, ⟨A11, hp11⟩, xs3, hsl3, hxs3, hd3⟩
end Go.Lx
namespace Go.Lx
open Go.Vc
def shT_o2 : List (Nat × List Sh) := [(2, [.one (.int .i64)]), (3, [.one (.int .i64)]), (4, [.one .bool]), (37, [.one .slc]), (38, [.one .slc]), (39, [.one .slc]), (40, [.one .slc]), (41, [.one .slc]), (42, [.one .slc]), (43, [.one .slc]), (44, [.one .slc]), (45, [.one .slc]), (46, [.one .slc]), (47, [.one .slc]), (48, [.one .slc]), (155, [.one .slc]), (158, [.one .slc])]
set_option maxRecDepth 100000 in
def ref00_ownWhole.V (vi : Int → Value) (vl : Option Addr → Nat → Nat → Value) (vt : Bool → Value) (wr : Int → Int) (l_a : Option Addr) (l_n l_c : Nat) (I : Imm) (F : Heap) (Q : PostQ) (Inv8 : Int → Nat → Imm → Heap → Imm → Heap → Prop) (Inv20 : Int → Int → Nat → Imm → Heap → Imm → Heap → Prop) (Inv36 : Option Addr → Nat → Nat → Int → Nat → Imm → Heap → Imm → Heap → Prop) (Inv51 : Option Addr → Nat → Nat → Int → Option Addr → Nat → Nat → Int → Nat → Imm → Heap → Imm → Heap → Prop) (Inv68 : Option Addr → Nat → Nat → Bool → Int → Nat → Imm → Heap → Imm → Heap → Prop) (Inv83 : Option Addr → Nat → Nat → Int → Int → Bool → Int → Nat → Imm → Heap → Imm → Heap → Prop) (Inv103 : Option Addr → Nat → Nat → Int → Int → Bool → Int → Nat → Imm → Heap → Imm → Heap → Prop) : Prop := (∃ m : Nat, Inv8 0 m I F I F) ∧ ∀ (i : Int) (m1 : Nat) (I1 : Imm) (F1 : Heap), Imm.le I I1 → Inv8 i m1 I F I1 F1 → ((decide (i < ((l_n : Nat) : Int)) = true → (∃ m2 : Nat, Inv20 i 0 m2 I1 F1 I1 F1) ∧ ∀ (k : Int) (m3 : Nat) (I2 : Imm) (F2 : Heap), Imm.le I1 I2 → Inv20 i k m3 I1 F1 I2 F2 → ((0 ≤ i ∧ i < (l_n : Int)) ∧ ∃ ad : Addr, l_a = some ad ∧ ∃ (m_a : Option Addr) (m_n m_c : Nat), Rd I2 (F2) (ad.add (Int.toNat (i) * 1)) [vl m_a m_n m_c] ∧ ((decide (k < ((m_n : Nat) : Int)) = true → ((0 ≤ i ∧ i < (l_n : Int)) ∧ ∃ ad1 : Addr, l_a = some ad1 ∧ ∃ (m_a1 : Option Addr) (m_n1 m_c1 : Nat), Rd I2 (F2) (ad1.add (Int.toNat (i) * 1)) [vl m_a1 m_n1 m_c1] ∧ ∃ (r : Int), (Tri P 88 (#[vi i, vi k]) I2 (F2) fun e1 I3 G1 => e1 = .returned (vi r) ∧ List.Perm G1 (F2)) ∧ False)) ∧ (decide (k < ((m_n : Nat) : Int)) = false → (∃ m4 : Nat, m4 < m1 ∧ Inv8 (wr (i + 1)) m4 I F I2 F2))))) ∧ (decide (i < ((l_n : Nat) : Int)) = false → (∃ m5 : Nat, Inv36 none 0 0 0 m5 I1 F1 I1 F1) ∧ ∀ (long_a : Option Addr) (long_n long_c : Nat) (i1 : Int) (m6 : Nat) (I4 : Imm) (F3 : Heap), Imm.le I1 I4 → Inv36 long_a long_n long_c i1 m6 I1 F1 I4 F3 → ((decide (i1 < ((l_n : Nat) : Int)) = true → ((0 ≤ i1 ∧ i1 < (l_n : Int)) ∧ ∃ ad2 : Addr, l_a = some ad2 ∧ ∃ (m_a2 : Option Addr) (m_n2 m_c2 : Nat), Rd I4 (F3) (ad2.add (Int.toNat (i1) * 1)) [vl m_a2 m_n2 m_c2] ∧ (∃ m7 : Nat, Inv51 long_a long_n long_c i1 m_a2 m_n2 m_c2 0 m7 I4 F3 I4 F3) ∧ ∀ (x_a : Option Addr) (x_n x_c : Nat) (k1 : Int) (m8 : Nat) (I5 : Imm) (F4 : Heap), Imm.le I4 I5 → Inv51 long_a long_n long_c i1 x_a x_n x_c k1 m8 I4 F3 I5 F4 → ((decide (k1 < 8) = true → Tri P 89 (#[vi i1, vi k1]) I5 (F4) fun e2 I6 G2 => ∃ (r1 : Int), e2 = .returned (vi r1) ∧ ∃ F5 : Heap, List.Perm G2 (F5) ∧ ∀ (b : Nat) (I7 : Imm), Imm.le I6 I7 → I7 b = some (Obj.cells #[vi r1, vi 0, Value.int .u16 0, Value.int .u16 0, vl none 0 0] 157 (0, 0)) → ∀ (b1 : Nat) (I8 : Imm), Imm.le I7 I8 → I8 b1 = some (Obj.cells #[vl (some ⟨b, 0, none⟩) 1 1] 155 (0, 0)) → TriE P (Builtin.append_ #[45, 45] 45 #[vl x_a x_n x_c, vl (some ⟨b1, 0, none⟩) 1 1]) I8 (F5) fun v I9 G3 => ∃ (r_a : Option Addr) (r_n r_c : Nat), v = vl r_a r_n r_c ∧ ∃ F6 : Heap, List.Perm G3 (F6) ∧ (∃ m9 : Nat, m9 < m8 ∧ Inv51 long_a long_n long_c i1 r_a r_n r_c (wr (k1 + 1)) m9 I4 F3 I9 F6)) ∧ (decide (k1 < 8) = false → ∀ (b2 : Nat) (I10 : Imm), Imm.le I5 I10 → I10 b2 = some (Obj.cells #[vl x_a x_n x_c] 45 (0, 0)) → TriE P (Builtin.append_ #[47, 47] 47 #[vl long_a long_n long_c, vl (some ⟨b2, 0, none⟩) 1 1]) I10 (F4) fun v1 I11 G4 => ∃ (r_a1 : Option Addr) (r_n1 r_c1 : Nat), v1 = vl r_a1 r_n1 r_c1 ∧ ∃ F7 : Heap, List.Perm G4 (F7) ∧ (∃ m10 : Nat, m10 < m6 ∧ Inv36 r_a1 r_n1 r_c1 (wr (i1 + 1)) m10 I1 F1 I11 F7))))) ∧ (decide (i1 < ((l_n : Nat) : Int)) = false → (∃ m11 : Nat, Inv68 long_a long_n long_c false 0 m11 I4 F3 I4 F3) ∧ ∀ (x : Bool) (i2 : Int) (m12 : Nat) (I12 : Imm) (F8 : Heap), Imm.le I4 I12 → Inv68 long_a long_n long_c x i2 m12 I4 F3 I12 F8 → ((decide (i2 < ((l_n : Nat) : Int)) = true → ((0 ≤ i2 ∧ i2 < (l_n : Int)) ∧ ∃ ad3 : Addr, l_a = some ad3 ∧ ∃ (m_a3 : Option Addr) (m_n3 m_c3 : Nat), Rd I12 (F8) (ad3.add (Int.toNat (i2) * 1)) [vl m_a3 m_n3 m_c3] ∧ (∃ m13 : Nat, Inv83 long_a long_n long_c i2 ((m_n3 : Nat) : Int) x 0 m13 I12 F8 I12 F8) ∧ ∀ (x1 : Bool) (k2 : Int) (m14 : Nat) (I13 : Imm) (F9 : Heap), Imm.le I12 I13 → Inv83 long_a long_n long_c i2 ((m_n3 : Nat) : Int) x1 k2 m14 I12 F8 I13 F9 → ((decide (k2 < ((m_n3 : Nat) : Int)) = true → ((0 ≤ i2 ∧ i2 < (l_n : Int)) ∧ ∃ ad4 : Addr, l_a = some ad4 ∧ ∃ (m_a4 : Option Addr) (m_n4 m_c4 : Nat), Rd I13 (F9) (ad4.add (Int.toNat (i2) * 1)) [vl m_a4 m_n4 m_c4] ∧ ((0 ≤ k2 ∧ k2 < (m_n4 : Int)) ∧ ∃ ad5 : Addr, m_a4 = some ad5 ∧ ∃ (m_a5 : Option Addr) (m_n5 m_c5 : Nat), Rd I13 (F9) (ad5.add (Int.toNat (k2) * 1)) [vl m_a5 m_n5 m_c5] ∧ ((0 ≤ (0 : Int) ∧ (0 : Int) < (m_n5 : Int)) ∧ ∃ ad6 : Addr, m_a5 = some ad6 ∧ ∃ (m15 : Int), Rd I13 (F9) (((ad6.add (Int.toNat (0) * 5)).add 0).add 0) [vi m15] ∧ ∃ (r2 : Int), (Tri P 88 (#[vi i2, vi k2]) I13 (F9) fun e3 I14 G5 => e3 = .returned (vi r2) ∧ List.Perm G5 (F9)) ∧ (((m15 != r2) = true → Q (.returned (vt false)) I13 (F9)) ∧ ((m15 != r2) = false → ((0 ≤ i2 ∧ i2 < (long_n : Int)) ∧ ∃ ad7 : Addr, long_a = some ad7 ∧ ∃ (m_a6 : Option Addr) (m_n6 m_c6 : Nat), Rd I13 (F9) (ad7.add (Int.toNat (i2) * 1)) [vl m_a6 m_n6 m_c6] ∧ ((0 ≤ k2 ∧ k2 < (m_n6 : Int)) ∧ ∃ ad8 : Addr, m_a6 = some ad8 ∧ ∃ (m_a7 : Option Addr) (m_n7 m_c7 : Nat), Rd I13 (F9) (ad8.add (Int.toNat (k2) * 1)) [vl m_a7 m_n7 m_c7] ∧ ((0 ≤ (0 : Int) ∧ (0 : Int) < (m_n7 : Int)) ∧ ∃ ad9 : Addr, m_a7 = some ad9 ∧ ∃ (m16 : Int), Rd I13 (F9) (((ad9.add (Int.toNat (0) * 5)).add 0).add 0) [vi m16] ∧ ∃ (r3 : Int), (Tri P 88 (#[vi i2, vi k2]) I13 (F9) fun e4 I15 G6 => e4 = .returned (vi r3) ∧ List.Perm G6 (F9)) ∧ (((m16 != r3) = true → Q (.returned (vt false)) I13 (F9)) ∧ ((m16 != r3) = false → (∃ m17 : Nat, m17 < m14 ∧ Inv83 long_a long_n long_c i2 ((m_n3 : Nat) : Int) x1 (wr (k2 + 1)) m17 I12 F8 I13 F9)))))))))))) ∧ (decide (k2 < ((m_n3 : Nat) : Int)) = false → (∃ m18 : Nat, Inv103 long_a long_n long_c i2 ((m_n3 : Nat) : Int) x1 0 m18 I13 F9 I13 F9) ∧ ∀ (x2 : Bool) (k3 : Int) (m19 : Nat) (I16 : Imm) (F10 : Heap), Imm.le I13 I16 → Inv103 long_a long_n long_c i2 ((m_n3 : Nat) : Int) x2 k3 m19 I13 F9 I16 F10 → ((decide (k3 < 8) = true → ((0 ≤ i2 ∧ i2 < (long_n : Int)) ∧ ∃ ad10 : Addr, long_a = some ad10 ∧ ∃ (m_a8 : Option Addr) (m_n8 m_c8 : Nat), Rd I16 (F10) (ad10.add (Int.toNat (i2) * 1)) [vl m_a8 m_n8 m_c8] ∧ ((0 ≤ (wr (((m_n3 : Nat) : Int) + k3)) ∧ (wr (((m_n3 : Nat) : Int) + k3)) < (m_n8 : Int)) ∧ ∃ ad11 : Addr, m_a8 = some ad11 ∧ ∃ (m_a9 : Option Addr) (m_n9 m_c9 : Nat), Rd I16 (F10) (ad11.add (Int.toNat (wr (((m_n3 : Nat) : Int) + k3)) * 1)) [vl m_a9 m_n9 m_c9] ∧ ((0 ≤ (0 : Int) ∧ (0 : Int) < (m_n9 : Int)) ∧ ∃ ad12 : Addr, m_a9 = some ad12 ∧ ∃ (m20 : Int), Rd I16 (F10) (((ad12.add (Int.toNat (0) * 5)).add 0).add 0) [vi m20] ∧ ∃ (r4 : Int), (Tri P 89 (#[vi i2, vi k3]) I16 (F10) fun e5 I17 G7 => e5 = .returned (vi r4) ∧ List.Perm G7 (F10)) ∧ (((m20 != r4) = true → Q (.returned (vt false)) I16 (F10)) ∧ ((m20 != r4) = false → (∃ m21 : Nat, m21 < m19 ∧ Inv103 long_a long_n long_c i2 ((m_n3 : Nat) : Int) x2 (wr (k3 + 1)) m21 I13 F9 I16 F10))))))) ∧ (decide (k3 < 8) = false → (∃ m22 : Nat, m22 < m12 ∧ Inv68 long_a long_n long_c x2 (wr (i2 + 1)) m22 I4 F3 I16 F10))))))) ∧ (decide (i2 < ((l_n : Nat) : Int)) = false → Q (.returned (vt true)) I12 (F8)))))))
set_option maxRecDepth 100000 in
theorem ref00_ownWhole.vc {l_a : Option Addr} {l_n l_c : Nat} {I : Imm} {F : Heap} {Q : PostQ} (Inv8 : Int → Nat → Imm → Heap → Imm → Heap → Prop) (Inv20 : Int → Int → Nat → Imm → Heap → Imm → Heap → Prop) (Inv36 : Option Addr → Nat → Nat → Int → Nat → Imm → Heap → Imm → Heap → Prop) (Inv51 : Option Addr → Nat → Nat → Int → Option Addr → Nat → Nat → Int → Nat → Imm → Heap → Imm → Heap → Prop) (Inv68 : Option Addr → Nat → Nat → Bool → Int → Nat → Imm → Heap → Imm → Heap → Prop) (Inv83 : Option Addr → Nat → Nat → Int → Int → Bool → Int → Nat → Imm → Heap → Imm → Heap → Prop) (Inv103 : Option Addr → Nat → Nat → Int → Int → Bool → Int → Nat → Imm → Heap → Imm → Heap → Prop) (h : ref00_ownWhole.V (.int .i64) .slice .bool (IntKind.wrap .i64) l_a l_n l_c I F Q Inv8 Inv20 Inv36 Inv51 Inv68 Inv83 Inv103) : Tri P 61 #[Value.slice l_a l_n l_c] I (F) Q :=
  tri_of_V (A := (annL [3003, 6006, 10003, 14001, 19003, 23002, 25014, 25030, 28001, 30016] [] [88, 89] shT_o2 [(8, ⟨[(4, (.int .i64))], [], fun fs I0 F0 vs m I F => match fs, vs with | [], [.int _ y0] => Inv8 y0 m I0 F0 I F | _, _ => False, [], []⟩), (20, ⟨[(5, (.int .i64))], [], fun fs I0 F0 vs m I F => match fs, vs with | [.int _ y0], [.int _ y1] => Inv20 y0 y1 m I0 F0 I F | _, _ => False, [4], []⟩), (36, ⟨[(3, .slc), (6, (.int .i64))], [], fun fs I0 F0 vs m I F => match fs, vs with | [], [.slice y0 y1 y2, .int _ y3] => Inv36 y0 y1 y2 y3 m I0 F0 I F | _, _ => False, [], []⟩), (51, ⟨[(7, .slc), (8, (.int .i64))], [], fun fs I0 F0 vs m I F => match fs, vs with | [.slice y0 y1 y2, .int _ y3], [.slice y4 y5 y6, .int _ y7] => Inv51 y0 y1 y2 y3 y4 y5 y6 y7 m I0 F0 I F | _, _ => False, [3, 6], []⟩), (68, ⟨[(2, .bool), (9, (.int .i64))], [], fun fs I0 F0 vs m I F => match fs, vs with | [.slice y0 y1 y2], [.bool y3, .int _ y4] => Inv68 y0 y1 y2 y3 y4 m I0 F0 I F | _, _ => False, [3], []⟩), (83, ⟨[(2, .bool), (11, (.int .i64))], [], fun fs I0 F0 vs m I F => match fs, vs with | [.slice y0 y1 y2, .int _ y3, .int _ y4], [.bool y5, .int _ y6] => Inv83 y0 y1 y2 y3 y4 y5 y6 m I0 F0 I F | _, _ => False, [3, 9, 10], []⟩), (103, ⟨[(2, .bool), (12, (.int .i64))], [], fun fs I0 F0 vs m I F => match fs, vs with | [.slice y0 y1 y2, .int _ y3, .int _ y4], [.bool y5, .int _ y6] => Inv103 y0 y1 y2 y3 y4 y5 y6 m I0 F0 I F | _, _ => False, [3, 9, 10], []⟩)] [16006, 16007, 17002] [] [] [] [] [])) (args := [.a (.v (Value.slice l_a l_n l_c))]) (own := []) (keep := []) [88, 89] Go.Proofs.Try.func61 h (by kernel_rfl) (by kernel_rfl) (by kernel_rfl) (by kernel_rfl) (by kernel_rfl) (by simp [AV.wf, At.wf]) (by simp [AV.wf, At.wf]) rfl
set_option maxRecDepth 100000 in
def ref00_ownLongs.V (vi : Int → Value) (vl : Option Addr → Nat → Nat → Value) (vt : Bool → Value) (wr : Int → Int) (l_a : Option Addr) (l_n l_c : Nat) (I : Imm) (F : Heap) (Q : PostQ) (Inv6 : Int → Nat → Imm → Heap → Imm → Heap → Prop) (Inv18 : Int → Nat → Imm → Heap → Imm → Heap → Prop) (Inv36 : Option Addr → Nat → Nat → Int → Nat → Imm → Heap → Imm → Heap → Prop) (Inv51 : Int → Int → Option Addr → Nat → Nat → Int → Nat → Imm → Heap → Imm → Heap → Prop) (Inv68 : Int → Bool → Int → Nat → Imm → Heap → Imm → Heap → Prop) (Inv83 : Int → Int → Int → Bool → Int → Nat → Imm → Heap → Imm → Heap → Prop) (Inv103 : Int → Int → Int → Bool → Int → Nat → Imm → Heap → Imm → Heap → Prop) : Prop := (∃ m : Nat, Inv6 0 m I F I F) ∧ ∀ (i : Int) (m1 : Nat) (I1 : Imm) (F1 : Heap), Imm.le I I1 → Inv6 i m1 I F I1 F1 → ((decide (i < ((l_n : Nat) : Int)) = true → (∃ m2 : Nat, Inv18 0 m2 I1 F1 I1 F1) ∧ ∀ (k : Int) (m3 : Nat) (I2 : Imm) (F2 : Heap), Imm.le I1 I2 → Inv18 k m3 I1 F1 I2 F2 → ((0 ≤ i ∧ i < (l_n : Int)) ∧ ∃ ad : Addr, l_a = some ad ∧ ∃ (m_a : Option Addr) (m_n m_c : Nat), Rd I2 (F2) (ad.add (Int.toNat (i) * 1)) [vl m_a m_n m_c] ∧ ((decide (k < ((m_n : Nat) : Int)) = true → ((0 ≤ i ∧ i < (l_n : Int)) ∧ ∃ ad1 : Addr, l_a = some ad1 ∧ ∃ (m_a1 : Option Addr) (m_n1 m_c1 : Nat), Rd I2 (F2) (ad1.add (Int.toNat (i) * 1)) [vl m_a1 m_n1 m_c1] ∧ ((0 ≤ k ∧ k < (m_n1 : Int)) ∧ ∃ ad2 : Addr, m_a1 = some ad2 ∧ ∃ (cs : List Value) (el : Nat) (F3 : Heap), List.Perm F2 (((ad2.add (Int.toNat (k) * 1)).block, Obj.cells cs.toArray el (0, 0)) :: F3) ∧ (ad2.add (Int.toNat (k) * 1)).spot = none ∧ (ad2.add (Int.toNat (k) * 1)).off + 1 ≤ cs.length ∧ (∃ m4 : Nat, m4 < m3 ∧ Inv18 (wr (k + 1)) m4 I1 F1 I2 (((ad2.add (Int.toNat (k) * 1)).block, Obj.cells (splice (ad2.add (Int.toNat (k) * 1)).off [vi (wr ((wr (i * 1000)) + k))] cs).toArray el (0, 0)) :: F3))))) ∧ (decide (k < ((m_n : Nat) : Int)) = false → (∃ m5 : Nat, m5 < m1 ∧ Inv6 (wr (i + 1)) m5 I F I2 F2))))) ∧ (decide (i < ((l_n : Nat) : Int)) = false → (∃ m6 : Nat, Inv36 none 0 0 0 m6 I1 F1 I1 F1) ∧ ∀ (long_a : Option Addr) (long_n long_c : Nat) (i1 : Int) (m7 : Nat) (I3 : Imm) (F4 : Heap), Imm.le I1 I3 → Inv36 long_a long_n long_c i1 m7 I1 F1 I3 F4 → ((decide (i1 < ((l_n : Nat) : Int)) = true → ((0 ≤ i1 ∧ i1 < (l_n : Int)) ∧ ∃ ad3 : Addr, l_a = some ad3 ∧ ∃ (m_a2 : Option Addr) (m_n2 m_c2 : Nat), Rd I3 (F4) (ad3.add (Int.toNat (i1) * 1)) [vl m_a2 m_n2 m_c2] ∧ (∃ m8 : Nat, Inv51 i i1 m_a2 m_n2 m_c2 0 m8 I3 F4 I3 F4) ∧ ∀ (x_a : Option Addr) (x_n x_c : Nat) (k1 : Int) (m9 : Nat) (I4 : Imm) (F5 : Heap), Imm.le I3 I4 → Inv51 i i1 x_a x_n x_c k1 m9 I3 F4 I4 F5 → ((decide (k1 < 16) = true → ∀ (b : Nat) (I5 : Imm), Imm.le I4 I5 → I5 b = some (Obj.cells #[vi (wr ((wr ((wr ((-1) - i1)) * 1000)) - k1))] 2 (0, 0)) → TriE P (Builtin.append_ #[158, 158] 158 #[vl x_a x_n x_c, vl (some ⟨b, 0, none⟩) 1 1]) I5 (F5) fun v I6 G1 => ∃ (r_a : Option Addr) (r_n r_c : Nat), v = vl r_a r_n r_c ∧ ∃ F6 : Heap, List.Perm G1 (F6) ∧ (∃ m10 : Nat, m10 < m9 ∧ Inv51 i i1 r_a r_n r_c (wr (k1 + 1)) m10 I3 F4 I6 F6)) ∧ (decide (k1 < 16) = false → ∀ (b1 : Nat) (I7 : Imm), Imm.le I4 I7 → I7 b1 = some (Obj.cells #[vl x_a x_n x_c] 158 (0, 0)) → TriE P (Builtin.append_ #[48, 48] 48 #[vl long_a long_n long_c, vl (some ⟨b1, 0, none⟩) 1 1]) I7 (F5) fun v1 I8 G2 => ∃ (r_a1 : Option Addr) (r_n1 r_c1 : Nat), v1 = vl r_a1 r_n1 r_c1 ∧ ∃ F7 : Heap, List.Perm G2 (F7) ∧ (∃ m11 : Nat, m11 < m7 ∧ Inv36 r_a1 r_n1 r_c1 (wr (i1 + 1)) m11 I1 F1 I8 F7))))) ∧ (decide (i1 < ((l_n : Nat) : Int)) = false → (∃ m12 : Nat, Inv68 i false 0 m12 I3 F4 I3 F4) ∧ ∀ (x : Bool) (i2 : Int) (m13 : Nat) (I9 : Imm) (F8 : Heap), Imm.le I3 I9 → Inv68 i x i2 m13 I3 F4 I9 F8 → ((decide (i2 < ((l_n : Nat) : Int)) = true → ((0 ≤ i2 ∧ i2 < (l_n : Int)) ∧ ∃ ad4 : Addr, l_a = some ad4 ∧ ∃ (m_a3 : Option Addr) (m_n3 m_c3 : Nat), Rd I9 (F8) (ad4.add (Int.toNat (i2) * 1)) [vl m_a3 m_n3 m_c3] ∧ (∃ m14 : Nat, Inv83 i i2 ((m_n3 : Nat) : Int) x 0 m14 I9 F8 I9 F8) ∧ ∀ (x1 : Bool) (k2 : Int) (m15 : Nat) (I10 : Imm) (F9 : Heap), Imm.le I9 I10 → Inv83 i i2 ((m_n3 : Nat) : Int) x1 k2 m15 I9 F8 I10 F9 → ((decide (k2 < ((m_n3 : Nat) : Int)) = true → ((0 ≤ i2 ∧ i2 < (l_n : Int)) ∧ ∃ ad5 : Addr, l_a = some ad5 ∧ ∃ (m_a4 : Option Addr) (m_n4 m_c4 : Nat), Rd I10 (F9) (ad5.add (Int.toNat (i2) * 1)) [vl m_a4 m_n4 m_c4] ∧ ((0 ≤ k2 ∧ k2 < (m_n4 : Int)) ∧ ∃ ad6 : Addr, m_a4 = some ad6 ∧ ∃ (m16 : Int), Rd I10 (F9) (ad6.add (Int.toNat (k2) * 1)) [vi m16] ∧ (((m16 != (wr ((wr (i2 * 1000)) + k2))) = true → Q (.returned (vt false)) I10 (F9)) ∧ ((m16 != (wr ((wr (i2 * 1000)) + k2))) = false → ((0 ≤ i2 ∧ i2 < (long_n : Int)) ∧ ∃ ad7 : Addr, long_a = some ad7 ∧ ∃ (m_a5 : Option Addr) (m_n5 m_c5 : Nat), Rd I10 (F9) (ad7.add (Int.toNat (i2) * 1)) [vl m_a5 m_n5 m_c5] ∧ ((0 ≤ k2 ∧ k2 < (m_n5 : Int)) ∧ ∃ ad8 : Addr, m_a5 = some ad8 ∧ ∃ (m17 : Int), Rd I10 (F9) (ad8.add (Int.toNat (k2) * 1)) [vi m17] ∧ (((m17 != (wr ((wr (i2 * 1000)) + k2))) = true → Q (.returned (vt false)) I10 (F9)) ∧ ((m17 != (wr ((wr (i2 * 1000)) + k2))) = false → (∃ m18 : Nat, m18 < m15 ∧ Inv83 i i2 ((m_n3 : Nat) : Int) x1 (wr (k2 + 1)) m18 I9 F8 I10 F9)))))))))) ∧ (decide (k2 < ((m_n3 : Nat) : Int)) = false → (∃ m19 : Nat, Inv103 i i2 ((m_n3 : Nat) : Int) x1 0 m19 I10 F9 I10 F9) ∧ ∀ (x2 : Bool) (k3 : Int) (m20 : Nat) (I11 : Imm) (F10 : Heap), Imm.le I10 I11 → Inv103 i i2 ((m_n3 : Nat) : Int) x2 k3 m20 I10 F9 I11 F10 → ((decide (k3 < 16) = true → ((0 ≤ i2 ∧ i2 < (long_n : Int)) ∧ ∃ ad9 : Addr, long_a = some ad9 ∧ ∃ (m_a6 : Option Addr) (m_n6 m_c6 : Nat), Rd I11 (F10) (ad9.add (Int.toNat (i2) * 1)) [vl m_a6 m_n6 m_c6] ∧ ((0 ≤ (wr (((m_n3 : Nat) : Int) + k3)) ∧ (wr (((m_n3 : Nat) : Int) + k3)) < (m_n6 : Int)) ∧ ∃ ad10 : Addr, m_a6 = some ad10 ∧ ∃ (m21 : Int), Rd I11 (F10) (ad10.add (Int.toNat (wr (((m_n3 : Nat) : Int) + k3)) * 1)) [vi m21] ∧ (((m21 != (wr ((wr ((wr ((-1) - i2)) * 1000)) - k3))) = true → Q (.returned (vt false)) I11 (F10)) ∧ ((m21 != (wr ((wr ((wr ((-1) - i2)) * 1000)) - k3))) = false → (∃ m22 : Nat, m22 < m20 ∧ Inv103 i i2 ((m_n3 : Nat) : Int) x2 (wr (k3 + 1)) m22 I10 F9 I11 F10)))))) ∧ (decide (k3 < 16) = false → (∃ m23 : Nat, m23 < m13 ∧ Inv68 i x2 (wr (i2 + 1)) m23 I3 F4 I11 F10))))))) ∧ (decide (i2 < ((l_n : Nat) : Int)) = false → Q (.returned (vt true)) I9 (F8)))))))
set_option maxRecDepth 100000 in
theorem ref00_ownLongs.vc {l_a : Option Addr} {l_n l_c : Nat} {I : Imm} {F : Heap} {Q : PostQ} (Inv6 : Int → Nat → Imm → Heap → Imm → Heap → Prop) (Inv18 : Int → Nat → Imm → Heap → Imm → Heap → Prop) (Inv36 : Option Addr → Nat → Nat → Int → Nat → Imm → Heap → Imm → Heap → Prop) (Inv51 : Int → Int → Option Addr → Nat → Nat → Int → Nat → Imm → Heap → Imm → Heap → Prop) (Inv68 : Int → Bool → Int → Nat → Imm → Heap → Imm → Heap → Prop) (Inv83 : Int → Int → Int → Bool → Int → Nat → Imm → Heap → Imm → Heap → Prop) (Inv103 : Int → Int → Int → Bool → Int → Nat → Imm → Heap → Imm → Heap → Prop) (h : ref00_ownLongs.V (.int .i64) .slice .bool (IntKind.wrap .i64) l_a l_n l_c I F Q Inv6 Inv18 Inv36 Inv51 Inv68 Inv83 Inv103) : Tri P 62 #[Value.slice l_a l_n l_c] I (F) Q :=
  tri_of_V (A := (annL [2003, 5006, 10003, 14001, 19003, 23002, 25011, 25024, 28001, 30014] [] [] shT_o2 [(6, ⟨[(3, (.int .i64))], [], fun fs I0 F0 vs m I F => match fs, vs with | [], [.int _ y0] => Inv6 y0 m I0 F0 I F | _, _ => False, [], []⟩), (18, ⟨[(4, (.int .i64))], [], fun fs I0 F0 vs m I F => match fs, vs with | [], [.int _ y0] => Inv18 y0 m I0 F0 I F | _, _ => False, [], []⟩), (36, ⟨[(5, .slc), (6, (.int .i64))], [], fun fs I0 F0 vs m I F => match fs, vs with | [], [.slice y0 y1 y2, .int _ y3] => Inv36 y0 y1 y2 y3 m I0 F0 I F | _, _ => False, [], []⟩), (51, ⟨[(7, .slc), (8, (.int .i64))], [], fun fs I0 F0 vs m I F => match fs, vs with | [.int _ y0, .int _ y1], [.slice y2 y3 y4, .int _ y5] => Inv51 y0 y1 y2 y3 y4 y5 m I0 F0 I F | _, _ => False, [3, 6], []⟩), (68, ⟨[(2, .bool), (9, (.int .i64))], [], fun fs I0 F0 vs m I F => match fs, vs with | [.int _ y0], [.bool y1, .int _ y2] => Inv68 y0 y1 y2 m I0 F0 I F | _, _ => False, [3], []⟩), (83, ⟨[(2, .bool), (11, (.int .i64))], [], fun fs I0 F0 vs m I F => match fs, vs with | [.int _ y0, .int _ y1, .int _ y2], [.bool y3, .int _ y4] => Inv83 y0 y1 y2 y3 y4 m I0 F0 I F | _, _ => False, [3, 9, 10], []⟩), (103, ⟨[(2, .bool), (12, (.int .i64))], [], fun fs I0 F0 vs m I F => match fs, vs with | [.int _ y0, .int _ y1, .int _ y2], [.bool y3, .int _ y4] => Inv103 y0 y1 y2 y3 y4 m I0 F0 I F | _, _ => False, [3, 9, 10], []⟩)] [16006, 17002] [] [] [] [] [])) (args := [.a (.v (Value.slice l_a l_n l_c))]) (own := []) (keep := []) [] Go.Proofs.Try.func62 h (by kernel_rfl) (by kernel_rfl) (by kernel_rfl) (by kernel_rfl) (by kernel_rfl) (by simp [AV.wf, At.wf]) (by simp [AV.wf, At.wf]) rfl
set_option maxRecDepth 100000 in
def ref00_Trees_Own.V (vl : Option Addr → Nat → Nat → Value) (vt : Bool → Value) (b : Option Addr) (I : Imm) (F : Heap) (Q : PostQ)  : Prop := ∃ ad : Addr, b = some ad ∧ ∃ (m_a : Option Addr) (m_n m_c : Nat), Rd I (F) (ad.add 0) [vl m_a m_n m_c] ∧ Tri P 51 (#[vl m_a m_n m_c]) I (F) fun e1 I1 G1 => ∃ (r : Bool), e1 = .returned (vt r) ∧ ∃ F1 : Heap, List.Perm G1 (F1) ∧ ∃ ad1 : Addr, b = some ad1 ∧ ∃ (m_a1 : Option Addr) (m_n1 m_c1 : Nat), Rd I1 (F1) (ad1.add 1) [vl m_a1 m_n1 m_c1] ∧ Tri P 52 (#[vl m_a1 m_n1 m_c1]) I1 (F1) fun e2 I2 G2 => ∃ (r1 : Bool), e2 = .returned (vt r1) ∧ ∃ F2 : Heap, List.Perm G2 (F2) ∧ ∃ ad2 : Addr, b = some ad2 ∧ ∃ (m_a2 : Option Addr) (m_n2 m_c2 : Nat), Rd I2 (F2) (ad2.add 2) [vl m_a2 m_n2 m_c2] ∧ Tri P 53 (#[vl m_a2 m_n2 m_c2]) I2 (F2) fun e3 I3 G3 => ∃ (r2 : Bool), e3 = .returned (vt r2) ∧ ∃ F3 : Heap, List.Perm G3 (F3) ∧ ∃ ad3 : Addr, b = some ad3 ∧ ∃ (m_a3 : Option Addr) (m_n3 m_c3 : Nat), Rd I3 (F3) (ad3.add 3) [vl m_a3 m_n3 m_c3] ∧ Tri P 54 (#[vl m_a3 m_n3 m_c3]) I3 (F3) fun e4 I4 G4 => ∃ (r3 : Bool), e4 = .returned (vt r3) ∧ ∃ F4 : Heap, List.Perm G4 (F4) ∧ ∃ ad4 : Addr, b = some ad4 ∧ ∃ (m_a4 : Option Addr) (m_n4 m_c4 : Nat), Rd I4 (F4) (ad4.add 6) [vl m_a4 m_n4 m_c4] ∧ Tri P 55 (#[vl m_a4 m_n4 m_c4]) I4 (F4) fun e5 I5 G5 => ∃ (r4 : Bool), e5 = .returned (vt r4) ∧ ∃ F5 : Heap, List.Perm G5 (F5) ∧ ∃ ad5 : Addr, b = some ad5 ∧ ∃ (m_a5 : Option Addr) (m_n5 m_c5 : Nat), Rd I5 (F5) (ad5.add 5) [vl m_a5 m_n5 m_c5] ∧ Tri P 56 (#[vl m_a5 m_n5 m_c5]) I5 (F5) fun e6 I6 G6 => ∃ (r5 : Bool), e6 = .returned (vt r5) ∧ ∃ F6 : Heap, List.Perm G6 (F6) ∧ ∃ ad6 : Addr, b = some ad6 ∧ ∃ (m_a6 : Option Addr) (m_n6 m_c6 : Nat), Rd I6 (F6) (ad6.add 4) [vl m_a6 m_n6 m_c6] ∧ Tri P 57 (#[vl m_a6 m_n6 m_c6]) I6 (F6) fun e7 I7 G7 => ∃ (r6 : Bool), e7 = .returned (vt r6) ∧ ∃ F7 : Heap, List.Perm G7 (F7) ∧ ∃ ad7 : Addr, b = some ad7 ∧ ∃ (m_a7 : Option Addr) (m_n7 m_c7 : Nat), Rd I7 (F7) (ad7.add 7) [vl m_a7 m_n7 m_c7] ∧ Tri P 58 (#[vl m_a7 m_n7 m_c7]) I7 (F7) fun e8 I8 G8 => ∃ (r7 : Bool), e8 = .returned (vt r7) ∧ ∃ F8 : Heap, List.Perm G8 (F8) ∧ ∃ ad8 : Addr, b = some ad8 ∧ ∃ (m_a8 : Option Addr) (m_n8 m_c8 : Nat), Rd I8 (F8) (ad8.add 9) [vl m_a8 m_n8 m_c8] ∧ Tri P 59 (#[vl m_a8 m_n8 m_c8]) I8 (F8) fun e9 I9 G9 => ∃ (r8 : Bool), e9 = .returned (vt r8) ∧ ∃ F9 : Heap, List.Perm G9 (F9) ∧ ∃ ad9 : Addr, b = some ad9 ∧ ∃ (m_a9 : Option Addr) (m_n9 m_c9 : Nat), Rd I9 (F9) (ad9.add 8) [vl m_a9 m_n9 m_c9] ∧ Tri P 60 (#[vl m_a9 m_n9 m_c9]) I9 (F9) fun e10 I10 G10 => ∃ (r9 : Bool), e10 = .returned (vt r9) ∧ ∃ F10 : Heap, List.Perm G10 (F10) ∧ ∃ ad10 : Addr, b = some ad10 ∧ ∃ (m_a10 : Option Addr) (m_n10 m_c10 : Nat), Rd I10 (F10) (ad10.add 10) [vl m_a10 m_n10 m_c10] ∧ Tri P 61 (#[vl m_a10 m_n10 m_c10]) I10 (F10) fun e11 I11 G11 => ∃ (r10 : Bool), e11 = .returned (vt r10) ∧ ∃ F11 : Heap, List.Perm G11 (F11) ∧ ∃ ad11 : Addr, b = some ad11 ∧ ∃ (m_a11 : Option Addr) (m_n11 m_c11 : Nat), Rd I11 (F11) (ad11.add 11) [vl m_a11 m_n11 m_c11] ∧ Tri P 62 (#[vl m_a11 m_n11 m_c11]) I11 (F11) fun e12 I12 G12 => ∃ (r11 : Bool), e12 = .returned (vt r11) ∧ ∃ F12 : Heap, List.Perm G12 (F12) ∧ ((r = true → ((r1 = true → ((r2 = true → ((r3 = true → ((r4 = true → ((r5 = true → ((r6 = true → ((r7 = true → ((r8 = true → ((r9 = true → ((r10 = true → Q (.returned (vt r11)) I12 (F12)) ∧ (r10 = false → Q (.returned (vt false)) I12 (F12)))) ∧ (r9 = false → Q (.returned (vt false)) I12 (F12)))) ∧ (r8 = false → Q (.returned (vt false)) I12 (F12)))) ∧ (r7 = false → Q (.returned (vt false)) I12 (F12)))) ∧ (r6 = false → Q (.returned (vt false)) I12 (F12)))) ∧ (r5 = false → Q (.returned (vt false)) I12 (F12)))) ∧ (r4 = false → Q (.returned (vt false)) I12 (F12)))) ∧ (r3 = false → Q (.returned (vt false)) I12 (F12)))) ∧ (r2 = false → Q (.returned (vt false)) I12 (F12)))) ∧ (r1 = false → Q (.returned (vt false)) I12 (F12)))) ∧ (r = false → Q (.returned (vt false)) I12 (F12)))
set_option maxRecDepth 100000 in
theorem ref00_Trees_Own.vc {b : Option Addr} {I : Imm} {F : Heap} {Q : PostQ}  (h : ref00_Trees_Own.V .slice .bool b I F Q) : Tri P 22 #[Value.pointer b] I (F) Q :=
  tri_of_V (A := (annL [13000, 13002, 13005, 13008, 13011, 13014, 13017, 13020, 13023, 13026, 13029] [] [51, 52, 53, 54, 55, 56, 57, 58, 59, 60, 61, 62] shT_o2 [] [] [] [] [] [] [])) (args := [.a (.v (Value.pointer b))]) (own := []) (keep := []) [51, 52, 53, 54, 55, 56, 57, 58, 59, 60, 61, 62] Go.Proofs.Try.func22 h (by kernel_rfl) (by kernel_rfl) (by kernel_rfl) (by kernel_rfl) (by kernel_rfl) (by simp [AV.wf, At.wf]) (by simp [AV.wf, At.wf]) rfl
end Go.Lx
namespace Go.Lx
open Go.Vc
theorem Tri.pre {P : Program} {f : FuncId} {args : Array Value} {I : Imm} {F : Heap} {Q : Ending → Imm → Heap → Prop} (h : ∀ w, Sat I F w → ∃ J G, Imm.le I J ∧ Sat J G w ∧ Tri P f args J G Q) : Tri P f args I F Q := fun w hw =>
  let ⟨J, G, hl, hs, ht⟩ := h w hw
  (ht w hs).mono fun e w' ⟨I', F', h1, h2, h3⟩ => ⟨I', F', Imm.le_trans hl h1, h2, h3⟩
def _root_.Go.Vc.Row.v (r : Row) : Value := .slice r.a r.n r.c
def OwnCall (f : Nat) (r : Row) (H : Heap) : Prop := ∀ (I : Imm) (F : Heap), Tri P f #[r.v] I (H ++ F) fun e I' G => e = .returned (.bool true) ∧ G = F
theorem own_call {f z e S : Nat} (spec : ∀ {rs : List Row} {ls : List (List (Ck z))} {H F : Heap} {la : Option Addr} {ln lc : Nat} {I : Imm}, Sl I 1 Row.enc la ln rs → RowsH z e rs ls H → Bd ls → rs.length ≤ 1000000000 →
      Tri P f #[.slice la ln lc] I (H ++ F) fun e I' G => e = .returned (.bool true) ∧ G = F)
    {r : Row} {rs : List Row} {ls : List (List (Ck z))} {Al H : Heap} (hA : Acc 1 Row.enc S r.a r.n r.c rs Al) (hH : RowsH z e rs ls H) (hb : Bd ls) (hl : rs.length ≤ 1000000000) : OwnCall f r (Al ++ H) := by
  intro I F
  refine Tri.pre fun w hw => ?_
  rw [List.append_assoc] at hw
  obtain ⟨J, hJ, hs, hS⟩ := Acc.keep (z := 1) (f := Row.enc) (fun _ => rfl) hA hw
  exact ⟨J, _, hJ, hs, spec hS hH hb hl⟩
theorem own_nil {f z e : Nat} (spec : ∀ {rs : List Row} {ls : List (List (Ck z))} {H F : Heap} {la : Option Addr} {ln lc : Nat} {I : Imm}, Sl I 1 Row.enc la ln rs → RowsH z e rs ls H → Bd ls → rs.length ≤ 1000000000 →
      Tri P f #[.slice la ln lc] I (H ++ F) fun e I' G => e = .returned (.bool true) ∧ G = F) : OwnCall f ⟨none, 0, 0⟩ [] := fun I F =>
  spec (rs := []) (ls := []) (H := []) ⟨rfl, fun h => absurd rfl h⟩ rfl (fun j l h => by simp at h) (by decide)
theorem ownLongs_nil : OwnCall 62 ⟨none, 0, 0⟩ [] := by
  intro I F
  refine ref00_ownLongs.vc (fun i m I0 F0 I' F' => i = 0 ∧ F' = F) (fun k m I0 F0 I' F' => False) (fun a n c i m I0 F0 I' F' => i = 0 ∧ F' = F) (fun _ _ _ _ _ _ _ _ _ _ _ => False)
    (fun _ x i m I0 F0 I' F' => i = 0 ∧ F' = F) (fun _ _ _ _ _ _ _ _ _ _ => False) (fun _ _ _ _ _ _ _ _ _ _ => False) ?_
  unfold ref00_ownLongs.V
  refine ⟨⟨0, rfl, rfl⟩, fun i m1 I1 F1 _ ⟨hi, hF⟩ => ?_⟩
  subst hi hF
  refine ⟨fun h => absurd h (by decide), fun _ => ⟨⟨0, rfl, rfl⟩, fun a n c i m7 I4 F4 _ ⟨hi, hF⟩ => ?_⟩⟩
  subst hi hF
  refine ⟨fun h => absurd h (by decide), fun _ => ⟨⟨0, rfl, rfl⟩, fun x i m I11 F9 _ ⟨hi, hF⟩ => ?_⟩⟩
  subst hi hF
  exact ⟨fun h => absurd h (by decide), fun _ => ⟨rfl, rfl⟩⟩
def treeCells (rw : Nat → Row) : Array Value := #[(rw 0).v, (rw 1).v, (rw 2).v, (rw 3).v, (rw 4).v, (rw 5).v, (rw 6).v, (rw 7).v, (rw 8).v, (rw 9).v, (rw 10).v, (rw 11).v]
theorem tree_rd {I : Imm} {G : Heap} {b : Nat} {cells : Array Value} (h : (b, Obj.cells cells 50 (0, 0)) ∈ G) {k : Nat} {v : Value} (hv : cells[k]? = some v) : Rd I G ((⟨b, 0, none⟩ : Addr).add k) [v] := by
  rw [add_lit0]
  refine ⟨rfl, _, _, _, .inr h, fun j hj => ?_⟩
  have : j = 0 := by simpa using hj
  subst this
  simpa using hv
theorem own_step {f : Nat} {r : Row} {H R : Heap} {I : Imm} {b : Nat × Obj} {Q : Ending → Imm → Heap → Prop} (h : OwnCall f r H) (k : ∀ I', Imm.le I I' → Q (.returned (.bool true)) I' (b :: R)) : Tri P f #[r.v] I (b :: (H ++ R)) Q :=
  Tri.perm ((h I (b :: R)).mono fun e I' G hl ⟨he, hG⟩ => by subst he; subst hG; exact k I' hl) List.perm_middle.symm
theorem TreesOwn_spec {rw : Nat → Row} {Hs : Nat → Heap} {b : Nat} {I : Imm} {F : Heap} (h0 : OwnCall 51 (rw 0) (Hs 0)) (h1 : OwnCall 52 (rw 1) (Hs 1)) (h2 : OwnCall 53 (rw 2) (Hs 2)) (h3 : OwnCall 54 (rw 3) (Hs 3))
    (h6 : OwnCall 55 (rw 6) (Hs 6)) (h5 : OwnCall 56 (rw 5) (Hs 5)) (h4 : OwnCall 57 (rw 4) (Hs 4)) (h7 : OwnCall 58 (rw 7) (Hs 7)) (h9 : OwnCall 59 (rw 9) (Hs 9)) (h8 : OwnCall 60 (rw 8) (Hs 8)) (h10 : OwnCall 61 (rw 10) (Hs 10)) (h11 : OwnCall 62 (rw 11) (Hs 11)) :
    Tri P 22 #[.pointer (some ⟨b, 0, none⟩)] I ((b, Obj.cells (treeCells rw) 50 (0, 0)) :: (Hs 0 ++ (Hs 1 ++ (Hs 2 ++ (Hs 3 ++ (Hs 6 ++ (Hs 5 ++ (Hs 4 ++ (Hs 7 ++ (Hs 9 ++ (Hs 8 ++ (Hs 10 ++ (Hs 11 ++ F)))))))))))))
      fun e I' G => e = .returned (.bool true) ∧ G = F := by
  refine Tri.keep (Q := fun e I' G => e = .returned (.bool true) ∧ G = (b, Obj.cells (treeCells rw) 50 (0, 0)) :: F) ?_ fun e I' G w hl hs ⟨he, hG⟩ => ⟨I', F, Imm.le_refl _, by subst hG; exact hs.sub (List.sublist_cons_self _ _), he, rfl⟩
  refine ref00_Trees_Own.vc ?_
  unfold ref00_Trees_Own.V
  refine ⟨_, rfl, _, _, _, tree_rd (List.mem_cons_self ..) rfl, own_step h0 fun I1 g1 => ⟨_, rfl, _, .refl _, ?_⟩⟩
  refine ⟨_, rfl, _, _, _, tree_rd (List.mem_cons_self ..) rfl, own_step h1 fun I1 g1 => ⟨_, rfl, _, .refl _, ?_⟩⟩
  refine ⟨_, rfl, _, _, _, tree_rd (List.mem_cons_self ..) rfl, own_step h2 fun I1 g1 => ⟨_, rfl, _, .refl _, ?_⟩⟩
  refine ⟨_, rfl, _, _, _, tree_rd (List.mem_cons_self ..) rfl, own_step h3 fun I1 g1 => ⟨_, rfl, _, .refl _, ?_⟩⟩
  refine ⟨_, rfl, _, _, _, tree_rd (List.mem_cons_self ..) rfl, own_step h6 fun I1 g1 => ⟨_, rfl, _, .refl _, ?_⟩⟩
  refine ⟨_, rfl, _, _, _, tree_rd (List.mem_cons_self ..) rfl, own_step h5 fun I1 g1 => ⟨_, rfl, _, .refl _, ?_⟩⟩
  refine ⟨_, rfl, _, _, _, tree_rd (List.mem_cons_self ..) rfl, own_step h4 fun I1 g1 => ⟨_, rfl, _, .refl _, ?_⟩⟩
  refine ⟨_, rfl, _, _, _, tree_rd (List.mem_cons_self ..) rfl, own_step h7 fun I1 g1 => ⟨_, rfl, _, .refl _, ?_⟩⟩
  refine ⟨_, rfl, _, _, _, tree_rd (List.mem_cons_self ..) rfl, own_step h9 fun I1 g1 => ⟨_, rfl, _, .refl _, ?_⟩⟩
  refine ⟨_, rfl, _, _, _, tree_rd (List.mem_cons_self ..) rfl, own_step h8 fun I1 g1 => ⟨_, rfl, _, .refl _, ?_⟩⟩
  refine ⟨_, rfl, _, _, _, tree_rd (List.mem_cons_self ..) rfl, own_step h10 fun I1 g1 => ⟨_, rfl, _, .refl _, ?_⟩⟩
  refine ⟨_, rfl, _, _, _, tree_rd (List.mem_cons_self ..) rfl, own_step h11 fun I1 g1 => ⟨_, rfl, _, .refl _, ?_⟩⟩
  repeat (refine ⟨fun _ => ?_, fun h => by (cases h)⟩)
  exact ⟨rfl, rfl⟩
theorem ownWhole_nil : OwnCall 61 ⟨none, 0, 0⟩ [] := by
  intro I F
  refine ref00_ownWhole.vc (fun i m I0 F0 I' F' => i = 0 ∧ F' = F) (fun _ k m I0 F0 I' F' => False) (fun a n c i m I0 F0 I' F' => i = 0 ∧ F' = F) (fun _ _ _ _ _ _ _ _ _ _ _ _ _ => False)
    (fun _ _ _ x i m I0 F0 I' F' => i = 0 ∧ F' = F) (fun _ _ _ _ _ _ _ _ _ _ _ _ => False) (fun _ _ _ _ _ _ _ _ _ _ _ _ => False) ?_
  unfold ref00_ownWhole.V
  refine ⟨⟨0, rfl, rfl⟩, fun i m1 I1 F1 _ ⟨hi, hF⟩ => ?_⟩
  subst hi hF
  refine ⟨fun h => absurd h (by decide), fun _ => ⟨⟨0, rfl, rfl⟩, fun a n c i m7 I4 F4 _ ⟨hi, hF⟩ => ?_⟩⟩
  subst hi hF
  refine ⟨fun h => absurd h (by decide), fun _ => ⟨⟨0, rfl, rfl⟩, fun x i m I11 F9 _ ⟨hi, hF⟩ => ?_⟩⟩
  subst hi hF
  exact ⟨fun h => absurd h (by decide), fun _ => ⟨rfl, rfl⟩⟩
theorem RowsH.snoc {z e : Nat} : ∀ {rs : List Row} {ls : List (List (Ck z))} {H : Heap} {r : Row} {l : List (Ck z)} {A : Heap}, RowsH z e rs ls H → Acc z cv e r.a r.n r.c l A → RowsH z e (rs ++ [r]) (ls ++ [l]) (H ++ A)
  | [], [], H, r, l, A, h, hA => by
    have : H = [] := h
    subst this
    exact ⟨A, [], by simp, hA, rfl⟩
  | r0 :: rs, l0 :: ls, H, r, l, A, ⟨B, H', hH, hB, hR⟩, hA => by
    subst hH
    exact ⟨B, H' ++ A, by rw [List.append_assoc], hB, RowsH.snoc hR hA⟩
  | [], _ :: _, _, _, _, _, h, _ => h.elim
  | _ :: _, [], _, _, _, _, h, _ => h.elim
theorem Bd.snoc {z : Nat} {ls : List (List (Ck z))} (h : Bd ls) {l : List (Ck z)} (hl : l.length ≤ 1000000000) : Bd (ls ++ [l]) := by
  intro j l' hj
  rw [List.getElem?_append] at hj
  split at hj
  · exact h j l' hj
  · have := List.mem_of_getElem? hj
    rw [List.mem_singleton] at this
    rw [this]; exact hl
end Go.Lx
namespace Go.Lx
open Go.Vc
theorem rowsL_app : ∀ (l m : List Nd), Nd.rowsL (l ++ m) = Nd.rowsL l ++ Nd.rowsL m
  | [], m => rfl
  | x :: l, m => by rw [List.cons_append, Nd.rowsL, Nd.rowsL, rowsL_app l m, List.append_assoc]
theorem rowsL_take {l : List Nd} {i : Nat} {x : Nd} (h : l[i]? = some x) : Nd.rowsL (l.take (i + 1)) = Nd.rowsL (l.take i) ++ x.rows := by
  obtain ⟨hk, rfl⟩ := List.getElem?_eq_some_iff.1 h
  rw [List.take_succ_eq_append_getElem hk, rowsL_app, Nd.rowsL, Nd.rowsL, List.append_nil]
def upd (rw : Nat → Row) (j : Nat) (r : Row) : Nat → Row := fun k => if k = j then r else rw k
theorem upd_upd (rw : Nat → Row) (j : Nat) (r r' : Row) : upd (upd rw j r) j r' = upd rw j r' := by
  funext k; unfold upd; split <;> rfl
theorem upd_same (rw : Nat → Row) (j : Nat) (r : Row) : upd rw j r j = r := if_pos rfl
theorem TreesNode_spec : ∀ (t : Nd), t.px.size ≤ 1048576 → ∀ {rw : Nat → Row} {b : Nat} {rs : List Row} {Al R : Heap}, Acc 1 Row.enc 26 (rw 1).a (rw 1).n (rw 1).c rs Al → (rs.length : Int) + t.px.size ≤ 1000000000 → ∀ (I : Imm), NdOk I R t →
    Tri P 21 #[.pointer (some ⟨b, 0, none⟩), t.v] I ((b, Obj.cells (treeCells rw) 50 (0, 0)) :: (Al ++ R)) fun e I' G => e = .returned (.tuple #[]) ∧
      ∃ r' Al', Acc 1 Row.enc 26 r'.a r'.n r'.c (rs ++ t.rows) Al' ∧ G.Perm ((b, Obj.cells (treeCells (upd rw 1 r')) 50 (0, 0)) :: (Al' ++ R)) := by
  refine Nd.ind fun t ih hs rw b rs Al R hA hl I ht => ?_
  have hln := size_len hs
  have hsz : t.px.size = 1 + Px.sizeL (t.kids.map Nd.px) := by rw [Px.size_eq, Nd.px_kids]
  have hrl : ∀ i, (Nd.rowsL (t.kids.take i)).length + (0 : Int) ≤ Px.sizeL (t.kids.map Nd.px) := by
    have h1 : ∀ l : List Nd, ((Nd.rowsL l).length : Int) = Px.sizeL (l.map Nd.px) := by
      intro l
      induction l with
      | nil => rfl
      | cons x r ihl => rw [Nd.rowsL, List.map_cons, Px.sizeL, List.length_append, ← ihl, ← rows_len]; omega
    have h2 : ∀ l m : List Nd, Px.sizeL ((l ++ m).map Nd.px) = Px.sizeL (l.map Nd.px) + Px.sizeL (m.map Nd.px) := by
      intro l m
      rw [← h1, ← h1, ← h1, rowsL_app, List.length_append]; omega
    intro i
    have h3 := h2 (t.kids.take i) (t.kids.drop i)
    rw [List.take_append_drop] at h3
    have h4 := Px.sizeL_nonneg ((t.kids.drop i).map Nd.px)
    rw [h1]; omega
  refine ref00_Trees_Node.vc (fun i m I' F' => 0 ≤ i ∧ i ≤ t.kids.length ∧ m = (t.kids.length - i).toNat ∧ ∃ r' Al', Acc 1 Row.enc 26 r'.a r'.n r'.c (rs ++ (⟨t.a, t.kids.length, t.c⟩ :: Nd.rowsL (t.kids.take i.toNat))) Al' ∧
    F'.Perm ((b, Obj.cells (treeCells (upd rw 1 r')) 50 (0, 0)) :: (Al' ++ R))) ?_
  unfold ref00_Trees_Node.V
  intro b_x
  refine ⟨_, rfl, _, _, _, tree_rd (List.mem_cons_of_mem _ (List.mem_cons_self ..)) rfl, ?_⟩
  intro b1 I1 hI1 hb1
  refine TriE.perm (TriE.mono (append_spec' (f := Row.enc) (z := 1) (zv := .slice none 0 0) (fun _ => rfl) (by' := 24) (by kernel_rfl) (by kernel_rfl) rfl (by decide) hA (xs := [⟨t.a, t.kids.length, t.c⟩]) (fun x _ => rows_one x) (by simp) rfl ?_ ?_
    (F := (b_x, .cells #[.int .u8 t.kind, .int .u8 t.oper, .int .u8 t.typ, .int .i64 t.n, .int .u8 t.field, .string t.name, .slice t.a t.kids.length t.c, .int .i64 t.pos] 28 (0, 0)) :: (b, Obj.cells (treeCells rw) 50 (0, 0)) :: R)) fun v I2 G hI2 ⟨a', n', c', A', hv, hA', hG', _⟩ => ?_) (perm_of fun x => by simp only [cn_app, cn_cons]; omega)
  · exact ⟨rfl, _, _, _, .inl hb1, fun j hj => by simp [Row.enc]⟩
  · have := Px.size_pos t.px; simp only [List.length_cons, List.length_nil]; omega
  subst hG'
  refine ⟨_, _, _, hv, (b, Obj.cells (treeCells rw) 50 (0, 0)) :: (A' ++ R), perm_of fun x => by simp only [cn_app, cn_cons]; omega, _, rfl, (treeCells rw).toList, 50, A' ++ R, ?_, ?_, ?_, ⟨_, by omega, by omega, rfl, ⟨a', n', c'⟩, A', ?_, ?_⟩, ?_⟩
  · exact .refl _
  · rw [add_lit0]
  · rw [add_lit0]; exact (by decide : 1 + 1 ≤ 12)
  · exact hA'
  · rw [add_lit0]; exact .refl _
  intro i m I3 F3 hI3 ⟨g0, g1, gm, r', Al', hAc, hF⟩
  refine ⟨fun hlt => ?_, fun hlt => ⟨rfl, r', Al', ?_, hF⟩⟩
  · have hlt := of_decide_eq_true hlt
    have hle := Imm.le_trans hI1 (Imm.le_trans hI2 hI3)
    have ht3 : NdOk I3 F3 t := ht.mono hle fun x hx => hF.mem_iff.2 (List.mem_cons_of_mem _ (List.mem_append_right _ hx))
    obtain ⟨ad, x, had, hx, hrd, hxo, hxm⟩ := (ht3.cons (x := (b_x, .cells t.enc.toArray 28 (0, 0)))).kids.at g0 hlt
    have hlen := hrl (i.toNat + 1)
    rw [rowsL_take hx, List.length_append] at hlen
    have hxr := rows_len x
    refine ⟨⟨g0, hlt⟩, ad, had, _, _, _, _, _, _, _, _, _, _, hrd, Tri.perm ((ih x hxm (size_kid hxm hs) (rw := upd rw 1 r') (b := b) (rs := rs ++ (⟨t.a, t.kids.length, t.c⟩ :: Nd.rowsL (t.kids.take i.toNat))) (Al := Al') (R := (b_x, .cells #[.int .u8 t.kind, .int .u8 t.oper, .int .u8 t.typ, .int .i64 t.n, .int .u8 t.field, .string t.name, .slice t.a t.kids.length t.c, .int .i64 t.pos] 28 (0, 0)) :: R)
      (by rw [upd_same]; exact hAc) ?_ I3 ((ht.mono hle fun _ h => h).cons.kid x hxm)).mono fun e I4 G hI4 ⟨he, r2, Al2, hA2, hG⟩ => ?_) ?_⟩
    · rw [List.length_append, List.length_cons]; omega
    · subst he
      rw [upd_upd] at hG
      refine ⟨rfl, (b, Obj.cells (treeCells (upd rw 1 r2)) 50 (0, 0)) :: (Al2 ++ R), hG.trans (perm_of fun x => by simp only [cn_app, cn_cons]; omega), (t.kids.length - (i + 1)).toNat, by omega, ?_⟩
      rw [w64 (n := i + 1) (by omega)]
      refine ⟨by omega, by omega, rfl, r2, Al2, ?_, .refl _⟩
      rw [show (i + 1).toNat = i.toNat + 1 by omega, rowsL_take hx, ← List.cons_append, ← List.append_assoc]; exact hA2
    · exact perm_of fun x => by have := cn_perm hF x; simp only [cn_app, cn_cons] at this ⊢; omega
  · have hlt := of_decide_eq_false hlt
    rw [Nd.rows_eq]
    rw [List.take_of_length_le (l := t.kids) (i := i.toNat) (by omega)] at hAc
    exact hAc
end Go.Lx
namespace Go.Lx
open Go.Vc
mutual
def Nd.nodes : Nd → List Nd
  | .mk k o t n f s a c l q => .mk k o t n f s a c l q :: Nd.nodesL l
def Nd.nodesL : List Nd → List Nd
  | [] => []
  | x :: r => Nd.nodes x ++ Nd.nodesL r
end
theorem Nd.nodes_eq (t : Nd) : t.nodes = t :: Nd.nodesL t.kids := by cases t; rw [Nd.nodes]; rfl
theorem nodesL_app : ∀ (l m : List Nd), Nd.nodesL (l ++ m) = Nd.nodesL l ++ Nd.nodesL m
  | [], m => rfl
  | x :: l, m => by rw [List.cons_append, Nd.nodesL, Nd.nodesL, nodesL_app l m, List.append_assoc]
theorem nodesL_take {l : List Nd} {i : Nat} {x : Nd} (h : l[i]? = some x) : Nd.nodesL (l.take (i + 1)) = Nd.nodesL (l.take i) ++ x.nodes := by
  obtain ⟨hk, rfl⟩ := List.getElem?_eq_some_iff.1 h
  rw [List.take_succ_eq_append_getElem hk, nodesL_app, Nd.nodesL, Nd.nodesL, List.append_nil]
theorem nodes_px : ∀ t : Nd, t.nodes.map Nd.px = t.px.nodes := by
  have hL : ∀ l : List Nd, (∀ x ∈ l, (Nd.nodes x).map Nd.px = x.px.nodes) → (Nd.nodesL l).map Nd.px = Px.nodesL (l.map Nd.px) := by
    intro l
    induction l with
    | nil => intro _; rfl
    | cons x r ih =>
      intro h
      rw [Nd.nodesL, List.map_append, List.map_cons, Px.nodesL, h x (List.mem_cons_self ..), ih fun y hy => h y (List.mem_cons_of_mem _ hy)]
  refine Nd.ind fun t h => ?_
  rw [Nd.nodes_eq, Px.nodes_eq, List.map_cons, hL t.kids h, Nd.px_kids]
theorem nodes_len (t : Nd) : (t.nodes.length : Int) = t.px.size := by rw [← Px.nodes_len, ← nodes_px, List.length_map]
theorem NdOk.nodes {I : Imm} {G : Heap} : ∀ {t : Nd}, NdOk I G t → ∀ x ∈ t.nodes, NdOk I G x := by
  refine @(Nd.ind fun t ih h x hx => ?_)
  rw [Nd.nodes_eq] at hx
  rcases List.mem_cons.1 hx with rfl | hx
  · exact h
  · have hL : ∀ l : List Nd, (∀ k ∈ l, ∀ x ∈ k.nodes, NdOk I G x) → ∀ x ∈ Nd.nodesL l, NdOk I G x := by
      intro l
      induction l with
      | nil => intro _ x h; rw [Nd.nodesL] at h; cases h
      | cons y r ihl =>
        intro hk x h
        rw [Nd.nodesL] at h
        rcases List.mem_append.1 h with h | h
        · exact hk y (List.mem_cons_self ..) x h
        · exact ihl (fun k hk' => hk k (List.mem_cons_of_mem _ hk')) x h
    exact hL _ (fun k hk => ih k hk (h.kid k hk)) x hx
instance decBA : DecidableEq ByteArray := fun a b => decidable_of_iff (a.data = b.data) ⟨fun h => by cases a; cases b; simp_all, fun h => by rw [h]⟩
abbrev orBit (m f : Int) : Int := IntKind.wrap .u16 (BitVec.toNat ((BitVec.ofInt 16 m) ||| (BitVec.ofInt 16 (IntKind.wrap .u16 (1 * 2 ^ (min (Int.toNat f) 16))))) : Int)
def rdMask (m : Int) (x : Px) : Int := if (x.kind = 3 ∨ x.kind = 4) ∧ x.field < 16 then orBit m x.field else m
def hasS (l : List ByteArray) (s : ByteArray) : Bool := l.any fun y => decide (y = s)
def rdNames (l : List ByteArray) (x : Px) : List ByteArray := if x.kind = 2 ∧ hasS l x.name = false then l ++ [x.name] else l
def masks (l : List Px) : Int := l.foldl rdMask 0
def namesOf (l : List Px) : List ByteArray := l.foldl rdNames []
theorem append_str {a : Option Addr} {n c : Nat} {l : List ByteArray} {A : Heap} (hA : Acc 1 encS 9 a n c l A) (hl : l.length < 1000000000) (x : ByteArray) {b : Nat} {I : Imm} {F : Heap} {o : Obj} (ho : o = .cells #[.string x] 9 (0, 0)) (hb : I b = some o) :
    TriE P (Builtin.append_ #[54, 54] 54 #[.slice a n c, .slice (some ⟨b, 0, none⟩) 1 1]) I (A ++ F) fun v I' G => ∃ a' n' c' A', v = .slice a' n' c' ∧ Acc 1 encS 9 a' n' c' (l ++ [x]) A' ∧ G = A' ++ F := by
  subst ho
  refine TriE.mono (append_spec' (f := encS) (z := 1) (zv := .string ⟨#[]⟩) (fun _ => rfl) (by' := 16) (by kernel_rfl) (by kernel_rfl) rfl (by decide) hA (xs := [x]) (fun x _ u hu => by simp [encS] at hu; subst hu; rfl) (by simp) rfl ?_ ?_ (F := F)) fun v I2 G hI2 ⟨a', n', c', A', hv, hA', hG', _⟩ => ⟨a', n', c', A', hv, hA', hG'⟩
  · exact ⟨rfl, _, _, _, .inl hb, fun j hj => by simp [encS]⟩
  · simp only [List.length_cons, List.length_nil]; omega
theorem rdNames_len (l : List Px) (m : List ByteArray) : (l.foldl rdNames m).length ≤ m.length + l.length := by
  induction l generalizing m with
  | nil => simp
  | cons x l ih =>
    rw [List.foldl_cons]
    have h1 := ih (rdNames m x)
    have h2 : (rdNames m x).length ≤ m.length + 1 := by unfold rdNames; split <;> simp
    rw [List.length_cons]; omega
end Go.Lx
namespace Go.Lx
open Go.Vc
def Px.Fit (x : Px) : Prop := (0 ≤ x.kind ∧ x.kind ≤ 255) ∧ (0 ≤ x.oper ∧ x.oper ≤ 255) ∧ (0 ≤ x.typ ∧ x.typ ≤ 255) ∧ (-9223372036854775808 ≤ x.n ∧ x.n ≤ 9223372036854775807) ∧ (0 ≤ x.field ∧ x.field ≤ 255) ∧ (-9223372036854775808 ≤ x.pos ∧ x.pos ≤ 9223372036854775807)
def Px.Wf (x : Px) : Prop := ∀ y ∈ x.nodes, y.Fit
theorem Wf.nd {t : Nd} (h : t.px.Wf) : ∀ x ∈ t.nodes, x.px.Fit := fun x hx => h _ (by rw [← nodes_px]; exact List.mem_map_of_mem hx)
theorem mask_take {l : List Nd} {i : Nat} {x : Nd} (h : l[i]? = some x) : masks ((l.take (i + 1)).map Nd.px) = rdMask (masks ((l.take i).map Nd.px)) x.px := by
  obtain ⟨hk, rfl⟩ := List.getElem?_eq_some_iff.1 h
  unfold masks
  rw [List.take_succ_eq_append_getElem hk, List.map_append, List.foldl_append]; rfl
theorem names_take {l : List Nd} {i : Nat} {x : Nd} (h : l[i]? = some x) : namesOf ((l.take (i + 1)).map Nd.px) = rdNames (namesOf ((l.take i).map Nd.px)) x.px := by
  obtain ⟨hk, rfl⟩ := List.getElem?_eq_some_iff.1 h
  unfold namesOf
  rw [List.take_succ_eq_append_getElem hk, List.map_append, List.foldl_append]; rfl
theorem names_len (l : List Px) : (namesOf l).length ≤ l.length := by
  have := rdNames_len l []
  unfold namesOf; simpa using this
end Go.Lx
namespace Go.Vc
theorem splice_eq {α : Type} : ∀ (n : Nat) (vs cs : List α), n + vs.length ≤ cs.length → splice n vs cs = cs.take n ++ (vs ++ cs.drop (n + vs.length))
  | 0, [], [], _ => rfl
  | 0, v :: vs, [], h => by simp at h
  | n + 1, vs, [], h => by simp at h
  | n + 1, vs, c :: cs, h => by
    rw [splice, splice_eq n vs cs (by simp at h; omega), List.take_succ_cons, List.cons_append, show n + 1 + vs.length = n + vs.length + 1 by omega, List.drop_succ_cons]
  | 0, [], c :: cs, _ => by simp [splice]
  | 0, v :: vs, c :: cs, h => by
    rw [splice, splice_eq 0 vs cs (by simp at h; omega)]
    simp
theorem splice_len {α : Type} {n : Nat} {vs cs : List α} (h : n + vs.length ≤ cs.length) : (splice n vs cs).length = cs.length := by
  rw [splice_eq n vs cs h]; simp; omega
theorem splice_take {α : Type} {n : Nat} {vs cs : List α} (h : n + vs.length ≤ cs.length) : (splice n vs cs).take (n + vs.length) = cs.take n ++ vs := by
  rw [splice_eq n vs cs h, ← List.append_assoc]
  have : (cs.take n ++ vs).length = n + vs.length := by simp; omega
  rw [← this]; exact List.take_left
theorem make_spec {P : Program} {t e : TypeId} {z by' : Nat} {zv : Value} (ht : P.underlying t = some (.slice e)) (hi : (P.info? e).map (fun i => (i.zero, i.size, i.bytes)) = some (some zv, z, by')) {l c : Int} (h0 : 0 ≤ l) (hlc : l ≤ c) (hb : (by' : Int) * c ≤ 281474976710656) (hc : c ≤ 9223372036854775807) {I : Imm} {F : Heap} :
    TriE P (Instr.makeSlice t (.int .i64 l) (.int .i64 c)) I F fun v I' G => ∃ (b : Nat) (cs : List Value), v = .slice (some ⟨b, 0, none⟩) l.toNat c.toNat ∧ cs.length = c.toNat * z ∧ cs.toArray = madeCells zv.cells (c.toNat * z) ∧ I' = I ∧ G = (b, Obj.cells cs.toArray e (0, 0)) :: F := by
  intro w hw
  cases h : P.info? e with
  | none => rw [h] at hi; cases hi
  | some i =>
    rw [h] at hi
    simp only [Option.map_some, Option.some.injEq, Prod.mk.injEq] at hi
    have hr := run_make (P := P) w t e i zv ht h hi.1 .i64 .i64 l c h0 hlc (by rw [hi.2.2]; exact hb) hc
    rw [hi.2.1] at hr
    refine ⟨_, _, I, _, hr, Imm.le_refl I, hw.alloc _, w.heap.size, (madeCells zv.cells (c.toNat * z)).toList, rfl, ?_, by simp, rfl, by simp⟩
    simp [size_madeCells]
theorem slice0 (c z : Nat) (a : Option Addr) : (if c = Int.toNat 0 then a else Option.map (fun x : Addr => x.add (Int.toNat 0 * z)) a) = a := by
  split
  · rfl
  · cases a with
    | none => rfl
    | some x => show some (x.add (0 * z)) = some x; rw [Nat.zero_mul]; rfl
end Go.Vc
namespace Go.Lx
open Go.Vc
theorem lend_spec : ∀ (t : Nd), t.px.size ≤ 1048576 → ∀ (I : Imm) (F : Heap), NdOk I F t → Tri P 10 #[t.v] I F (Made 28 true t.px F) := by
  refine Nd.ind fun t ih hs I F ht => ?_
  have hln := size_len hs
  refine ref00_LendNode.vc (fun bx ra rn rc i m I0 F0 I' F' => 0 ≤ i ∧ i ≤ t.kids.length ∧ m = (t.kids.length - i).toNat ∧ ∃ (b : Nat) (cs : List Value) (ks : List Nd) (hs : Nat → Heap), ra = some ⟨b, 0, none⟩ ∧ rn = t.kids.length + 2 ∧ rc = t.kids.length + 2 ∧
    cs.length = (t.kids.length + 2) * 8 ∧ cs.take (i.toNat * 8) = ks.flatMap Nd.enc ∧ ks.map Nd.px = (t.kids.take i.toNat).map Nd.px ∧ (∀ (j : Nat) (k : Nd), ks[j]? = some k → OwnT 28 true k (hs j)) ∧ (ks.length : Int) = i ∧
    F'.Perm ((b, Obj.cells cs.toArray 28 (0, 0)) :: (flatH ks.length hs ++ F))) ?_
  unfold ref00_LendNode.V
  intro b_x b0
  have hw2 : IntKind.wrap .i64 ((t.kids.length : Int) + 2) = (t.kids.length : Int) + 2 := w64 (by omega)
  rw [hw2]
  refine TriE.mono (make_spec (e := 28) (z := 8) (by' := 72) (zv := zNd.v) (by kernel_rfl) (by kernel_rfl) (by omega) (Int.le_refl _) (by omega) (by omega)) fun v I1 G hI1 ⟨b, cs, hv, hcl, _, hI, hG⟩ => ?_
  subst hG
  have htn : ((t.kids.length : Int) + 2).toNat = t.kids.length + 2 := by omega
  rw [htn] at hv hcl
  refine ⟨_, _, _, hv, (b, .cells cs.toArray 28 (0, 0)) :: F, (perm_of fun z => by simp only [cn_app, cn_cons, cn_nil]; omega), ⟨_, by omega, by omega, rfl, b, cs, [], fun _ => [], rfl, rfl, rfl, hcl, by simp, by simp, fun j k h => by simp at h, rfl, .refl _⟩, ?_⟩
  intro i m I2 F2 hI2 ⟨g0, g1, gm, b', cs, ks, hh, hra, _, _, hcl, htk, hp, hk, hl, hF⟩
  simp only [Option.some.injEq, Addr.mk.injEq, and_true] at hra
  subst hra
  have hle := Imm.le_trans hI1 hI2
  refine ⟨fun hlt => ?_, fun hlt => ?_⟩
  · have hlt := of_decide_eq_true hlt
    have ht1 : NdOk I2 F2 t := ht.mono hle fun x hx => hF.mem_iff.2 (List.mem_cons_of_mem _ (List.mem_append_right _ hx))
    obtain ⟨ad, x, had, hx, hrd, hxo, hxm⟩ := (ht1.cons.cons (x := (b_x, Obj.cells #[.int .u8 t.kind, .int .u8 t.oper, .int .u8 t.typ, .int .i64 t.n, .int .u8 t.field, .string t.name, .slice t.a t.kids.length t.c, .int .i64 t.pos] 28 (0, 0))) (t := t)).kids.at g0 hlt
    refine ⟨⟨g0, hlt⟩, ad, had, _, _, _, _, _, _, _, _, _, _, hrd, (ih x hxm (size_kid hxm hs) I2 _ hxo).mono fun e I3 G hI3 ⟨t', H, he, hpx, hO, hG⟩ => ?_⟩
    subst he
    refine ⟨_, _, _, _, _, _, _, _, _, _, rfl, H ++ F2, hG.trans (perm_of fun z => by simp only [cn_app, cn_cons, cn_nil]; omega), ⟨g0, by omega⟩, _, rfl, cs, 28, H ++ (flatH ks.length hh ++ F), ?_, ?_, ?_, (t.kids.length - (i + 1)).toNat, by omega, ?_⟩
    all_goals rw [add_lit0]
    · exact (perm_of fun z => by have q0 := cn_perm hF z; simp only [cn_app, cn_cons, cn_nil] at q0 ⊢; omega)
    · show i.toNat * 8 + 8 ≤ cs.length
      omega
    · rw [w64 (n := i + 1) (by omega)]
      have hfit : i.toNat * 8 + t'.enc.length ≤ cs.length := by rw [Nd.enc_len]; omega
      refine ⟨by omega, by omega, rfl, b, splice (i.toNat * 8) t'.enc cs, ks ++ [t'], fun j => if j < ks.length then hh j else H, rfl, rfl, rfl, (splice_len hfit).trans hcl, ?_, ?_, fun j k hj => ?_, by rw [List.length_append]; simp; omega, ?_⟩
      · have := splice_take hfit
        rw [Nd.enc_len] at this
        rw [show (i + 1).toNat * 8 = i.toNat * 8 + 8 by omega, this, htk, List.flatMap_append]; simp
      · have := take_map_snoc (f := id) hx
        rw [List.map_id, List.map_id] at this
        rw [show (i + 1).toNat = i.toNat + 1 by omega, this, List.map_append, hp, List.map_singleton, hpx]; rfl
      · show OwnT _ _ k (if j < ks.length then hh j else H)
        rw [List.getElem?_append] at hj
        split at hj
        · rename_i hlt'; rw [if_pos hlt']; exact hk j k hj
        · rename_i hge
          have hj' := List.mem_of_getElem? hj
          rw [List.mem_singleton] at hj'
          rw [if_neg hge, hj']; exact hO
      · rw [List.length_append, List.length_singleton, flatH_last, if_neg (Nat.lt_irrefl _), flatH_congr (hs' := hh) fun j hj => if_pos hj]
        exact (List.Perm.of_eq rfl).trans ((perm_of fun z => by simp only [cn_app, cn_cons, cn_nil]; omega) : List.Perm ((b, Obj.cells (splice (i.toNat * 8) t'.enc cs).toArray 28 (0, 0)) :: (H ++ (flatH ks.length hh ++ F))) _)
  · have hlt := of_decide_eq_false hlt
    have hi : i = t.kids.length := by omega
    have hw1 : IntKind.wrap .i64 ((t.kids.length : Int) + 1) = (t.kids.length : Int) + 1 := w64 (by omega)
    rw [hw1]
    refine ⟨⟨by omega, by omega⟩, _, rfl, cs, 28, flatH ks.length hh ++ F, ?_, ?_, ?_, ⟨by omega, by omega⟩, _, rfl, cs.set (t.kids.length * 8 + 7) (.int .i64 (-771)), 28, flatH ks.length hh ++ F, ?_, ?_, ?_, ⟨by omega, by omega, by omega⟩, ?_⟩
    all_goals (try rw [add_add])
    all_goals (try rw [add_add])
    · exact hF
    · simp only [Int.toNat_natCast]; omega
    · simp only [Int.toNat_natCast]
      rw [splice_one _ _ _ (by omega)]
    · rw [List.length_set]; show ((t.kids.length : Int) + 1).toNat * 8 + 7 + 1 ≤ _; omega
    · have e1 : ((t.kids.length : Int) + 1).toNat * 8 + 7 = (t.kids.length + 1) * 8 + 7 := by omega
      dsimp only
      rw [slice0, e1, splice_one _ _ _ (by rw [List.length_set]; omega)]
      have hkl : ks.length = t.kids.length := by omega
      have hi8 : i.toNat * 8 = t.kids.length * 8 := by omega
      rw [hi8] at htk
      refine ⟨.mk t.kind t.oper t.typ t.n t.field t.name (some ⟨b, 0, none⟩) (t.kids.length + 2) ks t.pos, _, ?_, ?_, .mk (t := .mk t.kind t.oper t.typ t.n t.field t.name (some ⟨b, 0, none⟩) (t.kids.length + 2) ks t.pos)
        (A := [(b, Obj.cells ((cs.set (t.kids.length * 8 + 7) (.int .i64 (-771))).set ((t.kids.length + 1) * 8 + 7) (.int .i64 (-772))).toArray 28 (0, 0))]) ⟨rfl, .inr ⟨b, _, rfl, rfl, ?_, ?_, ?_⟩⟩ (fun _ => ⟨b, _, _, rfl, rfl, ?_, ?_, ?_⟩) hk, ?_⟩
      · show Ending.returned (.agg #[.int .u8 t.kind, .int .u8 t.oper, .int .u8 t.typ, .int .i64 t.n, .int .u8 t.field, .string t.name, .slice (some ⟨b, 0, none⟩) (t.kids.length - Int.toNat 0) (t.kids.length + 2 - Int.toNat 0), .int .i64 t.pos]) = .returned (.agg #[.int .u8 t.kind, .int .u8 t.oper, .int .u8 t.typ, .int .i64 t.n, .int .u8 t.field, .string t.name, .slice (some ⟨b, 0, none⟩) ks.length (t.kids.length + 2), .int .i64 t.pos])
        rw [hkl]; rfl
      · rw [Nd.px, Nd.pxs_map, hp, List.take_of_length_le (by omega), ← Nd.px_kids, ← Nd.px_kind, ← Nd.px_oper, ← Nd.px_typ, ← Nd.px_n, ← Nd.px_field, ← Nd.px_name, ← Nd.px_pos]; exact (Px.eta _).symm
      · simp [hcl]; rfl
      · show ks.length ≤ t.kids.length + 2; omega
      · show ((cs.set _ _).set _ _).take (ks.length * 8) = _
        rw [List.take_set_of_le (by omega), List.take_set_of_le (by omega), hkl]; exact htk
      · show t.kids.length + 2 = ks.length + 2; omega
      · show ((cs.set _ _).set _ _).toArray[ks.length * 8 + 7]? = _
        rw [hkl]
        simp only [List.getElem?_toArray]
        rw [List.getElem?_set_ne (by omega), List.getElem?_set_self (by omega)]
      · show ((cs.set _ _).set _ _).toArray[(ks.length + 1) * 8 + 7]? = _
        rw [hkl]
        simp only [List.getElem?_toArray]
        rw [List.getElem?_set_self (by rw [List.length_set]; omega)]
      · exact .refl _
end Go.Lx
namespace Go.Lx
open Go.Vc
theorem OwnT.inv {E : Nat} {R : Bool} {t : Nd} {H : Heap} (h : OwnT E R t H) : ∃ (A : Heap) (hs : Nat → Heap), H = A ++ flatH t.kids.length hs ∧ Acc 8 Nd.enc E t.a t.kids.length t.c t.kids A ∧ (R = true → TailOk t.kids.length t.a t.c A) ∧
    ∀ (i : Nat) (k : Nd), t.kids[i]? = some k → OwnT E R k (hs i) := by
  cases h with
  | mk h1 h2 h3 => exact ⟨_, _, rfl, h1, h2, h3⟩
theorem room_spec : ∀ (t : Nd), t.px.size ≤ 1048576 → ∀ (H : Heap) (I : Imm) (F : Heap), OwnT 28 true t H → (∀ x, x ∈ H → x ∈ F) → Tri P 50 #[t.v] I F (Ret (.bool true) F) := by
  refine Nd.ind fun t ih hs H I F hO hF => ?_
  have hln := size_len hs
  obtain ⟨A, hh, rfl, hA, hR, hk⟩ := hO.inv
  obtain ⟨b, cells, e, ha, hAe, hc, hm1, hm2⟩ := hR rfl
  subst hAe
  refine ref00_roomNode.vc (fun x i m I' F' => 0 ≤ i ∧ i ≤ t.kids.length ∧ m = (t.kids.length - i).toNat ∧ F' = F) ?_
  unfold ref00_roomNode.V
  intro b_x
  have hw2 : IntKind.wrap .i64 ((t.kids.length : Int) + 2) = (t.kids.length : Int) + 2 := w64 (by omega)
  have hw1 : IntKind.wrap .i64 ((t.kids.length : Int) + 1) = (t.kids.length : Int) + 1 := w64 (by omega)
  rw [hw2, hw1, slice0]
  have hmem : (b, Obj.cells cells e (0, 0)) ∈ (b_x, Obj.cells #[.int .u8 t.kind, .int .u8 t.oper, .int .u8 t.typ, .int .i64 t.n, .int .u8 t.field, .string t.name, .slice t.a t.kids.length t.c, .int .i64 t.pos] 28 (0, 0)) :: F := List.mem_cons_of_mem _ (hF _ (List.mem_append_left _ (List.mem_cons_self ..)))
  have hrd : ∀ (k : Nat) (v : Value), cells[k]? = some v → Rd I ((b_x, Obj.cells #[.int .u8 t.kind, .int .u8 t.oper, .int .u8 t.typ, .int .i64 t.n, .int .u8 t.field, .string t.name, .slice t.a t.kids.length t.c, .int .i64 t.pos] 28 (0, 0)) :: F) (⟨b, k, none⟩ : Addr) [v] := fun k v hv => Rd.of_own hmem k fun j hj => by
    have : j = 0 := by simpa using hj
    subst this
    rw [Nat.add_zero, hv]; rfl
  refine ⟨⟨by omega, by omega, by omega⟩, ⟨by omega, by omega⟩, _, ha, -771, ?_, fun h => absurd h (by decide), fun _ => ⟨⟨by omega, by omega⟩, _, ha, -772, ?_, fun h => absurd h (by decide), fun _ => ⟨⟨_, by omega, by omega, rfl, rfl⟩, fun x i m I1 F1 hI ⟨g0, g1, gm, hF1⟩ => ⟨fun hlt => ?_, fun hlt => ⟨rfl, hF1⟩⟩⟩⟩⟩
  · rw [add_add, Int.toNat_natCast]; exact hrd _ _ hm1
  · rw [add_add, show ((t.kids.length : Int) + 1).toNat * 8 + 7 = (t.kids.length + 1) * 8 + 7 by omega]; exact hrd _ _ hm2
  · have hlt := of_decide_eq_true hlt
    subst hF1
    have ht1 : NdOk I1 ((b_x, Obj.cells #[.int .u8 t.kind, .int .u8 t.oper, .int .u8 t.typ, .int .i64 t.n, .int .u8 t.field, .string t.name, .slice t.a t.kids.length t.c, .int .i64 t.pos] 28 (0, 0)) :: F1) t := hO.ok fun x hx => List.mem_cons_of_mem _ (hF x hx)
    obtain ⟨ad, x, had, hx, hrd, hxo, hxm⟩ := ht1.kids.at g0 hlt
    refine ⟨⟨g0, hlt⟩, ad, had, _, _, _, _, _, _, _, _, _, _, hrd, Tri.ret (ih x hxm (size_kid hxm hs) (hh i.toNat) I1 _ (hk _ _ hx) fun z hz => List.mem_cons_of_mem _ (hF z (List.mem_append_right _ (flatH_mem (by omega) hz)))) fun I2 hI2 => ⟨_, rfl, F1, .refl _, fun h => by (cases h), fun _ => ⟨(t.kids.length - (i + 1)).toNat, by omega, ?_⟩⟩⟩
    rw [w64 (n := i + 1) (by omega)]
    exact ⟨by omega, by omega, rfl, rfl⟩
theorem whole_spec {t u : Nd} (hs : t.px.size ≤ 1048576) (hsh : t.px.ShortP) (e : t.px = u.px) {H : Heap} {I : Imm} {F : Heap} (hO : OwnT 28 true t H) (hF : ∀ x, x ∈ H → x ∈ F) (hu : NdOk I F u) :
    Tri P 17 #[t.v, u.v] I F (Ret (.bool true) F) := by
  refine ref00_WholeNode.vc ?_
  unfold ref00_WholeNode.V
  intro b_x b_was
  have hF2 : ∀ x, x ∈ H → x ∈ (b_x, Obj.cells #[.int .u8 t.kind, .int .u8 t.oper, .int .u8 t.typ, .int .i64 t.n, .int .u8 t.field, .string t.name, .slice t.a t.kids.length t.c, .int .i64 t.pos] 28 (0, 0)) :: (b_was, Obj.cells #[.int .u8 u.kind, .int .u8 u.oper, .int .u8 u.typ, .int .i64 u.n, .int .u8 u.field, .string u.name, .slice u.a u.kids.length u.c, .int .i64 u.pos] 28 (0, 0)) :: F := fun x hx => List.mem_cons_of_mem _ (List.mem_cons_of_mem _ (hF x hx))
  exact Tri.ret (same_spec t hsh u I _ e (hO.ok hF2) hu.cons.cons) fun I1 hI1 => ⟨_, rfl, F, .refl _, fun _ => Tri.ret (room_spec t hs H I1 _ hO hF2) fun I2 hI2 => ⟨_, rfl, F, .refl _, rfl, rfl⟩, fun h => by (cases h)⟩
end Go.Lx
namespace Go.Vc
def RecTo : FrameMode → Value → FrameMode → Prop
  | .returning, v, u => v = .nilIface ∧ u = .returning
  | .panicking ({ v := x, recovered := false, goexit := false } :: older), v, u => v = x ∧ u = .panicking ({ v := x, recovered := true } :: older)
  | _, _, _ => False
theorem recTo_nil : RecTo .returning .nilIface .returning := ⟨rfl, rfl⟩
theorem recTo_one (v : Value) : RecTo (.panicking [{ v := v, recovered := false }]) v (.panicking [{ v := v, recovered := true }]) := ⟨rfl, rfl⟩
def recB (o : Oper) : Bool := match o.op, o.guard with
  | .call { callee := .builtin .recover, args := _, argTypes := _ }, none => true
  | _, _ => false
theorem RecTo.at {c : Frame} {cs : List Frame} {u u1 : FrameMode} {v : Value} (hu : c.mode = u) (h : RecTo u v u1) :
    recoverD (c :: cs) = some (v, { c with mode := u1 } :: cs) ∨ (recoverD (c :: cs) = none ∧ v = .nilIface ∧ { c with mode := u1 } :: cs = c :: cs) := by
  subst hu
  unfold RecTo at h
  split at h
  · rename_i hm
    obtain ⟨h1, h2⟩ := h
    refine .inr ⟨by simp [recoverD, hm], h1, ?_⟩
    subst h2
    rw [← hm]
  · rename_i hm
    obtain ⟨h1, h2⟩ := h
    subst h1 h2
    exact .inl (by simp [recoverD, hm])
  · exact h.elim
theorem wpSIn_rec {P : Program} {id : Nat} {ops : Array Oper} {o : Oper} {r : List Oper} {Q : Exit → Act → List Frame → World → Prop} {a : Act} {cs cs' : List Frame} {w : World} {v : Value} (hl : ops.toList = o :: r) (ho : recB o = true)
    (hrec : recoverD cs = some (v, cs') ∨ (recoverD cs = none ∧ v = .nilIface ∧ cs' = cs)) (h : wpListIn Fence.wide 0 P ops (fun e a' w' => Q e a' cs' w') r (a.put o.dst v) w) :
    (Code.region id ops false).wpSIn Fence.wide 0 P Q a cs w := by
  intro b k hb hr hF hroom
  have hsz : ops.size = r.length + 1 := by rw [← Array.length_toList, hl]; rfl
  have h0 : ops[0]? = some o := by rw [← Array.getElem?_toList, hl]; rfl
  have hrest : ∀ j, r[j]? = ops[1 + j]? := fun j => by rw [← Array.getElem?_toList, hl, Nat.add_comm]; rfl
  rw [← wpOpsIn_eq_wpListIn r 1 hrest] at h
  have hex : ∀ ci, o.op = .call ci → True := fun _ _ => trivial
  have hop : ∃ ci, o.op = .call ci ∧ ci.callee = .builtin .recover ∧ o.guard = none := by
    unfold recB at ho
    split at ho
    · rename_i h1 h2; exact ⟨_, h1, rfl, h2⟩
    · cases ho
  obtain ⟨ci, hci, hcal, hgd⟩ := hop
  have hw : Region.wanted o (yielded ops a.tmps) = true := by unfold Region.wanted; rw [hgd]
  have hrun : (execOp a.eval o).run P w = .ok .recover w := by
    obtain ⟨cal, args, tys⟩ := ci
    simp only at hcal
    subst hcal
    simp only [execOp, hci]
    rfl
  have hlen : cs'.length = cs.length := by
    rcases hrec with hrec | ⟨_, _, rfl⟩
    · exact recoverD_length hrec
    · rfl
  obtain ⟨e, a', w', q, harr⟩ := wp_opsIn _ _ _ h b k cs' (hr.trans rfl) hF (hlen ▸ hroom)
  refine ⟨e, a', cs', w', hlen, q, .of_steps (.one (fenced_calm hF hroom rfl) stepR_region) ?_⟩
  rw [List.range_eq_range', hsz, List.range'_succ]
  have hg := stepGR_op (P := P) (b := b) (k := k) (cs := cs) (w := w) (rest := List.range' (0 + 1) r.length) h0 hw
  rw [hr, Oper.semAt_none] at hg
  have hfin : ∀ v, (b.atR a (.inRegion ops (0 :: List.range' (0 + 1) r.length) :: k)).finish v = b.atR (a.put o.dst v) (.inRegion ops (List.range' (0 + 1) r.length) :: k) := by
    intro v; rw [Frame.finish_atR, h0]; rfl
  have hk : (b.atR a (.inRegion ops (0 :: List.range' (0 + 1) r.length) :: k)).kind = .deferred := hb
  have htr := tryRecover_deferred hk cs
  refine .of_steps (.one (fenced_oper hF hroom h0 fun f _ => trivial) (step_lone_go ?_)) harr
  rw [hg, ← hfin]
  simp only [Frame.atR, hr] at htr ⊢
  rcases hrec with hrec | ⟨hrec, rfl, rfl⟩
  · simp [stepG.apply, hrun, htr, hrec]
  · simp [stepG.apply, hrun, htr, hrec]
def kEndR (P : Program) (rs : List ResultVar) (keep : List Nat) (Q : Ending → Imm → Heap → Prop) (u : Option (List PanicEntry)) (σ : S) (I : Imm) (F : Heap) : Prop := match σ.df with
  | [] => match u with
    | none => (match resAll P σ rs with
      | some vs => Q (.returned (resVal vs)) I (blks (pick σ.own keep) ++ F)
      | none => False)
    | some ch => Q (.panicked ch) I (blks (pick σ.own keep) ++ F)
  | _ => False
def kBodyR (P : Program) (rs : List ResultVar) (keep : List Nat) (Q : Ending → Imm → Heap → Prop) : Kt
  | .normal, σ, I, F => kEndR P rs keep Q none σ I F
  | .ret, σ, I, F => kEndR P rs keep Q none σ I F
  | .panic ch, σ, I, F => kEndR P rs keep Q (some ch) σ I F
  | _, _, _, _ => False
def wRec (P : Program) (A : Ann) (v : Value) (rs : List ResultVar) (keep : List Nat) (Q : Ending → Imm → Heap → Prop) (σ : S) (I : Imm) (F : Heap) : Code → Prop
  | .seq (.region id ops false) rest => match ops.toList with
    | o :: r => cond (recB o) (wOps P A id ops r 1 (σ.put o.dst (some (.a (.v v)))) I F (W P A none rest 2 (kBodyR P rs keep Q)) (fun ch => kBodyR P rs keep Q (.panic ch))) False
    | [] => False
  | _ => False
section
variable {P : Program} {A : Ann}
theorem endR {fn : Func} {keep : List Nat} (hk : asc 0 keep = true) {Q : Ending → Imm → Heap → Prop} {c0 : Frame} {cs : List Frame} {u1 : FrameMode} {R : Ending → FrameMode → World → Prop} {I0 : Imm}
    (hR : ∀ e I' F' w', Imm.le I0 I' → Sat I' F' w' → Q e I' F' → R e u1 w') {e : Exit} {σ : S} {I : Imm} {F : Heap} {a : Act} {w : World} (hr : Rel σ I F a w) (hl : Imm.le I0 I)
    (h : kBodyR P fn.results.toList keep Q e σ I F) : bodyPostS P fn c0 cs R e a ({ c0 with mode := u1 } :: cs) w := by
  have hsub : Sat I (blks (pick σ.own keep) ++ F) w := by
    have h5 := pick_sub keep 0 σ.own hk
    rw [List.drop_zero] at h5
    exact hr.sat.sub ((h5.map _).append (List.Sublist.refl F))
  have key : ∀ u, kEndR P fn.results.toList keep Q u σ I F → a.defers = [] ∧ match u with
      | none => ∃ v, (results fn a.tmps).run P w = .ok v w ∧ Q (.returned v) I (blks (pick σ.own keep) ++ F)
      | some ch => Q (.panicked ch) I (blks (pick σ.own keep) ++ F) := by
    intro u h
    unfold kEndR at h
    split at h
    · rename_i hd
      refine ⟨by rw [hr.defers, hd]; rfl, ?_⟩
      cases u with
      | none =>
        simp only at h ⊢
        split at h
        · rename_i vs hvs; exact ⟨_, results_run hr hvs, h⟩
        · exact h.elim
      | some ch => exact h
    · exact h.elim
  cases e with
  | normal => obtain ⟨h1, v, h2, h3⟩ := key none h; exact ⟨h1, u1, rfl, v, h2, hR _ _ _ _ hl hsub h3⟩
  | ret => obtain ⟨h1, v, h2, h3⟩ := key none h; exact ⟨h1, u1, rfl, v, h2, hR _ _ _ _ hl hsub h3⟩
  | panic ch => obtain ⟨h1, h2⟩ := key (some ch) h; exact ⟨h1, u1, rfl, hR _ _ _ _ hl hsub h2⟩
  | exit id => exact h.elim
  | goto l => exact h.elim
  | outgrown => exact h.elim
theorem triD_of_W (hP : ∀ f, A.good f = true → Enters P f) {f : FuncId} {fn : Func} {c : Code} (hf : P.funcs[f]? = some fn) (hb : fn.body = some c) {args : List AV} {own : List Blk}
    {I : Imm} {F : Heap} {keep : List Nat} {Q : Ending → Imm → Heap → Prop} (hk : asc 0 keep = true) (hwa : ∀ x ∈ args, AV.wf own x) (hwo : ∀ b ∈ own, ∀ x ∈ b.cells, AV.wf own x) {u u1 : FrameMode} {v : Value} (hrec : RecTo u v u1)
    (h : wRec P A v fn.results.toList keep Q ⟨argTm args fn.ntmps, own, []⟩ I F c) {vs : List Value} (hv : vs = args.map AV.g) : TriD P f vs u I (blks own ++ F) fun e u' I' G => u' = u1 ∧ Q e I' G := by
  subst hv
  intro w hw
  unfold wRec at h
  split at h
  · rename_i id ops rest
    split at h
    · rename_i o r hl
      obtain ⟨ho, h⟩ := cond_out h
      refine callsDIn_of_wpSIn hf hb trivial fun c0 cs hu => ?_
      refine wpSIn_seq (wpSIn_rec hl ho (RecTo.at hu hrec) ?_)
      have hrel : Rel ⟨argTm args fn.ntmps, own, []⟩ I F { tmps := (args.map AV.g).toArray ++ Array.replicate (fn.ntmps - (args.map AV.g).toArray.size) undef, defers := [] } w := by
        refine ⟨by simp [argTm], ?_, rfl, ?_, ?_, hw⟩
        · intro t av ht
          simp only [argTm, List.getElem?_append] at ht
          split at ht
          · rename_i hlt
            simp only [List.getElem?_map] at ht
            cases ha : args[t]? with
            | none => rw [ha] at ht; simp at ht
            | some x =>
              rw [ha] at ht
              simp only [Option.map_some, Option.some.injEq] at ht
              subst ht
              simp at hlt
              rw [Array.getElem?_append_left (by simpa using hlt)]
              simp [ha]
          · rw [List.getElem?_replicate] at ht; split at ht <;> cases ht
        · intro t av ht
          simp only [argTm, List.getElem?_append] at ht
          split at ht
          · simp only [List.getElem?_map] at ht
            cases ha : args[t]? with
            | none => rw [ha] at ht; simp at ht
            | some x =>
              rw [ha] at ht
              simp only [Option.map_some, Option.some.injEq] at ht
              subst ht
              exact hwa _ (List.mem_of_getElem? ha)
          · rw [List.getElem?_replicate] at ht; split at ht <;> cases ht
        · exact fun i b hb' x hx => hwo b (List.mem_of_getElem? hb') x hx
      have hrel2 := hrel.put o.dst (av := .a (.v v)) (v := v) rfl trivial
      refine wOps_sound (ro := none) hP r 1 _ I F _ w (.inl rfl) h hrel2 ?_ ?_
      · intro σ' I' F' a' w' h1 h2 h3 _
        refine wpSIn_of_wpIn rfl (wpIn_mono (W_sound hP rest 2 _ none none σ' I' F' a' w' rfl h3 h1) ?_)
        intro e a2 w2 ⟨σ2, I2, F2, g1, g2, g3, _⟩
        exact endR (fn := fn) hk (fun e I3 F3 w3 hl3 hs3 hq3 => ⟨I3, F3, hl3, hs3, rfl, hq3⟩) g1 (Imm.le_trans h2 g2) g3
      · intro ch σ' I' F' a' w' h1 h2 h3 _
        show bodyPostS P fn c0 cs (fun e u' w' => ∃ I' F', I.le I' ∧ Sat I' F' w' ∧ u' = u1 ∧ Q e I' F') (.panic ch) a' _ w'
        exact endR (fn := fn) hk (e := .panic ch) (fun e I3 F3 w3 hl3 hs3 hq3 => ⟨I3, F3, hl3, hs3, rfl, hq3⟩) h1 h2 h3
    · exact h.elim
  · exact h.elim
theorem triD_of_V {f : FuncId} {fn : Func} {args : List AV} {own : List Blk} {I : Imm} {F : Heap} {keep : List Nat} {Q : PostQ} {V : Prop} {u u1 : FrameMode} {v : Value} (gd : List Nat) (hf : P.funcs[f]? = some fn) (hrec : RecTo u v u1) (h : V)
    (e : wRec P A v fn.results.toList keep Q ⟨argTm args fn.ntmps, own, []⟩ I F (fn.body.getD .skip) = V) (hg : A.good = memB gd) (hG : gd.all (goodB P) = true) (hb : fn.body = some (fn.body.getD .skip)) (hk : asc 0 keep = true)
    (hwa : ∀ x ∈ args, AV.wf own x) (hwo : ∀ b ∈ own, ∀ x ∈ b.cells, AV.wf own x) {vs : List Value} (hv : vs = args.map AV.g) : TriD P f vs u I (blks own ++ F) fun e u' I' G => u' = u1 ∧ Q e I' G :=
  triD_of_W (fun f hf' => hP_of gd hG f (by rw [← hg]; exact hf')) hf hb hk hwa hwo hrec (by rw [← e] at h; exact h) hv
end
end Go.Vc
namespace Go.Lx
open Go.Vc
def shT_t6 : List (Nat × List Sh) := []
set_option maxRecDepth 100000 in
def tree_caught_1_none.V (b_c : Nat) (c : Int) (I : Imm) (F : Heap) (Q : PostQ)  : Prop := ∀ b_x : Nat, Q (.returned (Value.tuple #[])) I ((b_c, Obj.cells #[Value.int .i64 c] 32 (0, 0)) :: F)
set_option maxRecDepth 100000 in
theorem tree_caught_1_none.vc {b_c : Nat} {c : Int} {u u1 : FrameMode} (hrec : RecTo u (Value.nilIface) u1) {I : Imm} {F : Heap} {Q : PostQ}  (h : tree_caught_1_none.V b_c c I F Q) : TriD P 84 [Value.pointer (some ⟨b_c, 0, none⟩)] u I ((b_c, Obj.cells #[Value.int .i64 c] 32 (0, 0)) :: F) (fun e u' I' G => u' = u1 ∧ Q e I' G) :=
  triD_of_V (A := (annL [] [] [] shT_t6 [] [] [] [] [] [] [])) (args := [.a (.p 0 b_c 0)]) (own := [⟨b_c, 32, false, [.a (.v (Value.int .i64 c))]⟩]) (keep := [0]) [] Go.Proofs.Try.func84 hrec h (by kernel_rfl) (by kernel_rfl) (by kernel_rfl) (by kernel_rfl) (by kernel_rfl) (by simp [AV.wf, At.wf]) (by simp [AV.wf, At.wf]) rfl
set_option maxRecDepth 100000 in
def tree_caught_1_some.V (b_c : Nat) (c err : Int) (I : Imm) (F : Heap) (Q : PostQ)  : Prop := ∀ b_x : Nat, Q (.returned (Value.tuple #[])) I ((b_c, Obj.cells #[Value.int .i64 err] 32 (0, 0)) :: F)
set_option maxRecDepth 100000 in
theorem tree_caught_1_some.vc {b_c : Nat} {c err : Int} {u u1 : FrameMode} (hrec : RecTo u (Value.iface 137 (Value.agg #[Value.int .i64 err])) u1) {I : Imm} {F : Heap} {Q : PostQ}  (h : tree_caught_1_some.V b_c c err I F Q) : TriD P 84 [Value.pointer (some ⟨b_c, 0, none⟩)] u I ((b_c, Obj.cells #[Value.int .i64 c] 32 (0, 0)) :: F) (fun e u' I' G => u' = u1 ∧ Q e I' G) :=
  triD_of_V (A := (annL [] [] [] shT_t6 [] [] [] [] [] [] [])) (args := [.a (.p 0 b_c 0)]) (own := [⟨b_c, 32, false, [.a (.v (Value.int .i64 c))]⟩]) (keep := [0]) [] Go.Proofs.Try.func84 hrec h (by kernel_rfl) (by kernel_rfl) (by kernel_rfl) (by kernel_rfl) (by kernel_rfl) (by simp [AV.wf, At.wf]) (by simp [AV.wf, At.wf]) rfl
end Go.Lx
namespace Go.Vc
theorem TriV.fn {P : Program} {f : FuncId} {fr cap : Array Value} {args : List Value} {I : Imm} {F : Heap} {Q : Ending → Imm → Heap → Prop} (he : Enters P f) {vs : Array Value} (hv : fr ++ args.toArray ++ cap = vs) (h : Tri P f vs I F Q) : TriV P (.func (.func f) fr cap) args I F Q :=
  fun w hw => .inl ⟨f, fr, cap, rfl, he, by rw [hv]; exact h w hw⟩
theorem TriD.mono {P : Program} {f : FuncId} {args : List Value} {u : FrameMode} {I : Imm} {F : Heap} {Q Q' : Ending → FrameMode → Imm → Heap → Prop} (h : TriD P f args u I F Q) (k : ∀ e u' I' G, Imm.le I I' → Q e u' I' G → Q' e u' I' G) : TriD P f args u I F Q' :=
  fun w hw => (h w hw).mono fun e u' w' ⟨I', F', h1, h2, h3⟩ => ⟨I', F', h1, h2, k _ _ _ _ h1 h3⟩
theorem TriD.perm {P : Program} {f : FuncId} {args : List Value} {u : FrameMode} {I : Imm} {F G : Heap} {Q : Ending → FrameMode → Imm → Heap → Prop} (h : TriD P f args u I F Q) (p : G.Perm F) : TriD P f args u I G Q := fun w hw => h w (hw.perm p)
end Go.Vc
namespace Go.Lx
open Go.Vc
abbrev errOf (n : Int) : Ending := if n = 0 then .returned (.tuple #[]) else .panicked (wrongP n)
theorem caught_spec {look : Fn} {lf lc : Array Value} {n : Int} {I : Imm} {F : Heap} (h : ∀ b : Nat, TriV P (.func look lf lc) [] I ((b, .cells #[.int .i64 0] 32 (0, 0)) :: F) fun e I' G => e = errOf n ∧ G = (b, .cells #[.int .i64 0] 32 (0, 0)) :: F) :
    Tri P 39 #[.func look lf lc] I F (Ret (.int .i64 n) F) := by
  refine tree_caught.vc ?_
  unfold tree_caught.V
  intro b_e
  refine (h b_e).mono fun e I1 G hI1 ⟨he, hG⟩ => ?_
  subst hG
  by_cases hn : n = 0
  · subst hn
    refine .inl ⟨he, F, .refl _, (tree_caught_1_none.vc recTo_nil (Q := fun e I' G => e = .returned (.tuple #[]) ∧ G = (b_e, .cells #[.int .i64 0] 32 (0, 0)) :: F) fun b_x => ⟨rfl, rfl⟩).mono fun e u I2 G _ ⟨hu, he, hG⟩ => ?_⟩
    subst hu
    exact ⟨_, he, 0, F, by rw [hG], .inl ⟨rfl, rfl, rfl⟩⟩
  · rw [errOf, if_neg hn] at he
    refine .inr ⟨_, he, F, .refl _, (tree_caught_1_some.vc (recTo_one _) (Q := fun e I' G => e = .returned (.tuple #[]) ∧ G = (b_e, .cells #[.int .i64 n] 32 (0, 0)) :: F) fun b_x => ⟨rfl, rfl⟩).mono fun e u I2 G _ ⟨hu, he, hG⟩ => ?_⟩
    subst hu
    exact ⟨_, he, n, F, by rw [hG], .inl ⟨rfl, rfl, rfl⟩⟩
theorem enters_ce1 : Enters P 40 := hP_of [40] (by kernel_rfl) _ (by decide)
theorem enters_le1 : Enters P 42 := hP_of [42] (by kernel_rfl) _ (by decide)
theorem enters_de1 : Enters P 45 := hP_of [45] (by kernel_rfl) _ (by decide)
theorem nd_rd {b : Nat} {t : Nd} {I : Imm} {G : Heap} (h : (b, Obj.cells #[.int .u8 t.kind, .int .u8 t.oper, .int .u8 t.typ, .int .i64 t.n, .int .u8 t.field, .string t.name, .slice t.a t.kids.length t.c, .int .i64 t.pos] 28 (0, 0)) ∈ G) : Rd I G (⟨b, 0, none⟩ : Addr) t.enc := Rd.of_own h 0 fun j hj => by simp
theorem checkExpr_spec (t : Nd) (hs : t.px.size ≤ 1048576) (I : Imm) (F : Heap) (ht : NdOk I F t) : Tri P 11 #[t.v] I F (Ret (.int .i64 t.px.checkE) F) := by
  refine tree_CheckExpr.vc ?_
  unfold tree_CheckExpr.V
  intro b_n
  refine (caught_spec (n := t.px.checkE) fun b => TriV.fn enters_ce1 (by simp) (check1_spec hs (ht.cons.cons) (nd_rd (List.mem_cons_of_mem _ (List.mem_cons_self ..))))).mono fun e I1 G hI1 ⟨he, hG⟩ => ?_
  subst hG
  exact ⟨_, he, _, _, _, _, _, _, _, _, _, _, F, .refl _, rfl, rfl⟩
def Px.levelE (x : Px) : Int := if x.formed then x.level else 0
def Px.depthE (x : Px) : Int := if x.formed then x.depth else 0
theorem Level_spec (t : Nd) (hs : t.px.size ≤ 1048576) (I : Imm) (F : Heap) (ht : NdOk I F t) : Tri P 12 #[t.v] I F (Ret (.int .i64 t.px.levelE) F) := by
  refine tree_Level.vc ?_
  unfold tree_Level.V
  intro b_n
  refine (caught_spec (n := if t.px.formed then 0 else 120) fun b => TriV.fn enters_le1 (by simp) ((level1_spec hs (ht.cons.cons) (nd_rd (List.mem_cons_of_mem _ (List.mem_cons_self ..)))).mono fun e I' G _ ⟨he, hG⟩ => ⟨by rw [he]; cases t.px.formed <;> rfl, hG⟩)).mono fun e I1 G hI1 ⟨he, hG⟩ => ?_
  subst hG
  refine ⟨_, he, _, _, _, _, _, _, _, _, _, _, F, .refl _, fun h => ?_, fun h => Tri.ret (tlevel_spec t I1 _) fun I2 _ => ⟨_, rfl, F, .refl _, ?_⟩⟩
  · unfold Px.levelE
    cases hf : t.px.formed with
    | true => rw [hf] at h; simp at h
    | false => exact ⟨rfl, rfl⟩
  · unfold Px.levelE
    cases hf : t.px.formed with
    | true => exact ⟨rfl, rfl⟩
    | false => rw [hf] at h; simp at h
theorem Depth_spec (t : Nd) (hs : t.px.size ≤ 1048576) (I : Imm) (F : Heap) (ht : NdOk I F t) : Tri P 13 #[t.v] I F (Ret (.int .i64 t.px.depthE) F) := by
  refine tree_Depth.vc ?_
  unfold tree_Depth.V
  intro b_n
  refine (caught_spec (n := if t.px.formed then 0 else 120) fun b => TriV.fn enters_de1 (by simp) ((depth1_spec hs (ht.cons.cons) (nd_rd (List.mem_cons_of_mem _ (List.mem_cons_self ..)))).mono fun e I' G _ ⟨he, hG⟩ => ⟨by rw [he]; cases t.px.formed <;> rfl, hG⟩)).mono fun e I1 G hI1 ⟨he, hG⟩ => ?_
  subst hG
  have hf : ∀ (h : (((if t.px.formed = true then (0 : Int) else 120) != 0) = false)), t.px.formed = true := fun h => by
    cases hf : t.px.formed with
    | true => rfl
    | false => rw [hf] at h; simp at h
  refine ⟨_, he, _, _, _, _, _, _, _, _, _, _, F, .refl _, fun h => ?_, fun h => Tri.ret (tdepth_spec t hs (hf h) I1 _ (ht.mono hI1 fun _ h => h).cons) fun I2 _ => ⟨_, rfl, F, .refl _, ?_⟩⟩
  · unfold Px.depthE
    cases hf : t.px.formed with
    | true => rw [hf] at h; simp at h
    | false => exact ⟨rfl, rfl⟩
  · unfold Px.depthE
    rw [hf h]; exact ⟨rfl, rfl⟩
end Go.Lx
namespace Go.Lx
open Go.Vc
def shT_t3 : List (Nat × List Sh) := [(3, [.one (.int .i64)]), (4, [.one .bool]), (26, [.one .slc]), (28, [.agg [(.int .u8), (.int .u8), (.int .u8), (.int .i64), (.int .u8), .str, .slc, (.int .i64)]]), (30, [.one .fn]), (54, [.one .slc]), (74, [.one .fn]), (113, [.one .map])]
set_option maxRecDepth 100000 in
def tree_All.V (vb : Int → Value) (n_0 n_1 n_2 n_3 n_4 : Int) (n_5 : ByteArray) (n_6_a : Option Addr) (n_6_n n_6_c : Nat) (n_7 : Int) (I : Imm) (F : Heap) (Q : PostQ)  : Prop := ∀ b_n : Nat, Q (.returned (Value.func (.func 77) #[] #[Value.pointer (some (⟨b_n, 0, none⟩ : Addr))])) I (((b_n, Obj.cells #[vb n_0, vb n_1, vb n_2, Value.int .i64 n_3, vb n_4, Value.string n_5, Value.slice n_6_a n_6_n n_6_c, Value.int .i64 n_7] 28 (0, 0)) :: F))
set_option maxRecDepth 100000 in
theorem tree_All.vc {n_0 n_1 n_2 n_3 n_4 : Int} {n_5 : ByteArray} {n_6_a : Option Addr} {n_6_n n_6_c : Nat} {n_7 : Int} {I : Imm} {F : Heap} {Q : PostQ}  (h : tree_All.V (.int .u8) n_0 n_1 n_2 n_3 n_4 n_5 n_6_a n_6_n n_6_c n_7 I F Q) : Tri P 33 #[Value.agg #[Value.int .u8 n_0, Value.int .u8 n_1, Value.int .u8 n_2, Value.int .i64 n_3, Value.int .u8 n_4, Value.string n_5, Value.slice n_6_a n_6_n n_6_c, Value.int .i64 n_7]] I (F) Q :=
  tri_of_V (A := (annL [] [] [] shT_t3 [] [] [0] [] [] [] [])) (args := [.a (.v (Value.agg #[Value.int .u8 n_0, Value.int .u8 n_1, Value.int .u8 n_2, Value.int .i64 n_3, Value.int .u8 n_4, Value.string n_5, Value.slice n_6_a n_6_n n_6_c, Value.int .i64 n_7]))]) (own := []) (keep := []) [] Go.Proofs.Try.func33 h (by kernel_rfl) (by kernel_rfl) (by kernel_rfl) (by kernel_rfl) (by kernel_rfl) (by simp [AV.wf, At.wf]) (by simp [AV.wf, At.wf]) rfl
set_option maxRecDepth 100000 in
def tree_All_1.V (vb vi : Int → Value) (vp : Option Addr → Value) (yield : Fn) (yield_f yield_c : Array Value) (c : Addr) (I : Imm) (F : Heap) (Q : PostQ)  : Prop := ∀ b_yield : Nat, ∀ b_down : Nat, ∃ (cs : List Value) (el : Nat) (F1 : Heap), List.Perm ((b_down, Obj.cells #[Value.nilFunc] 30 (0, 0)) :: ((b_yield, Obj.cells #[Value.func yield yield_f yield_c] 30 (0, 0)) :: F)) (((⟨b_down, 0, none⟩ : Addr).block, Obj.cells cs.toArray el (0, 0)) :: F1) ∧ (⟨b_down, 0, none⟩ : Addr).spot = none ∧ (⟨b_down, 0, none⟩ : Addr).off + 1 ≤ cs.length ∧ ∃ (m : Fn) (m_f m_c : Array Value), Rd I ((((⟨b_down, 0, none⟩ : Addr).block, Obj.cells (splice (⟨b_down, 0, none⟩ : Addr).off [Value.func (.func 78) #[] #[vp (some (⟨b_yield, 0, none⟩ : Addr)), vp (some (⟨b_down, 0, none⟩ : Addr))]] cs).toArray el (0, 0)) :: F1)) (⟨b_down, 0, none⟩ : Addr) [Value.func m m_f m_c] ∧ ∃ (m_0 m_1 m_2 m_3 m_4 : Int) (m_5 : ByteArray) (m_6_a : Option Addr) (m_6_n m_6_c : Nat) (m_7 : Int), Rd I ((((⟨b_down, 0, none⟩ : Addr).block, Obj.cells (splice (⟨b_down, 0, none⟩ : Addr).off [Value.func (.func 78) #[] #[vp (some (⟨b_yield, 0, none⟩ : Addr)), vp (some (⟨b_down, 0, none⟩ : Addr))]] cs).toArray el (0, 0)) :: F1)) c [vb m_0, vb m_1, vb m_2, vi m_3, vb m_4, Value.string m_5, Value.slice m_6_a m_6_n m_6_c, vi m_7] ∧ TriV P (Value.func m m_f m_c) [Value.agg #[vb m_0, vb m_1, vb m_2, vi m_3, vb m_4, Value.string m_5, Value.slice m_6_a m_6_n m_6_c, vi m_7]] I ((((⟨b_down, 0, none⟩ : Addr).block, Obj.cells (splice (⟨b_down, 0, none⟩ : Addr).off [Value.func (.func 78) #[] #[vp (some (⟨b_yield, 0, none⟩ : Addr)), vp (some (⟨b_down, 0, none⟩ : Addr))]] cs).toArray el (0, 0)) :: F1)) fun e1 I1 G1 => ∃ (r : Bool), e1 = .returned (Value.bool r) ∧ ∃ F2 : Heap, List.Perm G1 (F2) ∧ Q (.returned (Value.tuple #[])) I1 (F2)
set_option maxRecDepth 100000 in
theorem tree_All_1.vc {yield : Fn} {yield_f yield_c : Array Value} {c : Addr} {I : Imm} {F : Heap} {Q : PostQ}  (h : tree_All_1.V (.int .u8) (.int .i64) .pointer yield yield_f yield_c c I F Q) : Tri P 77 #[Value.func yield yield_f yield_c, Value.pointer (some c)] I (F) Q :=
  tri_of_V (A := (annL [] [] [] shT_t3 [] [] [0, 1000] [] [3002] [] [])) (args := [.a (.v (Value.func yield yield_f yield_c)), .a (.v (Value.pointer (some c)))]) (own := []) (keep := []) [] Go.Proofs.Try.func77 h (by kernel_rfl) (by kernel_rfl) (by kernel_rfl) (by kernel_rfl) (by kernel_rfl) (by simp [AV.wf, At.wf]) (by simp [AV.wf, At.wf]) rfl
set_option maxRecDepth 100000 in
def tree_All_1_1.V (c_n : Nat → Nat × Obj) (nV : Int → Int → Int → Int → Int → ByteArray → Option Addr → Nat → Nat → Int → Value) (nL : Int → Int → Int → Int → Int → ByteArray → Option Addr → Nat → Nat → Int → List Value) (vb : Int → Value) (vt : Bool → Value) (n_0 n_1 n_2 n_3 n_4 : Int) (n_5 : ByteArray) (n_6_a : Option Addr) (n_6_n n_6_c : Nat) (n_7 : Int) (c c1 : Addr) (I : Imm) (F : Heap) (Q : PostQ) (Inv14 : Option Addr → Bool → Int → Nat → Imm → Heap → Imm → Heap → Prop) : Prop := ∀ b_n : Nat, ∃ (m : Fn) (m_f m_c : Array Value), Rd I (((c_n b_n) :: F)) c [Value.func m m_f m_c] ∧ ∃ (m_0 m_1 m_2 m_3 m_4 : Int) (m_5 : ByteArray) (m_6_a : Option Addr) (m_6_n m_6_c : Nat) (m_7 : Int), Rd I (((c_n b_n) :: F)) (⟨b_n, 0, none⟩ : Addr) (nL m_0 m_1 m_2 m_3 m_4 m_5 m_6_a m_6_n m_6_c m_7) ∧ TriV P (Value.func m m_f m_c) [nV m_0 m_1 m_2 m_3 m_4 m_5 m_6_a m_6_n m_6_c m_7] I (((c_n b_n) :: F)) fun e1 I1 G1 => ∃ (r : Bool), e1 = .returned (vt r) ∧ ∃ F1 : Heap, List.Perm G1 (F1) ∧ (((!r) = true → Q (.returned (vt false)) I1 (F1)) ∧ ((!r) = false → ∃ (m_a : Option Addr) (m_n m_c1 : Nat), Rd I1 (F1) ((⟨b_n, 0, none⟩ : Addr).add 6) [Value.slice m_a m_n m_c1] ∧ (∃ m1 : Nat, Inv14 (some (⟨b_n, 0, none⟩ : Addr)) false 0 m1 I1 F1 I1 F1) ∧ ∀ (x : Bool) (x1 : Int) (m2 : Nat) (I2 : Imm) (F2 : Heap), Imm.le I1 I2 → Inv14 (some (⟨b_n, 0, none⟩ : Addr)) x x1 m2 I1 F1 I2 F2 → ((decide (x1 < ((m_n : Nat) : Int)) = true → ((0 ≤ x1 ∧ x1 < (m_n : Int)) ∧ ∃ ad : Addr, m_a = some ad ∧ ∃ (m_01 m_11 m_21 m_31 m_41 : Int) (m_51 : ByteArray) (m_6_a1 : Option Addr) (m_6_n1 m_6_c1 : Nat) (m_71 : Int), Rd I2 (F2) (ad.add (Int.toNat (x1) * 8)) (nL m_01 m_11 m_21 m_31 m_41 m_51 m_6_a1 m_6_n1 m_6_c1 m_71) ∧ ∀ b_k : Nat, ∃ (cs : List Value) (el : Nat) (F3 : Heap), List.Perm ((b_k, Obj.cells #[vb 0, vb 0, vb 0, Value.int .i64 0, vb 0, Value.string (⟨#[]⟩ : ByteArray), Value.slice none 0 0, Value.int .i64 0] 28 (0, 0)) :: F2) (((⟨b_k, 0, none⟩ : Addr).block, Obj.cells cs.toArray el (0, 0)) :: F3) ∧ (⟨b_k, 0, none⟩ : Addr).spot = none ∧ (⟨b_k, 0, none⟩ : Addr).off + 8 ≤ cs.length ∧ ∃ (m3 : Fn) (m_f1 m_c2 : Array Value), Rd I2 ((((⟨b_k, 0, none⟩ : Addr).block, Obj.cells (splice (⟨b_k, 0, none⟩ : Addr).off (nL m_01 m_11 m_21 m_31 m_41 m_51 m_6_a1 m_6_n1 m_6_c1 m_71) cs).toArray el (0, 0)) :: F3)) c1 [Value.func m3 m_f1 m_c2] ∧ ∃ (m_02 m_12 m_22 m_32 m_42 : Int) (m_52 : ByteArray) (m_6_a2 : Option Addr) (m_6_n2 m_6_c2 : Nat) (m_72 : Int), Rd I2 ((((⟨b_k, 0, none⟩ : Addr).block, Obj.cells (splice (⟨b_k, 0, none⟩ : Addr).off (nL m_01 m_11 m_21 m_31 m_41 m_51 m_6_a1 m_6_n1 m_6_c1 m_71) cs).toArray el (0, 0)) :: F3)) (⟨b_k, 0, none⟩ : Addr) (nL m_02 m_12 m_22 m_32 m_42 m_52 m_6_a2 m_6_n2 m_6_c2 m_72) ∧ TriV P (Value.func m3 m_f1 m_c2) [nV m_02 m_12 m_22 m_32 m_42 m_52 m_6_a2 m_6_n2 m_6_c2 m_72] I2 ((((⟨b_k, 0, none⟩ : Addr).block, Obj.cells (splice (⟨b_k, 0, none⟩ : Addr).off (nL m_01 m_11 m_21 m_31 m_41 m_51 m_6_a1 m_6_n1 m_6_c1 m_71) cs).toArray el (0, 0)) :: F3)) fun e2 I3 G2 => ∃ (r1 : Bool), e2 = .returned (vt r1) ∧ ∃ F4 : Heap, List.Perm G2 (F4) ∧ (((!r1) = true → Q (.returned (vt false)) I3 (F4)) ∧ ((!r1) = false → (∃ m4 : Nat, m4 < m2 ∧ Inv14 (some (⟨b_n, 0, none⟩ : Addr)) x (IntKind.wrap .i64 (x1 + 1)) m4 I1 F1 I3 F4))))) ∧ (decide (x1 < ((m_n : Nat) : Int)) = false → Q (.returned (vt true)) I2 (F2)))))
set_option maxRecDepth 100000 in
theorem tree_All_1_1.vc {n_0 n_1 n_2 n_3 n_4 : Int} {n_5 : ByteArray} {n_6_a : Option Addr} {n_6_n n_6_c : Nat} {n_7 : Int} {c c1 : Addr} {I : Imm} {F : Heap} {Q : PostQ} (Inv14 : Option Addr → Bool → Int → Nat → Imm → Heap → Imm → Heap → Prop) (h : tree_All_1_1.V (fun b => (b, Obj.cells #[Value.int .u8 n_0, Value.int .u8 n_1, Value.int .u8 n_2, Value.int .i64 n_3, Value.int .u8 n_4, Value.string n_5, Value.slice n_6_a n_6_n n_6_c, Value.int .i64 n_7] 28 (0, 0))) (fun k o t n f s a l c q => .agg #[Value.int .u8 k, Value.int .u8 o, Value.int .u8 t, Value.int .i64 n, Value.int .u8 f, Value.string s, Value.slice a l c, Value.int .i64 q]) (fun k o t n f s a l c q => [Value.int .u8 k, Value.int .u8 o, Value.int .u8 t, Value.int .i64 n, Value.int .u8 f, Value.string s, Value.slice a l c, Value.int .i64 q]) (.int .u8) .bool n_0 n_1 n_2 n_3 n_4 n_5 n_6_a n_6_n n_6_c n_7 c c1 I F Q Inv14) : Tri P 78 #[Value.agg #[Value.int .u8 n_0, Value.int .u8 n_1, Value.int .u8 n_2, Value.int .i64 n_3, Value.int .u8 n_4, Value.string n_5, Value.slice n_6_a n_6_n n_6_c, Value.int .i64 n_7], Value.pointer (some c), Value.pointer (some c1)] I (F) Q :=
  tri_of_V (A := (annL [1003, 4000, 6003] [] [] shT_t3 [(14, ⟨[(4, .bool), (14, (.int .i64))], [], fun fs I0 F0 vs m I F => match fs, vs with | [.pointer y0], [.bool y1, .int _ y2] => Inv14 y0 y1 y2 m I0 F0 I F | _, _ => False, [3], []⟩)] [] [0, 5002] [] [1002, 6002] [] [])) (args := [.a (.v (Value.agg #[Value.int .u8 n_0, Value.int .u8 n_1, Value.int .u8 n_2, Value.int .i64 n_3, Value.int .u8 n_4, Value.string n_5, Value.slice n_6_a n_6_n n_6_c, Value.int .i64 n_7])), .a (.v (Value.pointer (some c))), .a (.v (Value.pointer (some c1)))]) (own := []) (keep := []) [] Go.Proofs.Try.func78 h (by kernel_rfl) (by kernel_rfl) (by kernel_rfl) (by kernel_rfl) (by kernel_rfl) (by simp [AV.wf, At.wf]) (by simp [AV.wf, At.wf]) rfl
set_option maxRecDepth 100000 in
def tree_Size.V (c_n c_many : Nat → Nat × Obj) (nV : Int → Int → Int → Int → Int → ByteArray → Option Addr → Nat → Nat → Int → Value) (vi : Int → Value) (n_0 n_1 n_2 n_3 n_4 : Int) (n_5 : ByteArray) (n_6_a : Option Addr) (n_6_n n_6_c : Nat) (n_7 : Int) (I : Imm) (F : Heap) (Q : PostQ)  : Prop := ∀ b_n : Nat, ∀ b_many : Nat, Tri P 33 (#[nV n_0 n_1 n_2 n_3 n_4 n_5 n_6_a n_6_n n_6_c n_7]) I ((c_n b_n) :: (c_many b_many) :: F) fun e1 I1 G1 => ∃ (r : Fn) (r_f r_c : Array Value), e1 = .returned (Value.func r r_f r_c) ∧ ∃ F1 : Heap, List.Perm G1 ((c_n b_n) :: (c_many b_many) :: F1) ∧ ∀ (Y : Fn) (L Lb : Heap) (Lx : Option Nat → Heap) (D : Nat), (∀ (x_0 x_1 x_2 x_3 x_4 : Int) (x_5 : ByteArray) (x_6_a : Option Addr) (x_6_n x_6_c : Nat) (x_7 b_many_v : Int) (I2 : Imm) (F2 : Heap) (Q1 : Ending → Imm → Heap → Prop), Imm.le I1 I2 → (∃ F3 : Heap, List.Perm (L ++ F2) (L ++ F3) ∧ ∃ F4 : Heap, List.Perm (Lb ++ F3) (Lb ++ F4) ∧ Q1 (.returned (.bool true)) I2 ((c_n b_n) :: (b_many, Obj.cells #[vi (IntKind.wrap .i64 (b_many_v + 1))] 3 (0, 0)) :: (L ++ F4))) → TriV P (Value.func Y #[] #[]) [nV x_0 x_1 x_2 x_3 x_4 x_5 x_6_a x_6_n x_6_c x_7] I2 ((c_n b_n) :: (b_many, Obj.cells #[vi b_many_v] 3 (0, 0)) :: (L ++ F2)) Q1) → TriC P (Value.func r r_f r_c) [Value.func Y #[] #[]] I1 ((c_n b_n) :: (c_many b_many) :: (L ++ F1)) fun e2 I3 G2 => ∃ r1 : Value, e2 = .returned r1 ∧ ((∃ (b_many_v1 : Int), ∃ F5 : Heap, List.Perm G2 ((c_n b_n) :: (b_many, Obj.cells #[vi b_many_v1] 3 (0, 0)) :: (L ++ F5)) ∧ ∃ F6 : Heap, List.Perm ((D, Obj.deferred (some [])) :: F5) ((D, Obj.deferred (some [])) :: F6) ∧ Q (.returned (vi b_many_v1)) I3 (F6)) ∨ False)
set_option maxRecDepth 100000 in
theorem tree_Size.vc {n_0 n_1 n_2 n_3 n_4 : Int} {n_5 : ByteArray} {n_6_a : Option Addr} {n_6_n n_6_c : Nat} {n_7 : Int} {I : Imm} {F : Heap} {Q : PostQ}  (h : tree_Size.V (fun b => (b, Obj.cells #[Value.int .u8 n_0, Value.int .u8 n_1, Value.int .u8 n_2, Value.int .i64 n_3, Value.int .u8 n_4, Value.string n_5, Value.slice n_6_a n_6_n n_6_c, Value.int .i64 n_7] 28 (0, 0))) (fun b => (b, Obj.cells #[Value.int .i64 0] 3 (0, 0))) (fun k o t n f s a l c q => .agg #[Value.int .u8 k, Value.int .u8 o, Value.int .u8 t, Value.int .i64 n, Value.int .u8 f, Value.string s, Value.slice a l c, Value.int .i64 q]) (.int .i64) n_0 n_1 n_2 n_3 n_4 n_5 n_6_a n_6_n n_6_c n_7 I F Q) : Tri P 14 #[Value.agg #[Value.int .u8 n_0, Value.int .u8 n_1, Value.int .u8 n_2, Value.int .i64 n_3, Value.int .u8 n_4, Value.string n_5, Value.slice n_6_a n_6_n n_6_c, Value.int .i64 n_7]] I (F) Q :=
  tri_of_V (A := (annL [] [] [33] shT_t3 [(8, ⟨[], [(1, [(.int .i64)])], fun _ _ _ _ _ _ _ => True, [], [.agg [(.int .u8), (.int .u8), (.int .u8), (.int .i64), (.int .u8), .str, .slc, (.int .i64)]]⟩)] [] [] [] [] [] [])) (args := [.a (.v (Value.agg #[Value.int .u8 n_0, Value.int .u8 n_1, Value.int .u8 n_2, Value.int .i64 n_3, Value.int .u8 n_4, Value.string n_5, Value.slice n_6_a n_6_n n_6_c, Value.int .i64 n_7]))]) (own := []) (keep := []) [33] Go.Proofs.Try.func14 h (by kernel_rfl) (by kernel_rfl) (by kernel_rfl) (by kernel_rfl) (by kernel_rfl) (by simp [AV.wf, At.wf]) (by simp [AV.wf, At.wf]) rfl
set_option maxRecDepth 100000 in
def tree_Reads.V (c_n c_l c_m : Nat → Nat × Obj) (nV : Int → Int → Int → Int → Int → ByteArray → Option Addr → Nat → Nat → Int → Value) (nO : Int → Int → Int → Int → Int → ByteArray → Option Addr → Nat → Nat → Int → Obj) (vi vu16 : Int → Value) (vs : ByteArray → Value) (vl : Option Addr → Nat → Nat → Value) (n_0 n_1 n_2 n_3 n_4 : Int) (n_5 : ByteArray) (n_6_a : Option Addr) (n_6_n n_6_c : Nat) (n_7 : Int) (I : Imm) (F : Heap) (Q : PostQ)  : Prop := ∀ b_n : Nat, ∀ b_m : Nat, ∀ b_l : Nat, TriE P (Instr.makeMap 113 none) I ((c_n b_n) :: (c_m b_m) :: (c_l b_l) :: F) fun v I1 G1 => ∃ (r : Option Nat), v = Value.map r ∧ ∃ F1 : Heap, List.Perm G1 ((c_n b_n) :: (c_m b_m) :: (c_l b_l) :: F1) ∧ ∀ b_met : Nat, Tri P 33 (#[nV n_0 n_1 n_2 n_3 n_4 n_5 n_6_a n_6_n n_6_c n_7]) I1 ((c_n b_n) :: (c_m b_m) :: (c_l b_l) :: (b_met, Obj.cells #[Value.map r] 113 (0, 0)) :: F1) fun e1 I2 G2 => ∃ (r1 : Fn) (r_f r_c : Array Value), e1 = .returned (Value.func r1 r_f r_c) ∧ ∃ F2 : Heap, List.Perm G2 ((c_n b_n) :: (c_m b_m) :: (c_l b_l) :: (b_met, Obj.cells #[Value.map r] 113 (0, 0)) :: F2) ∧ ∀ (Y : Fn) (L Lb : Heap) (Lx : Option Nat → Heap) (D : Nat), (∀ (x_0 x_1 x_2 x_3 x_4 : Int) (x_5 : ByteArray) (x_6_a : Option Addr) (x_6_n x_6_c : Nat) (x_7 b_m_v : Int) (b_l_v_a : Option Addr) (b_l_v_n b_l_v_c : Nat) (I3 : Imm) (F3 : Heap) (Q1 : Ending → Imm → Heap → Prop), Imm.le I2 I3 → (∀ b_x : Nat, ∃ F4 : Heap, List.Perm (L ++ F3) (L ++ F4) ∧ (((x_0 == 3) = true → ((decide (x_4 < 16) = true → ((0 ≤ x_4) ∧ ∃ F5 : Heap, List.Perm (Lb ++ F4) (Lb ++ F5) ∧ Q1 (.returned (.bool true)) I3 ((c_n b_n) :: (b_m, Obj.cells #[vu16 (IntKind.wrap .u16 (BitVec.toNat ((BitVec.ofInt 16 b_m_v) ||| (BitVec.ofInt 16 (IntKind.wrap .u16 (1 * 2 ^ (min (Int.toNat x_4) 16))))) : Int))] 53 (0, 0)) :: (b_l, Obj.cells #[vl b_l_v_a b_l_v_n b_l_v_c] 54 (0, 0)) :: (b_met, Obj.cells #[Value.map r] 113 (0, 0)) :: (L ++ F5)))) ∧ (decide (x_4 < 16) = false → ∃ F6 : Heap, List.Perm (Lb ++ F4) (Lb ++ F6) ∧ Q1 (.returned (.bool true)) I3 ((c_n b_n) :: (b_m, Obj.cells #[vu16 b_m_v] 53 (0, 0)) :: (b_l, Obj.cells #[vl b_l_v_a b_l_v_n b_l_v_c] 54 (0, 0)) :: (b_met, Obj.cells #[Value.map r] 113 (0, 0)) :: (L ++ F6))))) ∧ ((x_0 == 3) = false → (((x_0 == 4) = true → ((decide (x_4 < 16) = true → ((0 ≤ x_4) ∧ ∃ F7 : Heap, List.Perm (Lb ++ F4) (Lb ++ F7) ∧ Q1 (.returned (.bool true)) I3 ((c_n b_n) :: (b_m, Obj.cells #[vu16 (IntKind.wrap .u16 (BitVec.toNat ((BitVec.ofInt 16 b_m_v) ||| (BitVec.ofInt 16 (IntKind.wrap .u16 (1 * 2 ^ (min (Int.toNat x_4) 16))))) : Int))] 53 (0, 0)) :: (b_l, Obj.cells #[vl b_l_v_a b_l_v_n b_l_v_c] 54 (0, 0)) :: (b_met, Obj.cells #[Value.map r] 113 (0, 0)) :: (L ++ F7)))) ∧ (decide (x_4 < 16) = false → ∃ F8 : Heap, List.Perm (Lb ++ F4) (Lb ++ F8) ∧ Q1 (.returned (.bool true)) I3 ((c_n b_n) :: (b_m, Obj.cells #[vu16 b_m_v] 53 (0, 0)) :: (b_l, Obj.cells #[vl b_l_v_a b_l_v_n b_l_v_c] 54 (0, 0)) :: (b_met, Obj.cells #[Value.map r] 113 (0, 0)) :: (L ++ F8))))) ∧ ((x_0 == 4) = false → (((x_0 == 2) = true → TriE P (Instr.lookup 113 (Value.map r) (vs x_5) false) I3 ((c_n b_n) :: (b_m, Obj.cells #[vu16 b_m_v] 53 (0, 0)) :: (b_l, Obj.cells #[vl b_l_v_a b_l_v_n b_l_v_c] 54 (0, 0)) :: (b_met, Obj.cells #[Value.map r] 113 (0, 0)) :: (b_x, nO x_0 x_1 x_2 x_3 x_4 x_5 x_6_a x_6_n x_6_c x_7) :: (Lb ++ F4)) fun v1 I4 G3 => ∃ (r2 : Int), v1 = vi r2 ∧ ∃ F9 : Heap, List.Perm G3 ((c_n b_n) :: (b_m, Obj.cells #[vu16 b_m_v] 53 (0, 0)) :: (b_l, Obj.cells #[vl b_l_v_a b_l_v_n b_l_v_c] 54 (0, 0)) :: (b_met, Obj.cells #[Value.map r] 113 (0, 0)) :: (b_x, nO x_0 x_1 x_2 x_3 x_4 x_5 x_6_a x_6_n x_6_c x_7) :: F9) ∧ (((r2 == 0) = true → ∀ (b : Nat) (I5 : Imm), Imm.le I4 I5 → I5 b = some (Obj.cells #[vs x_5] 9 (0, 0)) → TriE P (Builtin.append_ #[54, 54] 54 #[vl b_l_v_a b_l_v_n b_l_v_c, vl (some ⟨b, 0, none⟩) 1 1]) I5 ((c_n b_n) :: (b_m, Obj.cells #[vu16 b_m_v] 53 (0, 0)) :: (b_l, Obj.cells #[vl b_l_v_a b_l_v_n b_l_v_c] 54 (0, 0)) :: (b_met, Obj.cells #[Value.map r] 113 (0, 0)) :: (b_x, nO x_0 x_1 x_2 x_3 x_4 x_5 x_6_a x_6_n x_6_c x_7) :: F9) fun v2 I6 G4 => ∃ (r_a : Option Addr) (r_n r_c1 : Nat), v2 = vl r_a r_n r_c1 ∧ ∃ F10 : Heap, List.Perm G4 ((c_n b_n) :: (b_m, Obj.cells #[vu16 b_m_v] 53 (0, 0)) :: (b_l, Obj.cells #[vl b_l_v_a b_l_v_n b_l_v_c] 54 (0, 0)) :: (b_met, Obj.cells #[Value.map r] 113 (0, 0)) :: (b_x, nO x_0 x_1 x_2 x_3 x_4 x_5 x_6_a x_6_n x_6_c x_7) :: F10) ∧ TriE P (Instr.lookup 113 (Value.map r) (vs x_5) false) I6 ((c_n b_n) :: (b_m, Obj.cells #[vu16 b_m_v] 53 (0, 0)) :: (b_l, Obj.cells #[vl r_a r_n r_c1] 54 (0, 0)) :: (b_met, Obj.cells #[Value.map r] 113 (0, 0)) :: (b_x, nO x_0 x_1 x_2 x_3 x_4 x_5 x_6_a x_6_n x_6_c x_7) :: F10) fun v3 I7 G5 => ∃ (r3 : Int), v3 = vi r3 ∧ ∃ F11 : Heap, List.Perm G5 ((c_n b_n) :: (b_m, Obj.cells #[vu16 b_m_v] 53 (0, 0)) :: (b_l, Obj.cells #[vl r_a r_n r_c1] 54 (0, 0)) :: (b_met, Obj.cells #[Value.map r] 113 (0, 0)) :: (b_x, nO x_0 x_1 x_2 x_3 x_4 x_5 x_6_a x_6_n x_6_c x_7) :: F11) ∧ TriU P (Instr.mapUpdate 113 (Value.map r) (vs x_5) (vi (IntKind.wrap .i64 (r3 + 1)))) I7 ((c_n b_n) :: (b_m, Obj.cells #[vu16 b_m_v] 53 (0, 0)) :: (b_l, Obj.cells #[vl r_a r_n r_c1] 54 (0, 0)) :: (b_met, Obj.cells #[Value.map r] 113 (0, 0)) :: (b_x, nO x_0 x_1 x_2 x_3 x_4 x_5 x_6_a x_6_n x_6_c x_7) :: F11) fun I8 G6 => ∃ F12 : Heap, List.Perm G6 ((c_n b_n) :: (b_m, Obj.cells #[vu16 b_m_v] 53 (0, 0)) :: (b_l, Obj.cells #[vl r_a r_n r_c1] 54 (0, 0)) :: (b_met, Obj.cells #[Value.map r] 113 (0, 0)) :: (b_x, nO x_0 x_1 x_2 x_3 x_4 x_5 x_6_a x_6_n x_6_c x_7) :: F12) ∧ ∃ F13 : Heap, List.Perm F12 (Lb ++ F13) ∧ Q1 (.returned (.bool true)) I8 ((c_n b_n) :: (b_m, Obj.cells #[vu16 b_m_v] 53 (0, 0)) :: (b_l, Obj.cells #[vl r_a r_n r_c1] 54 (0, 0)) :: (b_met, Obj.cells #[Value.map r] 113 (0, 0)) :: (L ++ F13))) ∧ ((r2 == 0) = false → TriE P (Instr.lookup 113 (Value.map r) (vs x_5) false) I4 ((c_n b_n) :: (b_m, Obj.cells #[vu16 b_m_v] 53 (0, 0)) :: (b_l, Obj.cells #[vl b_l_v_a b_l_v_n b_l_v_c] 54 (0, 0)) :: (b_met, Obj.cells #[Value.map r] 113 (0, 0)) :: (b_x, nO x_0 x_1 x_2 x_3 x_4 x_5 x_6_a x_6_n x_6_c x_7) :: F9) fun v4 I9 G7 => ∃ (r4 : Int), v4 = vi r4 ∧ ∃ F14 : Heap, List.Perm G7 ((c_n b_n) :: (b_m, Obj.cells #[vu16 b_m_v] 53 (0, 0)) :: (b_l, Obj.cells #[vl b_l_v_a b_l_v_n b_l_v_c] 54 (0, 0)) :: (b_met, Obj.cells #[Value.map r] 113 (0, 0)) :: (b_x, nO x_0 x_1 x_2 x_3 x_4 x_5 x_6_a x_6_n x_6_c x_7) :: F14) ∧ TriU P (Instr.mapUpdate 113 (Value.map r) (vs x_5) (vi (IntKind.wrap .i64 (r4 + 1)))) I9 ((c_n b_n) :: (b_m, Obj.cells #[vu16 b_m_v] 53 (0, 0)) :: (b_l, Obj.cells #[vl b_l_v_a b_l_v_n b_l_v_c] 54 (0, 0)) :: (b_met, Obj.cells #[Value.map r] 113 (0, 0)) :: (b_x, nO x_0 x_1 x_2 x_3 x_4 x_5 x_6_a x_6_n x_6_c x_7) :: F14) fun I10 G8 => ∃ F15 : Heap, List.Perm G8 ((c_n b_n) :: (b_m, Obj.cells #[vu16 b_m_v] 53 (0, 0)) :: (b_l, Obj.cells #[vl b_l_v_a b_l_v_n b_l_v_c] 54 (0, 0)) :: (b_met, Obj.cells #[Value.map r] 113 (0, 0)) :: (b_x, nO x_0 x_1 x_2 x_3 x_4 x_5 x_6_a x_6_n x_6_c x_7) :: F15) ∧ ∃ F16 : Heap, List.Perm F15 (Lb ++ F16) ∧ Q1 (.returned (.bool true)) I10 ((c_n b_n) :: (b_m, Obj.cells #[vu16 b_m_v] 53 (0, 0)) :: (b_l, Obj.cells #[vl b_l_v_a b_l_v_n b_l_v_c] 54 (0, 0)) :: (b_met, Obj.cells #[Value.map r] 113 (0, 0)) :: (L ++ F16))))) ∧ ((x_0 == 2) = false → ∃ F17 : Heap, List.Perm (Lb ++ F4) (Lb ++ F17) ∧ Q1 (.returned (.bool true)) I3 ((c_n b_n) :: (b_m, Obj.cells #[vu16 b_m_v] 53 (0, 0)) :: (b_l, Obj.cells #[vl b_l_v_a b_l_v_n b_l_v_c] 54 (0, 0)) :: (b_met, Obj.cells #[Value.map r] 113 (0, 0)) :: (L ++ F17))))))))) → TriV P (Value.func Y #[] #[]) [nV x_0 x_1 x_2 x_3 x_4 x_5 x_6_a x_6_n x_6_c x_7] I3 ((c_n b_n) :: (b_m, Obj.cells #[vu16 b_m_v] 53 (0, 0)) :: (b_l, Obj.cells #[vl b_l_v_a b_l_v_n b_l_v_c] 54 (0, 0)) :: (b_met, Obj.cells #[Value.map r] 113 (0, 0)) :: (L ++ F3)) Q1) → TriC P (Value.func r1 r_f r_c) [Value.func Y #[] #[]] I2 ((c_n b_n) :: (c_m b_m) :: (c_l b_l) :: (b_met, Obj.cells #[Value.map r] 113 (0, 0)) :: (L ++ F2)) fun e2 I11 G9 => ∃ r5 : Value, e2 = .returned r5 ∧ ((∃ (b_m_v1 : Int) (b_l_v_a1 : Option Addr) (b_l_v_n1 b_l_v_c1 : Nat), ∃ F18 : Heap, List.Perm G9 ((c_n b_n) :: (b_m, Obj.cells #[vu16 b_m_v1] 53 (0, 0)) :: (b_l, Obj.cells #[vl b_l_v_a1 b_l_v_n1 b_l_v_c1] 54 (0, 0)) :: (b_met, Obj.cells #[Value.map r] 113 (0, 0)) :: (L ++ F18)) ∧ ∃ F19 : Heap, List.Perm ((D, Obj.deferred (some [])) :: F18) ((D, Obj.deferred (some [])) :: F19) ∧ Q (.returned (Value.tuple #[vu16 b_m_v1, vl b_l_v_a1 b_l_v_n1 b_l_v_c1])) I11 (F19)) ∨ False)
set_option maxRecDepth 100000 in
theorem tree_Reads.vc {n_0 n_1 n_2 n_3 n_4 : Int} {n_5 : ByteArray} {n_6_a : Option Addr} {n_6_n n_6_c : Nat} {n_7 : Int} {I : Imm} {F : Heap} {Q : PostQ}  (h : tree_Reads.V (fun b => (b, Obj.cells #[Value.int .u8 n_0, Value.int .u8 n_1, Value.int .u8 n_2, Value.int .i64 n_3, Value.int .u8 n_4, Value.string n_5, Value.slice n_6_a n_6_n n_6_c, Value.int .i64 n_7] 28 (0, 0))) (fun b => (b, Obj.cells #[Value.slice none 0 0] 54 (0, 0))) (fun b => (b, Obj.cells #[Value.int .u16 0] 53 (0, 0))) (fun k o t n f s a l c q => .agg #[Value.int .u8 k, Value.int .u8 o, Value.int .u8 t, Value.int .i64 n, Value.int .u8 f, Value.string s, Value.slice a l c, Value.int .i64 q]) (fun k o t n f s a l c q => .cells #[Value.int .u8 k, Value.int .u8 o, Value.int .u8 t, Value.int .i64 n, Value.int .u8 f, Value.string s, Value.slice a l c, Value.int .i64 q] 28 (0, 0)) (.int .i64) (.int .u16) .string .slice n_0 n_1 n_2 n_3 n_4 n_5 n_6_a n_6_n n_6_c n_7 I F Q) : Tri P 27 #[Value.agg #[Value.int .u8 n_0, Value.int .u8 n_1, Value.int .u8 n_2, Value.int .i64 n_3, Value.int .u8 n_4, Value.string n_5, Value.slice n_6_a n_6_n n_6_c, Value.int .i64 n_7]] I (F) Q :=
  tri_of_V (A := (annL [7000, 8000, 9002, 11000, 12004] [] [33] shT_t3 [(12, ⟨[], [(1, [(.int .u16)]), (2, [.slc])], fun _ _ _ _ _ _ _ => True, [], [.agg [(.int .u8), (.int .u8), (.int .u8), (.int .i64), (.int .u8), .str, .slc, (.int .i64)]]⟩)] [13003] [] [] [] [] [])) (args := [.a (.v (Value.agg #[Value.int .u8 n_0, Value.int .u8 n_1, Value.int .u8 n_2, Value.int .i64 n_3, Value.int .u8 n_4, Value.string n_5, Value.slice n_6_a n_6_n n_6_c, Value.int .i64 n_7]))]) (own := []) (keep := []) [33] Go.Proofs.Try.func27 h (by kernel_rfl) (by kernel_rfl) (by kernel_rfl) (by kernel_rfl) (by kernel_rfl) (by simp [AV.wf, At.wf]) (by simp [AV.wf, At.wf]) rfl
end Go.Lx
namespace Go.Lx
open Go.Vc
theorem enters_down : Enters P 78 := hP_of [78] (by kernel_rfl) _ (by decide)
theorem enters_all1 : Enters P 77 := hP_of [77] (by kernel_rfl) _ (by decide)
theorem Rd.one {b : Nat} {o : Obj} {I : Imm} {G : Heap} {cells : Array Value} {e : Nat} (h : I b = some (.cells cells e (0, 0)) ∨ (b, Obj.cells cells e (0, 0)) ∈ G) (i : Nat) {v : Value} (hv : cells[i]? = some v) : Rd I G (⟨b, i, none⟩ : Addr) [v] :=
  ⟨rfl, cells, e, (0, 0), h, fun j hj => by
    have : j = 0 := by simpa using hj
    subst this
    rw [Nat.add_zero, hv]; rfl⟩
def Went (S : Nat → Imm → Heap → Prop) (X : Imm → Heap → Prop) (k : Nat) (e : Ending) (I : Imm) (G : Heap) : Prop := (e = .returned (.bool true) ∧ S k I G) ∨ (e = .returned (.bool false) ∧ X I G)
theorem down_spec {xs : List Nd} {y : Fn} {ya yb : Array Value} {cY cD : Addr} {S : Nat → Imm → Heap → Prop} {X : Imm → Heap → Prop} {I1 : Imm} (hcY : ∀ J G, Imm.le I1 J → Rd J G cY [.func y ya yb])
    (hcD : ∀ J G, Imm.le I1 J → Rd J G cD [.func (.func 78) #[] #[.pointer (some cY), .pointer (some cD)]])
    (hS : ∀ k I2 I3 F F', S k I2 F → Imm.le I2 I3 → F.Perm F' → S k I3 F') (hX : ∀ I2 I3 F F', X I2 F → Imm.le I2 I3 → F.Perm F' → X I3 F')
    (hround : ∀ k x I2 F2, xs[k]? = some x → Imm.le I1 I2 → S k I2 F2 → TriV P (.func y ya yb) [x.v] I2 F2 (Went S X (k + 1))) :
    ∀ t : Nd, t.px.size ≤ 1048576 → (∀ k I2 F2, Imm.le I1 I2 → S k I2 F2 → NdOk I2 F2 t) → ∀ k, (∀ j x, t.nodes[j]? = some x → xs[k + j]? = some x) → ∀ I2 F2, Imm.le I1 I2 → S k I2 F2 →
      Tri P 78 #[t.v, .pointer (some cY), .pointer (some cD)] I2 F2 (Went S X (k + t.nodes.length)) := by
  refine Nd.ind fun t ih hs hread k hxs I2 F2 hI2 hS2 => ?_
  have hln := size_len hs
  refine tree_All_1_1.vc (fun bn x i m I0 F0 I' F' => 0 ≤ i ∧ i ≤ t.kids.length ∧ m = (t.kids.length - i).toNat ∧ S (k + 1 + (Nd.nodesL (t.kids.take i.toNat)).length) I' F') ?_
  unfold tree_All_1_1.V
  intro b_n
  have ht0 : t.nodes[0]? = some t := by rw [Nd.nodes_eq]; rfl
  refine ⟨y, ya, yb, hcY _ _ hI2, _, _, _, _, _, _, _, _, _, _, nd_rd (List.mem_cons_self ..), TriV.promote fun hp => (hround k t _ F2 (by simpa using hxs 0 t ht0) (Imm.le_trans hI2 hp) (hS _ _ _ _ _ hS2 hp (.refl _))).mono fun e I3 G hI3 hq => ?_⟩
  have hb3 := hI3.at (Imm.put_same I2 b_n (.cells t.enc.toArray 28 (0, 0)))
  have hl3 := Imm.le_trans hI2 (Imm.le_trans hp hI3)
  rcases hq with ⟨he, hq⟩ | ⟨he, hq⟩
  · refine ⟨true, he, G, .refl _, fun h => by (cases h), fun _ => ⟨t.a, t.kids.length, t.c, ?_, ⟨_, by omega, by omega, rfl, hq⟩, fun x i m I4 F4 hI4 ⟨g0, g1, gm, gS⟩ => ⟨fun hlt => ?_, fun hlt => .inl ⟨rfl, ?_⟩⟩⟩⟩
    · rw [add_lit0]; exact Rd.one (o := default) (.inl hb3) 6 rfl
    · have hlt := of_decide_eq_true hlt
      have hl4 := Imm.le_trans hl3 hI4
      have ht4 := hread _ _ _ hl4 gS
      obtain ⟨ad, z, had, hz, hrd, hzo, hzm⟩ := ht4.kids.at g0 hlt
      refine ⟨⟨g0, hlt⟩, ad, had, _, _, _, _, _, _, _, _, _, _, hrd, fun b_k => ⟨_, _, F4, .refl _, rfl, (by decide : 0 + 8 ≤ 8), _, _, _, hcD _ _ hl4, _, _, _, _, _, _, _, _, _, _, nd_rd (t := z) (List.mem_cons_self ..), ?_⟩⟩
      refine TriV.promote (b := b_k) (o := .cells z.enc.toArray 28 (0, 0)) fun hp4 => TriV.fn enters_down (vs := #[z.v, .pointer (some cY), .pointer (some cD)]) (by simp) ?_
      have hzn : ∀ j u, z.nodes[j]? = some u → xs[k + 1 + (Nd.nodesL (t.kids.take i.toNat)).length + j]? = some u := fun j u hu => by
        have h1 : t.nodes[1 + ((Nd.nodesL (t.kids.take i.toNat)).length + j)]? = some u := by
          rw [Nd.nodes_eq, Nat.add_comm 1, List.getElem?_cons_succ]
          have h2 : Nd.nodesL t.kids = Nd.nodesL (t.kids.take i.toNat) ++ (z.nodes ++ Nd.nodesL (t.kids.drop (i.toNat + 1))) := by
            conv => lhs; rw [← List.take_append_drop (i.toNat + 1) t.kids, nodesL_app, nodesL_take hz, List.append_assoc]
          rw [h2, List.getElem?_append_right (by omega), Nat.add_sub_cancel_left, List.getElem?_append_left (List.getElem?_eq_some_iff.1 hu).1]; exact hu
        have := hxs _ _ h1
        rw [← this]; congr 1; omega
      refine (ih z hzm (size_kid hzm hs) (fun k' I' F' hl' hS' => (hread k' I' F' hl' hS').kid z hzm) _ hzn _ F4 (Imm.le_trans hl4 hp4) (hS _ _ _ _ _ gS hp4 (.refl _))).mono fun e2 I5 G5 hI5 hq5 => ?_
      rcases hq5 with ⟨he5, hq5⟩ | ⟨he5, hq5⟩
      · refine ⟨true, he5, G5, .refl _, fun h => by (cases h), fun _ => ⟨(t.kids.length - (i + 1)).toNat, by omega, ?_⟩⟩
        rw [w64 (n := i + 1) (by omega)]
        refine ⟨by omega, by omega, rfl, ?_⟩
        rw [show (i + 1).toNat = i.toNat + 1 by omega, nodesL_take hz, List.length_append, ← Nat.add_assoc]; exact hq5
      · exact ⟨false, he5, G5, .refl _, fun _ => .inr ⟨rfl, hq5⟩, fun h => by (cases h)⟩
    · have hlt := of_decide_eq_false hlt
      rw [List.take_of_length_le (by omega)] at gS
      rw [Nd.nodes_eq, List.length_cons, Nat.add_comm (Nd.nodesL t.kids).length, ← Nat.add_assoc]; exact gS
  · exact ⟨false, he, G, .refl _, fun _ => .inr ⟨rfl, hq⟩, fun h => by (cases h)⟩
theorem tAll_spec (t : Nd) (I : Imm) (F : Heap) : Tri P 33 #[t.v] I F fun e I' G => ∃ b, e = .returned (.func (.func 77) #[] #[.pointer (some ⟨b, 0, none⟩)]) ∧ I' b = some (.cells t.enc.toArray 28 (0, 0)) ∧ G = F := by
  refine Tri.keep (Q := fun e I' G => ∃ b, e = .returned (.func (.func 77) #[] #[.pointer (some ⟨b, 0, none⟩)]) ∧ G = (b, Obj.cells #[.int .u8 t.kind, .int .u8 t.oper, .int .u8 t.typ, .int .i64 t.n, .int .u8 t.field, .string t.name, .slice t.a t.kids.length t.c, .int .i64 t.pos] 28 (0, 0)) :: F) (tree_All.vc fun b => ⟨b, rfl, rfl⟩) fun e I' G w hl hs ⟨b, he, hG⟩ => ?_
  subst hG
  obtain ⟨h1, h2⟩ := hs.promote
  exact ⟨_, _, h1, h2, b, he, Imm.put_same _ _ _, rfl⟩
def IterN (P : Program) (v : Value) (I : Imm) (t : Nd) : Prop :=
  ∀ (y : Fn) (ya yb : Array Value) (S : Nat → Imm → Heap → Prop) (X : Imm → Heap → Prop) (I1 : Imm) (F1 : Heap), Imm.le I I1 →
    (∀ k I2 I3 F F', S k I2 F → Imm.le I2 I3 → F.Perm F' → S k I3 F') → (∀ I2 I3 F F', X I2 F → Imm.le I2 I3 → F.Perm F' → X I3 F') → (∀ k I2 F2, Imm.le I1 I2 → S k I2 F2 → NdOk I2 F2 t) →
    (∀ k x I2 F2, t.nodes[k]? = some x → Imm.le I1 I2 → S k I2 F2 → TriV P (.func y ya yb) [x.v] I2 F2 (Went S X (k + 1))) →
    S 0 I1 F1 → TriC P v [.func y ya yb] I1 F1 fun e I2 G => ∃ r, e = .returned r ∧ (S t.nodes.length I2 G ∨ X I2 G)
theorem tAll_iter {t : Nd} (hs : t.px.size ≤ 1048576) {I : Imm} {b : Nat} (hb : I b = some (.cells t.enc.toArray 28 (0, 0))) : IterN P (.func (.func 77) #[] #[.pointer (some ⟨b, 0, none⟩)]) I t := by
  intro y ya yb S X I1 F1 hI1 hS hX hread hround h0
  intro w hw
  refine ⟨77, #[], #[.pointer (some ⟨b, 0, none⟩)], rfl, enters_all1, ?_⟩
  have hb1 := hI1.at hb
  revert w
  refine tree_All_1.vc ?_
  unfold tree_All_1.V
  intro b_yield b_down
  refine ⟨_, _, _, .refl _, rfl, (by decide : 0 + 1 ≤ 1), .func 78, #[], #[.pointer (some ⟨b_yield, 0, none⟩), .pointer (some ⟨b_down, 0, none⟩)], Rd.one (o := default) (.inr (List.mem_cons_self ..)) 0 rfl, _, _, _, _, _, _, _, _, _, _, Rd.of_imm (cs := t.enc) hb1 _ 0 fun j hj => by simp, ?_⟩
  refine TriV.promote (b := b_down) (o := .cells #[.func (.func 78) #[] #[.pointer (some ⟨b_yield, 0, none⟩), .pointer (some ⟨b_down, 0, none⟩)]] 30 (0, 0)) fun hp1 => ?_
  refine TriV.promote (b := b_yield) (o := .cells #[.func y ya yb] 30 (0, 0)) fun hp2 => TriV.fn enters_down (vs := #[t.v, .pointer (some ⟨b_yield, 0, none⟩), .pointer (some ⟨b_down, 0, none⟩)]) (by simp) ?_
  have hl := Imm.le_trans hp1 hp2
  have hd := hp2.at (Imm.put_same I1 b_down (.cells #[.func (.func 78) #[] #[.pointer (some ⟨b_yield, 0, none⟩), .pointer (some ⟨b_down, 0, none⟩)]] 30 (0, 0)))
  have hy := Imm.put_same (I1.put b_down (.cells #[.func (.func 78) #[] #[.pointer (some ⟨b_yield, 0, none⟩), .pointer (some ⟨b_down, 0, none⟩)]] 30 (0, 0))) b_yield (.cells #[.func y ya yb] 30 (0, 0))
  refine (down_spec (xs := t.nodes) (y := y) (ya := ya) (yb := yb) (cY := ⟨b_yield, 0, none⟩) (cD := ⟨b_down, 0, none⟩) (S := S) (X := X) (fun J G hJ => Rd.one (o := default) (.inl (hJ.at hy)) 0 rfl) (fun J G hJ => Rd.one (o := default) (.inl (hJ.at hd)) 0 rfl) hS hX
    (fun k x I2 F2 hx hle hk => hround k x I2 F2 hx (Imm.le_trans hl hle) hk) t hs (fun k I2 F2 hle hk => hread k I2 F2 (Imm.le_trans hl hle) hk) 0 (fun j x hx => by rw [Nat.zero_add]; exact hx) _ F1 (Imm.le_refl _) (hS _ _ _ _ _ h0 hl (.refl _))).mono fun e I3 G hI3 hq => ?_
  rw [Nat.zero_add] at hq
  rcases hq with ⟨he, hq⟩ | ⟨he, hq⟩
  · exact ⟨true, he, G, .refl _, _, rfl, .inl hq⟩
  · exact ⟨false, he, G, .refl _, _, rfl, .inr hq⟩
end Go.Lx
namespace Go.Vc
open Go.MapKept
def MapG {κ β : Type} (key : κ → Value) (val : β → Value) (g : κ → Option β) (es : Array MapEntry) (clock : Nat) : Prop :=
  Stamped es clock ∧ (∀ x ∈ es.toList, ∃ k b, x.key = key k ∧ x.val = val b ∧ g k = some b) ∧ (∀ k b, g k = some b → ∃ x ∈ es.toList, x.key = key k)
theorem MapG.nil {κ β : Type} {key : κ → Value} {val : β → Value} (c : Nat) : MapG key val (fun _ => none) #[] c := ⟨stamped_empty c, by simp, fun k b h => by cases h⟩
theorem MapG.congr {κ β : Type} {key : κ → Value} {val : β → Value} {g g' : κ → Option β} {es : Array MapEntry} {clock : Nat} (h : MapG key val g es clock) (e : ∀ k, g k = g' k) : MapG key val g' es clock := by
  rw [← funext e]; exact h
theorem nodup_ne {α : Type} : ∀ {l : List α} {i j : Nat} {x : α}, l.Nodup → i < j → l[i]? = some x → l[j]? = some x → False
  | [], _, _, _, _, _, h, _ => by simp at h
  | y :: l, 0, j + 1, x, hn, _, h1, h2 => by
    simp only [List.getElem?_cons_zero, Option.some.injEq] at h1
    subst h1
    exact (List.nodup_cons.1 hn).1 (List.mem_of_getElem? (by simpa using h2))
  | y :: l, i + 1, j + 1, x, hn, hl, h1, h2 => nodup_ne (l := l) (x := x) (i := i) (j := j) (List.nodup_cons.1 hn).2 (by omega) (by simpa using h1) (by simpa using h2)
def putG {κ β : Type} [DecidableEq κ] (g : κ → Option β) (k : κ) (b : β) : κ → Option β := fun j => if j = k then some b else g j
section
variable {P : Program} {κ β : Type} {d : TypeDesc} {key : κ → Value} {val : β → Value} {g : κ → Option β} {es : Array MapEntry} {clock : Nat} {t kt et : TypeId} {I : Imm} {F : Heap} {r : Nat} {k : κ} {z : Value}
theorem MapG.find (hk : ∀ k, IsKey d (key k)) (hi : ∀ k k', key k = key k' → k = k') (h : MapG key val g es clock) (k : κ) :
    (Instr.findNow d (key k) es.toList 0 = some none ∧ (∀ x ∈ es.toList, x.key ≠ key k) ∧ g k = none) ∨
    ∃ j e b, Instr.findNow d (key k) es.toList 0 = some (some (j, val b)) ∧ es[j]? = some e ∧ e.key = key k ∧ e.val = val b ∧ g k = some b := by
  obtain ⟨hs, h1, h2⟩ := h
  have hks : ∀ x ∈ es.toList, IsKey d x.key := fun x hx => by obtain ⟨k', b, e, _⟩ := h1 x hx; rw [e]; exact hk k'
  rcases findNow_spec (hk k) es.toList 0 hks with ⟨g1, g2⟩ | ⟨j, e, g1, g2, g3⟩
  · refine .inl ⟨g1, g2, ?_⟩
    cases hg : g k with
    | none => rfl
    | some b => obtain ⟨x, hx, e⟩ := h2 k b hg; exact absurd e (g2 x hx)
  · obtain ⟨k', b, e1, e2, e3⟩ := h1 e (List.mem_of_getElem? g2)
    obtain rfl : k' = k := hi _ _ (e1.symm.trans g3)
    refine .inr ⟨j, e, b, ?_, by simpa using g2, g3, e2, e3⟩
    rw [g1, e2, Nat.zero_add]
theorem run_zero {et : TypeId} {z : Value} (hz : (P.info? et).map (·.zero) = some (some z)) (w : World) : (zeroValue et).run P w = .ok z w := by
  cases h : P.info? et with
  | none => rw [h] at hz; cases hz
  | some i =>
    rw [h] at hz
    simp only [Option.map_some, Option.some.injEq] at hz
    simp [zeroValue, typeInfo, h, hz, Result.andThen]
theorem map_at (hm : I r = some (.map es clock) ∨ (r, Obj.map es clock) ∈ F) {w : World} (hw : Sat I F w) : w.heap[r]? = some (.map es clock) := hm.elim (hw.imm _ _) (hw.own _ _)
theorem lookup_one (ht : P.underlying t = some (.map kt et)) (hd : P.underlying kt = some d) (hk : ∀ k, IsKey d (key k)) (hi : ∀ k k', key k = key k' → k = k') (hz : (P.info? et).map (·.zero) = some (some z))
    (h : MapG key val g es clock) (hm : I r = some (.map es clock) ∨ (r, Obj.map es clock) ∈ F) (k : κ) :
    TriE P (Instr.lookup t (.map (some r)) (key k) false) I F fun v I' G => v = (g k).elim z val ∧ I' = I ∧ G = F := by
  intro w hw
  have hb := map_at hm hw
  rcases h.find hk hi k with ⟨h1, _, hg⟩ | ⟨j, e, b, h1, _, _, _, hg⟩
  · refine ⟨_, w, I, F, ?_, Imm.le_refl I, hw, rfl, rfl, rfl⟩
    simp [Instr.lookup, run_underlying ht, MapKept.run_getObj_map hb, run_checkKey hd (hk k), run_findKey hd h1, run_zero hz, Result.andThen, hg]
  · refine ⟨_, w, I, F, ?_, Imm.le_refl I, hw, rfl, rfl, rfl⟩
    simp [Instr.lookup, run_underlying ht, MapKept.run_getObj_map hb, run_checkKey hd (hk k), run_findKey hd h1, Result.andThen, hg]
theorem makeMap_spec : TriE P (Instr.makeMap t none) I F fun v I' G => ∃ b, v = .map (some b) ∧ I' = I ∧ G = (b, Obj.map #[] 0) :: F := by
  intro w hw
  exact ⟨_, _, I, _, rfl, Imm.le_refl I, hw.alloc _, _, rfl, rfl, rfl⟩
variable [DecidableEq κ]
theorem MapG.push (hi : ∀ k k', key k = key k' → k = k') (h : MapG key val g es clock) (hno : ∀ x ∈ es.toList, x.key ≠ key k) (b : β) : MapG key val (putG g k b) (es.push { key := key k, val := val b, born := clock }) (clock + 1) := by
  obtain ⟨hs, h1, h2⟩ := h
  refine ⟨stamped_push hs hno, fun x hx => ?_, fun k' b' hg => ?_⟩
  · simp only [Array.toList_push, List.mem_append, List.mem_singleton] at hx
    rcases hx with hx | rfl
    · obtain ⟨k', b', e1, e2, e3⟩ := h1 x hx
      refine ⟨k', b', e1, e2, ?_⟩
      unfold putG; rw [if_neg]
      · exact e3
      · intro e; subst e; exact hno x hx e1
    · exact ⟨k, b, rfl, rfl, if_pos rfl⟩
  · unfold putG at hg
    by_cases e : k' = k
    · subst e; exact ⟨_, by simp; exact .inr rfl, rfl⟩
    · rw [if_neg e] at hg
      obtain ⟨x, hx, e⟩ := h2 k' b' hg
      exact ⟨x, by simp only [Array.toList_push, List.mem_append]; exact .inl hx, e⟩
theorem MapG.modify (hi : ∀ k k', key k = key k' → k = k') (h : MapG key val g es clock) {j : Nat} {e : MapEntry} (hj : es[j]? = some e) (he : e.key = key k) (b : β) {f : MapEntry → MapEntry} (hf : ∀ x, (f x).born = x.born)
    (hfk : ∀ x, x.key = key k → (f x).key = key k) (hv : ∀ x, (f x).val = val b) : MapG key val (putG g k b) (es.modify j f) clock := by
  obtain ⟨hs, h1, h2⟩ := h
  have hkey : ∀ e', es[j]? = some e' → (f e').key = e'.key := fun e' he' => by rw [hj] at he'; cases he'; rw [hfk _ he, he]
  refine ⟨stamped_modify hs _ _ (fun x _ => hf x) fun x _ hx => hkey x hx, fun x hx => ?_, fun k' b' hg => ?_⟩
  · obtain ⟨i, hx'⟩ := List.mem_iff_getElem?.1 hx
    simp only [Array.getElem?_toList, Array.getElem?_modify] at hx'
    by_cases hij : j = i
    · subst hij
      rw [if_pos rfl, hj] at hx'
      simp only [Option.map_some, Option.some.injEq] at hx'
      subst hx'
      exact ⟨k, b, hfk _ he, hv _, if_pos rfl⟩
    · rw [if_neg hij] at hx'
      obtain ⟨k', b', e1, e2, e3⟩ := h1 x (List.mem_of_getElem? (by simpa using hx'))
      refine ⟨k', b', e1, e2, ?_⟩
      unfold putG; rw [if_neg]
      · exact e3
      · intro ek; subst ek
        have hnd := hs.2.2
        have : i < es.size := (Array.getElem?_eq_some_iff.1 hx').1
        have : j < es.size := (Array.getElem?_eq_some_iff.1 hj).1
        rcases Nat.lt_or_gt_of_ne hij with hlt | hlt
        · exact nodup_ne hnd hlt (by simp [hj]; exact he) (by simp [hx']; exact e1)
        · exact nodup_ne hnd hlt (by simp [hx']; exact e1) (by simp [hj]; exact he)
  · have hk' : key k' ∈ es.toList.map (·.key) := by
      by_cases e' : k' = k
      · subst e'; exact List.mem_map.2 ⟨e, List.mem_of_getElem? (by simpa using hj), he⟩
      · unfold putG at hg
        rw [if_neg e'] at hg
        obtain ⟨x, hx, ex⟩ := h2 k' b' hg
        exact List.mem_map.2 ⟨x, hx, ex⟩
    rw [← modify_keys j f hkey] at hk'
    obtain ⟨x, hx, ex⟩ := List.mem_map.1 hk'
    exact ⟨x, hx, ex⟩
theorem update_spec (ht : P.underlying t = some (.map kt et)) (hd : P.underlying kt = some d) (hk : ∀ k, IsKey d (key k)) (hi : ∀ k k', key k = key k' → k = k') (h : MapG key val g es clock) (k : κ) (b : β) :
    TriU P (Instr.mapUpdate t (.map (some r)) (key k) (val b)) I ((r, Obj.map es clock) :: F) fun I' G => I' = I ∧ ∃ es' c', G = (r, Obj.map es' c') :: F ∧ MapG key val (putG g k b) es' c' := by
  intro w hw
  have hb : w.heap[r]? = some (.map es clock) := hw.own _ _ (List.mem_cons_self ..)
  rcases h.find hk hi k with ⟨h1, h2, hg⟩ | ⟨j, e, b', h1, h2, h3, h4, hg⟩
  · refine ⟨_, I, _, ?_, Imm.le_refl I, hw.set (w' := { w with heap := w.heap.setIfInBounds r (.map (es.push { key := key k, val := val b, born := clock }) (clock + 1)) }) rfl ⟨rfl, rfl⟩, rfl, _, _, rfl, h.push hi h2 b⟩
    simp [Instr.mapUpdate, run_underlying ht, MapKept.run_getObj_map hb, run_checkKey hd (hk k), run_findKey hd h1, run_setObj_map _ hb, Result.andThen]
  · refine ⟨_, I, _, ?_, Imm.le_refl I, hw.set (w' := { w with heap := w.heap.setIfInBounds r (.map (es.modify j fun e => { e with key := key k, val := val b }) clock) }) rfl ⟨rfl, rfl⟩, rfl, _, _, rfl, h.modify hi h2 h3 b (fun _ => rfl) (fun _ _ => rfl) (fun _ => rfl)⟩
    simp [Instr.mapUpdate, run_underlying ht, MapKept.run_getObj_map hb, run_checkKey hd (hk k), run_findKey hd h1, h2, h3, run_keyThatStays (hk k), run_setObj_map _ hb, Result.andThen]
end
end Go.Vc
namespace Go.Vc
theorem TriU.perm {P : Program} {s : Sem Unit} {I : Imm} {F G : Heap} {Q : Imm → Heap → Prop} (h : TriU P s I F Q) (p : G.Perm F) : TriU P s I G Q := fun w hw => h w (hw.perm p)
theorem TriU.mono {P : Program} {s : Sem Unit} {I : Imm} {F : Heap} {Q Q' : Imm → Heap → Prop} (h : TriU P s I F Q) (k : ∀ I' F', Imm.le I I' → Q I' F' → Q' I' F') : TriU P s I F Q' :=
  fun w hw => let ⟨w', I', F', hr, hl, hs, hq⟩ := h w hw; ⟨w', I', F', hr, hl, hs, k _ _ hl hq⟩
theorem str_key : ∀ s : ByteArray, MapKept.IsKey .string (Value.string s) := fun _ => trivial
theorem str_inj : ∀ s t : ByteArray, Value.string s = Value.string t → s = t := fun _ _ h => by cases h; rfl
end Go.Vc
namespace Go.Lx
open Go.Vc
theorem tSize_spec (t : Nd) (hs : t.px.size ≤ 1048576) (I : Imm) (F : Heap) (ht : NdOk I F t) : Tri P 14 #[t.v] I F (Ret (.int .i64 t.px.size) F) := by
  refine tree_Size.vc ?_
  unfold tree_Size.V
  intro b_n b_many
  have hlen := nodes_len t
  refine (tAll_spec t I _).mono fun e I1 G hI1 ⟨b, he, hb, hG⟩ => ?_
  subst hG
  refine ⟨_, _, _, he, F, .refl _, ?_⟩
  intro Y L Lb Lx D hTr
  refine (tAll_iter hs hb Y #[] #[] (fun k I' G => G.Perm ((b_n, Obj.cells #[.int .u8 t.kind, .int .u8 t.oper, .int .u8 t.typ, .int .i64 t.n, .int .u8 t.field, .string t.name, .slice t.a t.kids.length t.c, .int .i64 t.pos] 28 (0, 0)) :: (b_many, .cells #[.int .i64 (k : Int)] 3 (0, 0)) :: (L ++ F))) (fun _ _ => False) I1 _ (Imm.le_refl _) (fun k I2 I3 F' F'' hp _ hp' => hp'.symm.trans hp) (fun _ _ _ _ h => h.elim) ?_ ?_ (.refl _)).mono ?_
  · exact fun k I2 F2 hle hp => ht.mono (Imm.le_trans hI1 hle) fun x hx => hp.mem_iff.2 (List.mem_cons_of_mem _ (List.mem_cons_of_mem _ (List.mem_append_right _ hx)))
  · intro k x I2 F2 hk hle hp
    have hlt := (List.getElem?_eq_some_iff.1 hk).1
    refine TriV.perm (hTr x.kind x.oper x.typ x.n x.field x.name x.a x.kids.length x.c x.pos k I2 F _ hle ⟨F, .refl _, F, .refl _, .inl ⟨rfl, ?_⟩⟩) hp
    have : IntKind.wrap .i64 ((k : Int) + 1) = ((k + 1 : Nat) : Int) := by rw [w64 (by omega)]; omega
    rw [this]
  · intro e I6 G hI6 ⟨r, he, hq⟩
    rcases hq with hp | hq
    · exact ⟨r, he, .inl ⟨_, F, hp, F, .refl _, by rw [hlen], rfl⟩⟩
    · exact hq.elim
end Go.Lx
namespace Go.Lx
open Go.Vc
def Met (l : List ByteArray) (k : Nat) (g : ByteArray → Option Int) : Prop := ∀ s, (hasS l s = true → ∃ m, g s = some m ∧ 1 ≤ m ∧ m ≤ k) ∧ (hasS l s = false → g s = none)
theorem Met.nil : Met [] 0 fun _ => none := fun s => ⟨fun h => by simp [hasS] at h, fun _ => rfl⟩
theorem Met.mono {l : List ByteArray} {k : Nat} {g : ByteArray → Option Int} (h : Met l k g) : Met l (k + 1) g := fun s => ⟨fun hs => let ⟨m, h1, h2, h3⟩ := (h s).1 hs; ⟨m, h1, h2, by omega⟩, (h s).2⟩
theorem Met.new {l : List ByteArray} {k : Nat} {g : ByteArray → Option Int} (h : Met l k g) {s : ByteArray} : Met (l ++ [s]) (k + 1) (putG g s 1) := fun t => by
  have e : hasS (l ++ [s]) t = (hasS l t || decide (s = t)) := by unfold hasS; rw [List.any_append]; simp
  rw [e]
  unfold putG
  by_cases hts : t = s
  · subst hts; rw [if_pos rfl]; exact ⟨fun _ => ⟨1, rfl, by omega, by omega⟩, fun h => by simp at h⟩
  · rw [if_neg hts]
    have : decide (s = t) = false := decide_eq_false fun e => hts e.symm
    rw [this, Bool.or_false]; exact h.mono t
theorem Met.more {l : List ByteArray} {k : Nat} {g : ByteArray → Option Int} (h : Met l k g) {s : ByteArray} {m : Int} (hs : hasS l s = true) (h1 : 1 ≤ m) (h2 : m ≤ k) : Met l (k + 1) (putG g s (m + 1)) := fun t => by
  unfold putG
  by_cases hts : t = s
  · subst hts; rw [if_pos rfl]; exact ⟨fun _ => ⟨_, rfl, by omega, by omega⟩, fun h => by rw [hs] at h; cases h⟩
  · rw [if_neg hts]; exact h.mono t
theorem tReads_spec (t : Nd) (hs : t.px.size ≤ 1048576) (hw : t.px.Wf) (I : Imm) (F : Heap) (ht : NdOk I F t) :
    Tri P 27 #[t.v] I F fun e I' G => ∃ a n c A, e = .returned (.tuple #[.int .u16 (masks t.px.nodes), .slice a n c]) ∧ Acc 1 encS 9 a n c (namesOf t.px.nodes) A ∧ G = A ++ F := by
  refine Tri.keep (Q := fun e I' G => ∃ a n c A R, e = .returned (.tuple #[.int .u16 (masks t.px.nodes), .slice a n c]) ∧ Acc 1 encS 9 a n c (namesOf t.px.nodes) A ∧ G.Perm (R ++ (A ++ F))) ?_ fun e I' G w hl hsat ⟨a, n, c, A, R, he, hA, hp⟩ => ⟨I', A ++ F, Imm.le_refl _, (hsat.perm hp).drop, a, n, c, A, he, hA, rfl⟩
  refine tree_Reads.vc ?_
  unfold tree_Reads.V
  intro b_n b_m b_l
  have hlen := nodes_len t
  have htm : P.underlying 113 = some (.map 9 3) := by kernel_rfl
  have hts : P.underlying 9 = some .string := by kernel_rfl
  have hti : (P.info? 3).map (·.zero) = some (some (.int .i64 0)) := by kernel_rfl
  refine TriE.mono makeMap_spec fun v I1 G hI1 ⟨r, hv, hI, hG⟩ => ?_
  subst hG hI
  refine ⟨some r, hv, (r, .map #[] 0) :: F, (perm_of fun z => by simp only [cn_app, cn_cons, cn_nil]; omega), fun b_met => ?_⟩
  refine (tAll_spec t I1 _).mono fun e I2 G hI2 ⟨b, he, hb, hG⟩ => ?_
  subst hG
  refine ⟨_, _, _, he, (r, .map #[] 0) :: F, .refl _, ?_⟩
  intro Y L Lb Lx D hTr
  refine (tAll_iter hs hb Y #[] #[] (fun k I' G => ∃ a n c A g es cl, G.Perm ((b_n, Obj.cells #[.int .u8 t.kind, .int .u8 t.oper, .int .u8 t.typ, .int .i64 t.n, .int .u8 t.field, .string t.name, .slice t.a t.kids.length t.c, .int .i64 t.pos] 28 (0, 0)) :: (b_m, Obj.cells #[.int .u16 (masks ((t.nodes.take k).map Nd.px))] 53 (0, 0)) :: (b_l, Obj.cells #[.slice a n c] 54 (0, 0)) :: (b_met, Obj.cells #[.map (some r)] 113 (0, 0)) :: (L ++ (A ++ ((r, .map es cl) :: F)))) ∧ Acc 1 encS 9 a n c (namesOf ((t.nodes.take k).map Nd.px)) A ∧
    MapG Value.string (Value.int .i64) g es cl ∧ Met (namesOf ((t.nodes.take k).map Nd.px)) k g) (fun _ _ => False) I2 _ (Imm.le_refl _) (fun k I2 I3 F' F'' ⟨a, n, c, A, g, es, cl, hp, hq⟩ _ hp' => ⟨a, n, c, A, g, es, cl, hp'.symm.trans hp, hq⟩) (fun _ _ _ _ h => h.elim) ?_ ?_ ⟨none, 0, 0, [], _, _, _, .refl _, Acc.nil, MapG.nil 0, Met.nil⟩).mono ?_
  · exact fun k I3 F3 hle ⟨a, n, c, A, g, es, cl, hp, _⟩ => ht.mono (Imm.le_trans hI2 hle) fun x hx => hp.mem_iff.2 (by simp only [List.mem_cons, List.mem_append]; exact .inr (.inr (.inr (.inr (.inr (.inr (.inr hx)))))))
  · intro k x I3 F3 hk hle ⟨a, n, c, A, g, es, cl, hp, hA, hM, hmet⟩
    have hlt := (List.getElem?_eq_some_iff.1 hk).1
    have hfit := Wf.nd hw x (List.mem_of_getElem? hk)
    have hf0 : 0 ≤ x.field := by have := hfit.2.2.2.2.1.1; rwa [Nd.px_field] at this
    have hnl := names_len ((t.nodes.take k).map Nd.px)
    rw [List.length_map, List.length_take] at hnl
    have hmk := mask_take hk
    have hnk := names_take hk
    unfold rdMask at hmk
    unfold rdNames at hnk
    rw [Nd.px_kind, Nd.px_field] at hmk
    rw [Nd.px_kind, Nd.px_name] at hnk
    refine TriV.perm (hTr x.kind x.oper x.typ x.n x.field x.name x.a x.kids.length x.c x.pos (masks ((t.nodes.take k).map Nd.px)) a n c I3 (A ++ ((r, .map es cl) :: F)) _ hle ?_) hp
    intro b_x
    have fin : ∀ m1 : Int, x.kind ≠ 2 → m1 = masks ((t.nodes.take (k + 1)).map Nd.px) → Went (fun k I' G => ∃ a n c A g es cl, G.Perm ((b_n, Obj.cells #[.int .u8 t.kind, .int .u8 t.oper, .int .u8 t.typ, .int .i64 t.n, .int .u8 t.field, .string t.name, .slice t.a t.kids.length t.c, .int .i64 t.pos] 28 (0, 0)) :: (b_m, Obj.cells #[.int .u16 (masks ((t.nodes.take k).map Nd.px))] 53 (0, 0)) :: (b_l, Obj.cells #[.slice a n c] 54 (0, 0)) :: (b_met, Obj.cells #[.map (some r)] 113 (0, 0)) :: (L ++ (A ++ ((r, .map es cl) :: F)))) ∧ Acc 1 encS 9 a n c (namesOf ((t.nodes.take k).map Nd.px)) A ∧
        MapG Value.string (Value.int .i64) g es cl ∧ Met (namesOf ((t.nodes.take k).map Nd.px)) k g) (fun _ _ => False) (k + 1) (.returned (.bool true)) I3 ((b_n, Obj.cells #[.int .u8 t.kind, .int .u8 t.oper, .int .u8 t.typ, .int .i64 t.n, .int .u8 t.field, .string t.name, .slice t.a t.kids.length t.c, .int .i64 t.pos] 28 (0, 0)) :: (b_m, Obj.cells #[.int .u16 (m1)] 53 (0, 0)) :: (b_l, Obj.cells #[.slice a n c] 54 (0, 0)) :: (b_met, Obj.cells #[.map (some r)] 113 (0, 0)) :: (L ++ (A ++ ((r, .map es cl) :: F)))) := fun m1 hk2 hm1 => by
      refine .inl ⟨rfl, a, n, c, A, g, es, cl, by rw [hm1], ?_⟩
      rw [if_neg (fun h => hk2 h.1)] at hnk
      rw [hnk]; exact ⟨hA, hM, hmet.mono⟩
    refine ⟨A ++ ((r, .map es cl) :: F), .refl _, fun h3 => ⟨fun h16 => ⟨hf0, _, .refl _, fin _ ?_ ?_⟩, fun h16 => ⟨_, .refl _, fin _ ?_ ?_⟩⟩, fun h3 => ⟨fun h4 => ⟨fun h16 => ⟨hf0, _, .refl _, fin _ ?_ ?_⟩, fun h16 => ⟨_, .refl _, fin _ ?_ ?_⟩⟩, fun h4 => ⟨fun h2 => ?_, fun h2 => ⟨_, .refl _, fin _ ?_ ?_⟩⟩⟩⟩
    all_goals (try have h16 := of_decide_eq_true h16)
    all_goals (try have h16 := of_decide_eq_false h16)
    all_goals (simp only [beq_iff_eq, beq_eq_false_iff_ne] at h3)
    all_goals (try simp only [beq_iff_eq, beq_eq_false_iff_ne] at h4)
    all_goals (try simp only [beq_iff_eq, beq_eq_false_iff_ne] at h2)
    all_goals first
      | omega
      | (rw [hmk]; split <;> first | rfl | (exfalso; omega))
      | skip
    have hmk' : masks ((t.nodes.take (k + 1)).map Nd.px) = masks ((t.nodes.take k).map Nd.px) := by rw [hmk, if_neg (by omega)]
    refine TriE.mono (lookup_one htm hts str_key str_inj hti hM (.inr (by simp)) x.name) fun v1 I4 G4 hI4 ⟨hv1, hI, hG⟩ => ?_
    subst hI hG
    by_cases hin : hasS (namesOf ((t.nodes.take k).map Nd.px)) x.name = true
    · obtain ⟨m, hg, hm1, hm2⟩ := (hmet x.name).1 hin
      rw [hg] at hv1
      refine ⟨m, hv1, Lb ++ (A ++ ((r, .map es cl) :: F)), .refl _, fun h => ?_, fun _ => ?_⟩
      · have : m = 0 := by simpa using h
        omega
      refine TriE.mono (lookup_one htm hts str_key str_inj hti hM (.inr (by simp)) x.name) fun v2 I5 G5 hI5 ⟨hv2, hI, hG⟩ => ?_
      subst hI hG
      rw [hg] at hv2
      refine ⟨m, hv2, Lb ++ (A ++ ((r, .map es cl) :: F)), .refl _, ?_⟩
      have hw1 : IntKind.wrap .i64 (m + 1) = m + 1 := w64 (by omega)
      rw [hw1]
      refine TriU.perm (TriU.mono (update_spec htm hts str_key str_inj hM x.name (m + 1) (F := (b_n, Obj.cells #[.int .u8 t.kind, .int .u8 t.oper, .int .u8 t.typ, .int .i64 t.n, .int .u8 t.field, .string t.name, .slice t.a t.kids.length t.c, .int .i64 t.pos] 28 (0, 0)) :: (b_m, Obj.cells #[.int .u16 (masks ((t.nodes.take k).map Nd.px))] 53 (0, 0)) :: (b_l, Obj.cells #[.slice a n c] 54 (0, 0)) :: (b_met, Obj.cells #[.map (some r)] 113 (0, 0)) :: (b_x, Obj.cells #[.int .u8 x.kind, .int .u8 x.oper, .int .u8 x.typ, .int .i64 x.n, .int .u8 x.field, .string x.name, .slice x.a x.kids.length x.c, .int .i64 x.pos] 28 (0, 0)) :: (Lb ++ (A ++ F)))) fun I6 G6 hI6 ⟨hI, es', cl', hG, hM'⟩ => ?_) (perm_of fun z => by simp only [cn_app, cn_cons, cn_nil]; omega)
      subst hI hG
      refine ⟨Lb ++ (A ++ ((r, .map es' cl') :: F)), (perm_of fun z => by simp only [cn_app, cn_cons, cn_nil]; omega), A ++ ((r, .map es' cl') :: F), .refl _, .inl ⟨rfl, a, n, c, A, _, es', cl', by rw [hmk'], ?_, hM', ?_⟩⟩
      · rw [hnk, if_neg (fun h => by rw [hin] at h; cases h.2)]; exact hA
      · rw [hnk, if_neg (fun h => by rw [hin] at h; cases h.2)]; exact hmet.more hin hm1 hm2
    · have hin : hasS (namesOf ((t.nodes.take k).map Nd.px)) x.name = false := by simpa using hin
      have hg := (hmet x.name).2 hin
      rw [hg] at hv1
      refine ⟨0, hv1, Lb ++ (A ++ ((r, .map es cl) :: F)), .refl _, fun _ => ?_, fun h => by (cases h)⟩
      intro b I5 hI5 hb5
      refine TriE.perm (TriE.mono (append_str hA (by omega) x.name rfl hb5 (F := (b_n, Obj.cells #[.int .u8 t.kind, .int .u8 t.oper, .int .u8 t.typ, .int .i64 t.n, .int .u8 t.field, .string t.name, .slice t.a t.kids.length t.c, .int .i64 t.pos] 28 (0, 0)) :: (b_m, Obj.cells #[.int .u16 (masks ((t.nodes.take k).map Nd.px))] 53 (0, 0)) :: (b_l, Obj.cells #[.slice a n c] 54 (0, 0)) :: (b_met, Obj.cells #[.map (some r)] 113 (0, 0)) :: (b_x, Obj.cells #[.int .u8 x.kind, .int .u8 x.oper, .int .u8 x.typ, .int .i64 x.n, .int .u8 x.field, .string x.name, .slice x.a x.kids.length x.c, .int .i64 x.pos] 28 (0, 0)) :: (Lb ++ ((r, .map es cl) :: F)))) fun v3 I6 G6 hI6 ⟨a', n', c', A', hv3, hA', hG⟩ => ?_) (perm_of fun z => by simp only [cn_app, cn_cons, cn_nil]; omega)
      subst hG
      refine ⟨a', n', c', hv3, Lb ++ (A' ++ ((r, .map es cl) :: F)), (perm_of fun z => by simp only [cn_app, cn_cons, cn_nil]; omega), ?_⟩
      refine TriE.mono (lookup_one htm hts str_key str_inj hti hM (.inr (by simp)) x.name) fun v2 I7 G7 hI7 ⟨hv2, hI, hG⟩ => ?_
      subst hI hG
      rw [hg] at hv2
      refine ⟨0, hv2, Lb ++ (A' ++ ((r, .map es cl) :: F)), .refl _, ?_⟩
      refine TriU.perm (TriU.mono (update_spec htm hts str_key str_inj hM x.name (1 : Int) (F := (b_n, Obj.cells #[.int .u8 t.kind, .int .u8 t.oper, .int .u8 t.typ, .int .i64 t.n, .int .u8 t.field, .string t.name, .slice t.a t.kids.length t.c, .int .i64 t.pos] 28 (0, 0)) :: (b_m, Obj.cells #[.int .u16 (masks ((t.nodes.take k).map Nd.px))] 53 (0, 0)) :: (b_l, Obj.cells #[.slice a' n' c'] 54 (0, 0)) :: (b_met, Obj.cells #[.map (some r)] 113 (0, 0)) :: (b_x, Obj.cells #[.int .u8 x.kind, .int .u8 x.oper, .int .u8 x.typ, .int .i64 x.n, .int .u8 x.field, .string x.name, .slice x.a x.kids.length x.c, .int .i64 x.pos] 28 (0, 0)) :: (Lb ++ (A' ++ F)))) fun I8 G8 hI8 ⟨hI, es', cl', hG, hM'⟩ => ?_) (perm_of fun z => by simp only [cn_app, cn_cons, cn_nil]; omega)
      subst hI hG
      refine ⟨Lb ++ (A' ++ ((r, .map es' cl') :: F)), (perm_of fun z => by simp only [cn_app, cn_cons, cn_nil]; omega), A' ++ ((r, .map es' cl') :: F), .refl _, .inl ⟨rfl, a', n', c', A', _, es', cl', by rw [hmk'], ?_, hM', ?_⟩⟩
      · rw [hnk, if_pos ⟨h2, hin⟩]; exact hA'
      · rw [hnk, if_pos ⟨h2, hin⟩]; exact hmet.new
  · intro e I6 G hI6 ⟨r1, he, hq⟩
    rcases hq with ⟨a, n, c, A, g, es, cl, hp, hA, _⟩ | hq
    · rw [List.take_length, nodes_px] at hp hA
      exact ⟨r1, he, .inl ⟨_, a, n, c, A ++ ((r, .map es cl) :: F), hp, A ++ ((r, .map es cl) :: F), .refl _, a, n, c, A, [(r, .map es cl)], rfl, hA, (perm_of fun z => by simp only [cn_app, cn_cons, cn_nil]; omega)⟩⟩
    · exact hq.elim
end Go.Lx
namespace Go.Lx
open Go.Vc
structure RegP where
  name : ByteArray
  typ : Int
  init : Px
  pos : Int
structure SlotP where
  name : ByteArray
  pos : Int
structure DoP where
  kind : Int
  order : Int
  name : ByteArray
  side : Px
  qty : Px
  price : Px
  value : Px
  pos : Int
structure RuleP where
  when : Px
  dos : List DoP
  pos : Int
structure StateP where
  name : ByteArray
  rules : List RuleP
  pos : Int
structure StgP where
  name : ByteArray
  regs : List RegP
  slots : List SlotP
  states : List StateP
structure RegN where
  name : ByteArray
  typ : Int
  init : Nd
  pos : Int
structure DoN where
  kind : Int
  order : Int
  name : ByteArray
  side : Nd
  qty : Nd
  price : Nd
  value : Nd
  pos : Int
structure RuleN where
  when : Nd
  a : Option Addr
  c : Nat
  dos : List DoN
  pos : Int
structure StateN where
  name : ByteArray
  a : Option Addr
  c : Nat
  rules : List RuleN
  pos : Int
structure StgN where
  name : ByteArray
  ra : Option Addr
  rc : Nat
  regs : List RegN
  sa : Option Addr
  sc : Nat
  slots : List SlotP
  ta : Option Addr
  tc : Nat
  states : List StateN
def RegN.p (r : RegN) : RegP := ⟨r.name, r.typ, r.init.px, r.pos⟩
def DoN.p (d : DoN) : DoP := ⟨d.kind, d.order, d.name, d.side.px, d.qty.px, d.price.px, d.value.px, d.pos⟩
def RuleN.p (r : RuleN) : RuleP := ⟨r.when.px, r.dos.map DoN.p, r.pos⟩
def StateN.p (s : StateN) : StateP := ⟨s.name, s.rules.map RuleN.p, s.pos⟩
def StgN.p (s : StgN) : StgP := ⟨s.name, s.regs.map RegN.p, s.slots, s.states.map StateN.p⟩
abbrev RegN.enc (r : RegN) : List Value := [.string r.name, .int .u8 r.typ, .int .u8 r.init.kind, .int .u8 r.init.oper, .int .u8 r.init.typ, .int .i64 r.init.n, .int .u8 r.init.field, .string r.init.name, .slice r.init.a r.init.kids.length r.init.c, .int .i64 r.init.pos, .int .i64 r.pos]
abbrev SlotP.enc (r : SlotP) : List Value := [.string r.name, .int .i64 r.pos]
abbrev DoN.enc (d : DoN) : List Value := [.int .u8 d.kind, .int .u8 d.order, .string d.name, .int .u8 d.side.kind, .int .u8 d.side.oper, .int .u8 d.side.typ, .int .i64 d.side.n, .int .u8 d.side.field, .string d.side.name, .slice d.side.a d.side.kids.length d.side.c, .int .i64 d.side.pos, .int .u8 d.qty.kind, .int .u8 d.qty.oper, .int .u8 d.qty.typ, .int .i64 d.qty.n, .int .u8 d.qty.field, .string d.qty.name, .slice d.qty.a d.qty.kids.length d.qty.c, .int .i64 d.qty.pos, .int .u8 d.price.kind, .int .u8 d.price.oper, .int .u8 d.price.typ, .int .i64 d.price.n, .int .u8 d.price.field, .string d.price.name, .slice d.price.a d.price.kids.length d.price.c, .int .i64 d.price.pos, .int .u8 d.value.kind, .int .u8 d.value.oper, .int .u8 d.value.typ, .int .i64 d.value.n, .int .u8 d.value.field, .string d.value.name, .slice d.value.a d.value.kids.length d.value.c, .int .i64 d.value.pos, .int .i64 d.pos]
abbrev RuleN.enc (r : RuleN) : List Value := [.int .u8 r.when.kind, .int .u8 r.when.oper, .int .u8 r.when.typ, .int .i64 r.when.n, .int .u8 r.when.field, .string r.when.name, .slice r.when.a r.when.kids.length r.when.c, .int .i64 r.when.pos, .slice r.a r.dos.length r.c, .int .i64 r.pos]
abbrev StateN.enc (s : StateN) : List Value := [.string s.name, .slice s.a s.rules.length s.c, .int .i64 s.pos]
abbrev RegN.v (r : RegN) : Value := .agg #[.string r.name, .int .u8 r.typ, .int .u8 r.init.kind, .int .u8 r.init.oper, .int .u8 r.init.typ, .int .i64 r.init.n, .int .u8 r.init.field, .string r.init.name, .slice r.init.a r.init.kids.length r.init.c, .int .i64 r.init.pos, .int .i64 r.pos]
abbrev SlotP.v (r : SlotP) : Value := .agg #[.string r.name, .int .i64 r.pos]
abbrev DoN.v (d : DoN) : Value := .agg #[.int .u8 d.kind, .int .u8 d.order, .string d.name, .int .u8 d.side.kind, .int .u8 d.side.oper, .int .u8 d.side.typ, .int .i64 d.side.n, .int .u8 d.side.field, .string d.side.name, .slice d.side.a d.side.kids.length d.side.c, .int .i64 d.side.pos, .int .u8 d.qty.kind, .int .u8 d.qty.oper, .int .u8 d.qty.typ, .int .i64 d.qty.n, .int .u8 d.qty.field, .string d.qty.name, .slice d.qty.a d.qty.kids.length d.qty.c, .int .i64 d.qty.pos, .int .u8 d.price.kind, .int .u8 d.price.oper, .int .u8 d.price.typ, .int .i64 d.price.n, .int .u8 d.price.field, .string d.price.name, .slice d.price.a d.price.kids.length d.price.c, .int .i64 d.price.pos, .int .u8 d.value.kind, .int .u8 d.value.oper, .int .u8 d.value.typ, .int .i64 d.value.n, .int .u8 d.value.field, .string d.value.name, .slice d.value.a d.value.kids.length d.value.c, .int .i64 d.value.pos, .int .i64 d.pos]
abbrev RuleN.v (r : RuleN) : Value := .agg #[.int .u8 r.when.kind, .int .u8 r.when.oper, .int .u8 r.when.typ, .int .i64 r.when.n, .int .u8 r.when.field, .string r.when.name, .slice r.when.a r.when.kids.length r.when.c, .int .i64 r.when.pos, .slice r.a r.dos.length r.c, .int .i64 r.pos]
abbrev StateN.v (s : StateN) : Value := .agg #[.string s.name, .slice s.a s.rules.length s.c, .int .i64 s.pos]
abbrev StgN.enc (s : StgN) : List Value := [.string s.name, .slice s.ra s.regs.length s.rc, .slice s.sa s.slots.length s.sc, .slice s.ta s.states.length s.tc]
abbrev StgN.v (s : StgN) : Value := .agg #[.string s.name, .slice s.ra s.regs.length s.rc, .slice s.sa s.slots.length s.sc, .slice s.ta s.states.length s.tc]
def RegN.Ok (I : Imm) (G : Heap) (r : RegN) : Prop := NdOk I G r.init
def DoN.Ok (I : Imm) (G : Heap) (d : DoN) : Prop := NdOk I G d.side ∧ NdOk I G d.qty ∧ NdOk I G d.price ∧ NdOk I G d.value
def RuleN.Ok (I : Imm) (G : Heap) (r : RuleN) : Prop := NdOk I G r.when ∧ SlG I G 36 DoN.enc r.a r.dos.length r.dos ∧ ∀ d ∈ r.dos, d.Ok I G
def StateN.Ok (I : Imm) (G : Heap) (s : StateN) : Prop := SlG I G 10 RuleN.enc s.a s.rules.length s.rules ∧ ∀ r ∈ s.rules, r.Ok I G
structure StgN.Ok (I : Imm) (G : Heap) (s : StgN) : Prop where
  regs : SlG I G 11 RegN.enc s.ra s.regs.length s.regs
  reg : ∀ r ∈ s.regs, r.Ok I G
  slots : SlG I G 2 SlotP.enc s.sa s.slots.length s.slots
  states : SlG I G 3 StateN.enc s.ta s.states.length s.states
  state : ∀ x ∈ s.states, x.Ok I G
section
variable {I J : Imm} {G H : Heap}
theorem RegN.Ok.mono {r : RegN} (h : r.Ok I G) (hl : Imm.le I J) (hs : ∀ x, x ∈ G → x ∈ H) : r.Ok J H := NdOk.mono h hl hs
theorem DoN.Ok.mono {d : DoN} (h : d.Ok I G) (hl : Imm.le I J) (hs : ∀ x, x ∈ G → x ∈ H) : d.Ok J H := ⟨h.1.mono hl hs, h.2.1.mono hl hs, h.2.2.1.mono hl hs, h.2.2.2.mono hl hs⟩
theorem RuleN.Ok.mono {r : RuleN} (h : r.Ok I G) (hl : Imm.le I J) (hs : ∀ x, x ∈ G → x ∈ H) : r.Ok J H := ⟨h.1.mono hl hs, h.2.1.mono hl hs, fun d hd => (h.2.2 d hd).mono hl hs⟩
theorem StateN.Ok.mono {s : StateN} (h : s.Ok I G) (hl : Imm.le I J) (hs : ∀ x, x ∈ G → x ∈ H) : s.Ok J H := ⟨h.1.mono hl hs, fun r hr => (h.2 r hr).mono hl hs⟩
theorem StgN.Ok.mono {s : StgN} (h : s.Ok I G) (hl : Imm.le I J) (hs : ∀ x, x ∈ G → x ∈ H) : s.Ok J H :=
  ⟨h.regs.mono hl hs, fun r hr => (h.reg r hr).mono hl hs, h.slots.mono hl hs, h.states.mono hl hs, fun r hr => (h.state r hr).mono hl hs⟩
theorem StgN.Ok.cons {s : StgN} (h : s.Ok I G) {x : Nat × Obj} : s.Ok I (x :: G) := h.mono (Imm.le_refl I) fun _ h => List.mem_cons_of_mem _ h
theorem RuleN.Ok.cons {s : RuleN} (h : s.Ok I G) {x : Nat × Obj} : s.Ok I (x :: G) := h.mono (Imm.le_refl I) fun _ h => List.mem_cons_of_mem _ h
theorem StateN.Ok.cons {s : StateN} (h : s.Ok I G) {x : Nat × Obj} : s.Ok I (x :: G) := h.mono (Imm.le_refl I) fun _ h => List.mem_cons_of_mem _ h
theorem DoN.Ok.cons {s : DoN} (h : s.Ok I G) {x : Nat × Obj} : s.Ok I (x :: G) := h.mono (Imm.le_refl I) fun _ h => List.mem_cons_of_mem _ h
end
def DoP.nds (d : DoP) : List Px := [d.side, d.qty, d.price, d.value]
def RuleP.nds (r : RuleP) : List Px := r.when :: r.dos.flatMap DoP.nds
def StgP.nds (s : StgP) : List Px := s.regs.map RegP.init ++ s.states.flatMap fun x => x.rules.flatMap RuleP.nds
def errB (b : Bool) (n : Int) : Int := if b then 0 else n
def thenE (a b : Int) : Int := if a = 0 then b else a
def Px.noneB (x : Px) : Bool := x.kind == 0 && (x.oper == 0 && (x.typ == 0 && (x.n == 0 && (x.field == 0 && (x.name.toList == []))))) && decide (x.kids.length = 0)
def partE (is : Bool) (x : Px) : Int := if is then x.checkE else errB x.noneB 120
def Px.beginB (x : Px) : Bool := if x.kind = 5 ∧ x.oper = 1 then (match x.kids with | k :: _ => decide (k.kind = 1 ∧ k.typ ≤ 4) | [] => false) else decide (x.kind = 1)
def RegP.check (r : RegP) : Int := errB (nameB r.name && (decide (1 ≤ r.typ ∧ r.typ ≤ 6) && (r.init.formed && r.init.beginB))) 120
def DoP.kindB (d : DoP) : Bool := decide (1 ≤ d.kind ∧ d.kind ≤ 6)
def DoP.orderB (d : DoP) : Bool := decide (d.kind = 1 ∧ 1 ≤ d.order ∧ d.order ≤ 5 ∨ d.kind ≠ 1 ∧ d.order = 0)
def DoP.nameB (d : DoP) : Bool := if d.kind = 6 then d.name.toList == [] else if d.kind ≠ 1 ∨ d.name.toList ≠ [] then Lx.nameB d.name else true
def DoP.check (d : DoP) : Int := thenE (errB d.kindB 120) (thenE (errB d.orderB 120) (thenE (errB d.nameB 120) (thenE (partE (decide (d.kind = 1)) d.side) (thenE (partE (decide (d.kind = 1 ∨ d.kind = 2)) d.qty)
  (thenE (partE (decide (d.kind = 1 ∧ d.order ≠ 2 ∨ d.kind = 2)) d.price) (partE (decide (d.kind = 4)) d.value))))))
def firstE {α : Type} (f : α → Int) : List α → Int
  | [] => 0
  | x :: r => thenE (f x) (firstE f r)
def RuleP.check (r : RuleP) : Int := thenE r.when.checkE (thenE (errB (decide (0 < r.dos.length)) 120) (thenE (errB (decide (r.dos.length ≤ 8)) 121) (firstE DoP.check r.dos)))
def StateP.check (s : StateP) : Int := thenE (errB (nameB s.name) 120) (thenE (errB (decide (s.rules.length ≤ 12)) 121) (firstE RuleP.check s.rules))
def SlotP.check (s : SlotP) : Int := errB (nameB s.name) 120
def StgP.check (s : StgP) : Int := thenE (errB (nameB s.name) 120) (thenE (errB (decide (s.regs.length ≤ 12)) 121) (thenE (firstE RegP.check s.regs) (thenE (errB (decide (s.slots.length ≤ 4)) 121) (thenE (firstE SlotP.check s.slots)
  (thenE (errB (decide (0 < s.states.length)) 120) (thenE (errB (decide (s.states.length ≤ 12)) 121) (firstE StateP.check s.states)))))))
theorem thenE_zero (b : Int) : thenE 0 b = b := rfl
theorem thenE_ne {a : Int} (h : a ≠ 0) (b : Int) : thenE a b = a := if_neg h
theorem thenE_assoc (a b c : Int) : thenE (thenE a b) c = thenE a (thenE b c) := by unfold thenE; split <;> simp [*]
end Go.Lx
namespace Go.Lx
open Go.Vc
def shT_t4 : List (Nat × List Sh) := [(0, []), (3, [.one (.int .i64)]), (4, [.one .bool]), (9, [.one .str]), (28, [.agg [(.int .u8), (.int .u8), (.int .u8), (.int .i64), (.int .u8), .str, .slc, (.int .i64)]]), (32, [.one (.int .i64)]), (55, [.one (.int .u16), .one .slc]), (82, [.one .slc]), (83, [.one .slc]), (84, [.one .slc]), (86, [.agg [.str, .slc, .slc, .slc]]), (90, [.agg [(.int .u8), (.int .u8), (.int .u8), (.int .i64), (.int .u8), .str, .slc, (.int .i64), .slc, (.int .i64)]]), (91, [.one .slc]), (93, [.agg [.str, .slc, (.int .i64)]]), (97, [.agg [(.int .u8), (.int .u8), (.int .u8), (.int .i64), (.int .u8), .str]]), (128, [.agg [.str, (.int .u8), (.int .u8), (.int .u8), (.int .u8), (.int .i64), (.int .u8), .str, .slc, (.int .i64), (.int .i64)]]), (130, [.agg [.str, (.int .i64)]]), (135, [.agg [(.int .u8), (.int .u8), .str, (.int .u8), (.int .u8), (.int .u8), (.int .i64), (.int .u8), .str, .slc, (.int .i64), (.int .u8), (.int .u8), (.int .u8), (.int .i64), (.int .u8), .str, .slc, (.int .i64), (.int .u8), (.int .u8), (.int .u8), (.int .i64), (.int .u8), .str, .slc, (.int .i64), (.int .u8), (.int .u8), (.int .u8), (.int .i64), (.int .u8), .str, .slc, (.int .i64), (.int .i64)]])]
set_option maxRecDepth 100000 in
def tree_Check.V (vl : Option Addr → Nat → Nat → Value) (s_0 : ByteArray) (s_1_a : Option Addr) (s_1_n s_1_c : Nat) (s_2_a : Option Addr) (s_2_n s_2_c : Nat) (s_3_a : Option Addr) (s_3_n s_3_c : Nat) (I : Imm) (F : Heap) (Q : PostQ)  : Prop := ∀ b_s : Nat, Tri P 39 (#[Value.func (.func 79) #[] #[Value.pointer (some ⟨b_s, 0, none⟩)]]) I ((b_s, Obj.cells #[Value.string s_0, vl s_1_a s_1_n s_1_c, vl s_2_a s_2_n s_2_c, vl s_3_a s_3_n s_3_c] 86 (0, 0)) :: F) fun e1 I1 G1 => ∃ (r : Int), e1 = .returned (Value.int .i64 r) ∧ ∃ (b_s_0 : ByteArray) (b_s_1_a : Option Addr) (b_s_1_n b_s_1_c : Nat) (b_s_2_a : Option Addr) (b_s_2_n b_s_2_c : Nat) (b_s_3_a : Option Addr) (b_s_3_n b_s_3_c : Nat), ∃ F1 : Heap, List.Perm G1 ((b_s, Obj.cells #[Value.string b_s_0, vl b_s_1_a b_s_1_n b_s_1_c, vl b_s_2_a b_s_2_n b_s_2_c, vl b_s_3_a b_s_3_n b_s_3_c] 86 (0, 0)) :: F1) ∧ Q (.returned (Value.int .i64 r)) I1 (F1)
set_option maxRecDepth 100000 in
theorem tree_Check.vc {s_0 : ByteArray} {s_1_a : Option Addr} {s_1_n s_1_c : Nat} {s_2_a : Option Addr} {s_2_n s_2_c : Nat} {s_3_a : Option Addr} {s_3_n s_3_c : Nat} {I : Imm} {F : Heap} {Q : PostQ}  (h : tree_Check.V .slice s_0 s_1_a s_1_n s_1_c s_2_a s_2_n s_2_c s_3_a s_3_n s_3_c I F Q) : Tri P 36 #[Value.agg #[Value.string s_0, Value.slice s_1_a s_1_n s_1_c, Value.slice s_2_a s_2_n s_2_c, Value.slice s_3_a s_3_n s_3_c]] I (F) Q :=
  tri_of_V (A := (annL [] [] [39] shT_t4 [] [] [] [] [] [] [])) (args := [.a (.v (Value.agg #[Value.string s_0, Value.slice s_1_a s_1_n s_1_c, Value.slice s_2_a s_2_n s_2_c, Value.slice s_3_a s_3_n s_3_c]))]) (own := []) (keep := []) [39] Go.Proofs.Try.func36 h (by kernel_rfl) (by kernel_rfl) (by kernel_rfl) (by kernel_rfl) (by kernel_rfl) (by simp [AV.wf, At.wf]) (by simp [AV.wf, At.wf]) rfl
set_option maxRecDepth 100000 in
def tree_Check_1.V (nV : Int → Int → Int → Int → Int → ByteArray → Option Addr → Nat → Nat → Int → Value) (vb vi : Int → Value) (vs : ByteArray → Value) (vl : Option Addr → Nat → Nat → Value) (vt : Bool → Value) (wr : Int → Int) (c : Addr) (I : Imm) (F : Heap) (Q : PostQ) (Inv8 : Int → Nat → Imm → Heap → Imm → Heap → Prop) (Inv31 : Int → Nat → Imm → Heap → Imm → Heap → Prop) (Inv51 : Int → Nat → Imm → Heap → Imm → Heap → Prop) (Inv69 : Int → Int → Nat → Imm → Heap → Imm → Heap → Prop) : Prop := ∃ (m : ByteArray), Rd I (F) (c.add 0) [vs m] ∧ Tri P 80 (#[vs m]) I (F) fun e1 I1 G1 => ((e1 = .returned (Value.tuple #[]) ∧ ∃ F1 : Heap, List.Perm G1 (F1) ∧ ∃ (m_a : Option Addr) (m_n m_c : Nat), Rd I1 (F1) (c.add 1) [vl m_a m_n m_c] ∧ Tri P 81 (#[vt (decide (((m_n : Nat) : Int) ≤ 12)), vi 121]) I1 (F1) fun e2 I2 G2 => ((e2 = .returned (Value.tuple #[]) ∧ ∃ F2 : Heap, List.Perm G2 (F2) ∧ ∃ (m_a1 : Option Addr) (m_n1 m_c1 : Nat), Rd I2 (F2) (c.add 1) [vl m_a1 m_n1 m_c1] ∧ (∃ m1 : Nat, Inv8 0 m1 I2 F2 I2 F2) ∧ ∀ (x : Int) (m2 : Nat) (I3 : Imm) (F3 : Heap), Imm.le I2 I3 → Inv8 x m2 I2 F2 I3 F3 → ((decide (x < ((m_n1 : Nat) : Int)) = true → ((0 ≤ x ∧ x < (m_n1 : Int)) ∧ ∃ ad : Addr, m_a1 = some ad ∧ ∃ (m_0 : ByteArray) (m_1 m_2 m_3 m_4 m_5 m_6 : Int) (m_7 : ByteArray) (m_8_a : Option Addr) (m_8_n m_8_c : Nat) (m_9 m_10 : Int), Rd I3 (F3) (ad.add (Int.toNat (x) * 11)) [vs m_0, vb m_1, vb m_2, vb m_3, vb m_4, vi m_5, vb m_6, vs m_7, vl m_8_a m_8_n m_8_c, vi m_9, vi m_10] ∧ ∀ b_r : Nat, Tri P 80 (#[vs m_0]) I3 ((b_r, Obj.cells #[vs m_0, vb m_1, vb m_2, vb m_3, vb m_4, vi m_5, vb m_6, vs m_7, vl m_8_a m_8_n m_8_c, vi m_9, vi m_10] 128 (0, 0)) :: F3) fun e3 I4 G3 => ((e3 = .returned (Value.tuple #[]) ∧ ∃ F4 : Heap, List.Perm G3 ((b_r, Obj.cells #[vs m_0, vb m_1, vb m_2, vb m_3, vb m_4, vi m_5, vb m_6, vs m_7, vl m_8_a m_8_n m_8_c, vi m_9, vi m_10] 128 (0, 0)) :: F4) ∧ ((decide (1 ≤ m_1) = true → Tri P 81 (#[vt (decide (m_1 ≤ 6)), vi 120]) I4 ((b_r, Obj.cells #[vs m_0, vb m_1, vb m_2, vb m_3, vb m_4, vi m_5, vb m_6, vs m_7, vl m_8_a m_8_n m_8_c, vi m_9, vi m_10] 128 (0, 0)) :: F4) fun e4 I5 G4 => ((e4 = .returned (Value.tuple #[]) ∧ ∃ F5 : Heap, List.Perm G4 ((b_r, Obj.cells #[vs m_0, vb m_1, vb m_2, vb m_3, vb m_4, vi m_5, vb m_6, vs m_7, vl m_8_a m_8_n m_8_c, vi m_9, vi m_10] 128 (0, 0)) :: F5) ∧ Tri P 82 (#[nV m_2 m_3 m_4 m_5 m_6 m_7 m_8_a m_8_n m_8_c m_9]) I5 ((b_r, Obj.cells #[vs m_0, vb m_1, vb m_2, vb m_3, vb m_4, vi m_5, vb m_6, vs m_7, vl m_8_a m_8_n m_8_c, vi m_9, vi m_10] 128 (0, 0)) :: F5) fun e5 I6 G5 => ((e5 = .returned (Value.tuple #[]) ∧ ∃ F6 : Heap, List.Perm G5 ((b_r, Obj.cells #[vs m_0, vb m_1, vb m_2, vb m_3, vb m_4, vi m_5, vb m_6, vs m_7, vl m_8_a m_8_n m_8_c, vi m_9, vi m_10] 128 (0, 0)) :: F6) ∧ (∃ m3 : Nat, m3 < m2 ∧ Inv8 (wr (x + 1)) m3 I2 F2 I6 F6)) ∨ (∃ ch : List PanicEntry, e5 = .panicked ch ∧ ∃ F7 : Heap, List.Perm G5 ((b_r, Obj.cells #[vs m_0, vb m_1, vb m_2, vb m_3, vb m_4, vi m_5, vb m_6, vs m_7, vl m_8_a m_8_n m_8_c, vi m_9, vi m_10] 128 (0, 0)) :: F7) ∧ Q (.panicked ch) I6 (F7)))) ∨ (∃ ch1 : List PanicEntry, e4 = .panicked ch1 ∧ ∃ F8 : Heap, List.Perm G4 ((b_r, Obj.cells #[vs m_0, vb m_1, vb m_2, vb m_3, vb m_4, vi m_5, vb m_6, vs m_7, vl m_8_a m_8_n m_8_c, vi m_9, vi m_10] 128 (0, 0)) :: F8) ∧ Q (.panicked ch1) I5 (F8)))) ∧ (decide (1 ≤ m_1) = false → Tri P 81 (#[vt false, vi 120]) I4 ((b_r, Obj.cells #[vs m_0, vb m_1, vb m_2, vb m_3, vb m_4, vi m_5, vb m_6, vs m_7, vl m_8_a m_8_n m_8_c, vi m_9, vi m_10] 128 (0, 0)) :: F4) fun e6 I7 G6 => ((e6 = .returned (Value.tuple #[]) ∧ ∃ F9 : Heap, List.Perm G6 ((b_r, Obj.cells #[vs m_0, vb m_1, vb m_2, vb m_3, vb m_4, vi m_5, vb m_6, vs m_7, vl m_8_a m_8_n m_8_c, vi m_9, vi m_10] 128 (0, 0)) :: F9) ∧ Tri P 82 (#[nV m_2 m_3 m_4 m_5 m_6 m_7 m_8_a m_8_n m_8_c m_9]) I7 ((b_r, Obj.cells #[vs m_0, vb m_1, vb m_2, vb m_3, vb m_4, vi m_5, vb m_6, vs m_7, vl m_8_a m_8_n m_8_c, vi m_9, vi m_10] 128 (0, 0)) :: F9) fun e7 I8 G7 => ((e7 = .returned (Value.tuple #[]) ∧ ∃ F10 : Heap, List.Perm G7 ((b_r, Obj.cells #[vs m_0, vb m_1, vb m_2, vb m_3, vb m_4, vi m_5, vb m_6, vs m_7, vl m_8_a m_8_n m_8_c, vi m_9, vi m_10] 128 (0, 0)) :: F10) ∧ (∃ m4 : Nat, m4 < m2 ∧ Inv8 (wr (x + 1)) m4 I2 F2 I8 F10)) ∨ (∃ ch2 : List PanicEntry, e7 = .panicked ch2 ∧ ∃ F11 : Heap, List.Perm G7 ((b_r, Obj.cells #[vs m_0, vb m_1, vb m_2, vb m_3, vb m_4, vi m_5, vb m_6, vs m_7, vl m_8_a m_8_n m_8_c, vi m_9, vi m_10] 128 (0, 0)) :: F11) ∧ Q (.panicked ch2) I8 (F11)))) ∨ (∃ ch3 : List PanicEntry, e6 = .panicked ch3 ∧ ∃ F12 : Heap, List.Perm G6 ((b_r, Obj.cells #[vs m_0, vb m_1, vb m_2, vb m_3, vb m_4, vi m_5, vb m_6, vs m_7, vl m_8_a m_8_n m_8_c, vi m_9, vi m_10] 128 (0, 0)) :: F12) ∧ Q (.panicked ch3) I7 (F12)))))) ∨ (∃ ch4 : List PanicEntry, e3 = .panicked ch4 ∧ ∃ F13 : Heap, List.Perm G3 ((b_r, Obj.cells #[vs m_0, vb m_1, vb m_2, vb m_3, vb m_4, vi m_5, vb m_6, vs m_7, vl m_8_a m_8_n m_8_c, vi m_9, vi m_10] 128 (0, 0)) :: F13) ∧ Q (.panicked ch4) I4 (F13))))) ∧ (decide (x < ((m_n1 : Nat) : Int)) = false → ∃ (m_a2 : Option Addr) (m_n2 m_c2 : Nat), Rd I3 (F3) (c.add 2) [vl m_a2 m_n2 m_c2] ∧ Tri P 81 (#[vt (decide (((m_n2 : Nat) : Int) ≤ 4)), vi 121]) I3 (F3) fun e8 I9 G8 => ((e8 = .returned (Value.tuple #[]) ∧ ∃ F14 : Heap, List.Perm G8 (F14) ∧ ∃ (m_a3 : Option Addr) (m_n3 m_c3 : Nat), Rd I9 (F14) (c.add 2) [vl m_a3 m_n3 m_c3] ∧ (∃ m5 : Nat, Inv31 0 m5 I9 F14 I9 F14) ∧ ∀ (x1 : Int) (m6 : Nat) (I10 : Imm) (F15 : Heap), Imm.le I9 I10 → Inv31 x1 m6 I9 F14 I10 F15 → ((decide (x1 < ((m_n3 : Nat) : Int)) = true → ((0 ≤ x1 ∧ x1 < (m_n3 : Int)) ∧ ∃ ad1 : Addr, m_a3 = some ad1 ∧ ∃ (m_01 : ByteArray) (m_11 : Int), Rd I10 (F15) (ad1.add (Int.toNat (x1) * 2)) [vs m_01, vi m_11] ∧ ∀ b_x : Nat, Tri P 80 (#[vs m_01]) I10 ((b_x, Obj.cells #[vs m_01, vi m_11] 130 (0, 0)) :: F15) fun e9 I11 G9 => ((e9 = .returned (Value.tuple #[]) ∧ ∃ F16 : Heap, List.Perm G9 ((b_x, Obj.cells #[vs m_01, vi m_11] 130 (0, 0)) :: F16) ∧ (∃ m7 : Nat, m7 < m6 ∧ Inv31 (wr (x1 + 1)) m7 I9 F14 I11 F16)) ∨ (∃ ch5 : List PanicEntry, e9 = .panicked ch5 ∧ ∃ F17 : Heap, List.Perm G9 ((b_x, Obj.cells #[vs m_01, vi m_11] 130 (0, 0)) :: F17) ∧ Q (.panicked ch5) I11 (F17))))) ∧ (decide (x1 < ((m_n3 : Nat) : Int)) = false → ∃ (m_a4 : Option Addr) (m_n4 m_c4 : Nat), Rd I10 (F15) (c.add 3) [vl m_a4 m_n4 m_c4] ∧ Tri P 81 (#[vt (decide (((m_n4 : Nat) : Int) > 0)), vi 120]) I10 (F15) fun e10 I12 G10 => ((e10 = .returned (Value.tuple #[]) ∧ ∃ F18 : Heap, List.Perm G10 (F18) ∧ ∃ (m_a5 : Option Addr) (m_n5 m_c5 : Nat), Rd I12 (F18) (c.add 3) [vl m_a5 m_n5 m_c5] ∧ Tri P 81 (#[vt (decide (((m_n5 : Nat) : Int) ≤ 12)), vi 121]) I12 (F18) fun e11 I13 G11 => ((e11 = .returned (Value.tuple #[]) ∧ ∃ F19 : Heap, List.Perm G11 (F19) ∧ ∃ (m_a6 : Option Addr) (m_n6 m_c6 : Nat), Rd I13 (F19) (c.add 3) [vl m_a6 m_n6 m_c6] ∧ (∃ m8 : Nat, Inv51 0 m8 I13 F19 I13 F19) ∧ ∀ (x2 : Int) (m9 : Nat) (I14 : Imm) (F20 : Heap), Imm.le I13 I14 → Inv51 x2 m9 I13 F19 I14 F20 → ((decide (x2 < ((m_n6 : Nat) : Int)) = true → ((0 ≤ x2 ∧ x2 < (m_n6 : Int)) ∧ ∃ ad2 : Addr, m_a6 = some ad2 ∧ ∃ (m_02 : ByteArray) (m_1_a : Option Addr) (m_1_n m_1_c : Nat) (m_21 : Int), Rd I14 (F20) (ad2.add (Int.toNat (x2) * 3)) [vs m_02, vl m_1_a m_1_n m_1_c, vi m_21] ∧ ∀ b_x1 : Nat, Tri P 80 (#[vs m_02]) I14 ((b_x1, Obj.cells #[vs m_02, vl m_1_a m_1_n m_1_c, vi m_21] 93 (0, 0)) :: F20) fun e12 I15 G12 => ((e12 = .returned (Value.tuple #[]) ∧ ∃ F21 : Heap, List.Perm G12 ((b_x1, Obj.cells #[vs m_02, vl m_1_a m_1_n m_1_c, vi m_21] 93 (0, 0)) :: F21) ∧ Tri P 81 (#[vt (decide (((m_1_n : Nat) : Int) ≤ 12)), vi 121]) I15 ((b_x1, Obj.cells #[vs m_02, vl m_1_a m_1_n m_1_c, vi m_21] 93 (0, 0)) :: F21) fun e13 I16 G13 => ((e13 = .returned (Value.tuple #[]) ∧ ∃ F22 : Heap, List.Perm G13 ((b_x1, Obj.cells #[vs m_02, vl m_1_a m_1_n m_1_c, vi m_21] 93 (0, 0)) :: F22) ∧ (∃ m10 : Nat, Inv69 x2 0 m10 I16 F22 I16 F22) ∧ ∀ (x3 : Int) (m11 : Nat) (I17 : Imm) (F23 : Heap), Imm.le I16 I17 → Inv69 x2 x3 m11 I16 F22 I17 F23 → ((decide (x3 < ((m_1_n : Nat) : Int)) = true → ((0 ≤ x3 ∧ x3 < (m_1_n : Int)) ∧ ∃ ad3 : Addr, m_1_a = some ad3 ∧ ∃ (m_03 m_12 m_22 m_31 m_41 : Int) (m_51 : ByteArray) (m_6_a : Option Addr) (m_6_n m_6_c : Nat) (m_71 : Int) (m_8_a1 : Option Addr) (m_8_n1 m_8_c1 : Nat) (m_91 : Int), Rd I17 ((b_x1, Obj.cells #[vs m_02, vl m_1_a m_1_n m_1_c, vi m_21] 93 (0, 0)) :: F23) (ad3.add (Int.toNat (x3) * 10)) [vb m_03, vb m_12, vb m_22, vi m_31, vb m_41, vs m_51, vl m_6_a m_6_n m_6_c, vi m_71, vl m_8_a1 m_8_n1 m_8_c1, vi m_91] ∧ ∀ b_r1 : Nat, Tri P 83 (#[Value.agg #[vb m_03, vb m_12, vb m_22, vi m_31, vb m_41, vs m_51, vl m_6_a m_6_n m_6_c, vi m_71, vl m_8_a1 m_8_n1 m_8_c1, vi m_91]]) I17 ((b_x1, Obj.cells #[vs m_02, vl m_1_a m_1_n m_1_c, vi m_21] 93 (0, 0)) :: (b_r1, Obj.cells #[vb m_03, vb m_12, vb m_22, vi m_31, vb m_41, vs m_51, vl m_6_a m_6_n m_6_c, vi m_71, vl m_8_a1 m_8_n1 m_8_c1, vi m_91] 90 (0, 0)) :: F23) fun e14 I18 G14 => ((e14 = .returned (Value.tuple #[]) ∧ ∃ F24 : Heap, List.Perm G14 ((b_x1, Obj.cells #[vs m_02, vl m_1_a m_1_n m_1_c, vi m_21] 93 (0, 0)) :: (b_r1, Obj.cells #[vb m_03, vb m_12, vb m_22, vi m_31, vb m_41, vs m_51, vl m_6_a m_6_n m_6_c, vi m_71, vl m_8_a1 m_8_n1 m_8_c1, vi m_91] 90 (0, 0)) :: F24) ∧ (∃ m12 : Nat, m12 < m11 ∧ Inv69 x2 (wr (x3 + 1)) m12 I16 F22 I18 F24)) ∨ (∃ ch6 : List PanicEntry, e14 = .panicked ch6 ∧ ∃ F25 : Heap, List.Perm G14 ((b_x1, Obj.cells #[vs m_02, vl m_1_a m_1_n m_1_c, vi m_21] 93 (0, 0)) :: (b_r1, Obj.cells #[vb m_03, vb m_12, vb m_22, vi m_31, vb m_41, vs m_51, vl m_6_a m_6_n m_6_c, vi m_71, vl m_8_a1 m_8_n1 m_8_c1, vi m_91] 90 (0, 0)) :: F25) ∧ Q (.panicked ch6) I18 (F25))))) ∧ (decide (x3 < ((m_1_n : Nat) : Int)) = false → (∃ m13 : Nat, m13 < m9 ∧ Inv51 (wr (x2 + 1)) m13 I13 F19 I17 F23)))) ∨ (∃ ch7 : List PanicEntry, e13 = .panicked ch7 ∧ ∃ F26 : Heap, List.Perm G13 ((b_x1, Obj.cells #[vs m_02, vl m_1_a m_1_n m_1_c, vi m_21] 93 (0, 0)) :: F26) ∧ Q (.panicked ch7) I16 (F26)))) ∨ (∃ ch8 : List PanicEntry, e12 = .panicked ch8 ∧ ∃ F27 : Heap, List.Perm G12 ((b_x1, Obj.cells #[vs m_02, vl m_1_a m_1_n m_1_c, vi m_21] 93 (0, 0)) :: F27) ∧ Q (.panicked ch8) I15 (F27))))) ∧ (decide (x2 < ((m_n6 : Nat) : Int)) = false → Q (.returned (Value.tuple #[])) I14 (F20)))) ∨ (∃ ch9 : List PanicEntry, e11 = .panicked ch9 ∧ ∃ F28 : Heap, List.Perm G11 (F28) ∧ Q (.panicked ch9) I13 (F28)))) ∨ (∃ ch10 : List PanicEntry, e10 = .panicked ch10 ∧ ∃ F29 : Heap, List.Perm G10 (F29) ∧ Q (.panicked ch10) I12 (F29)))))) ∨ (∃ ch11 : List PanicEntry, e8 = .panicked ch11 ∧ ∃ F30 : Heap, List.Perm G8 (F30) ∧ Q (.panicked ch11) I9 (F30)))))) ∨ (∃ ch12 : List PanicEntry, e2 = .panicked ch12 ∧ ∃ F31 : Heap, List.Perm G2 (F31) ∧ Q (.panicked ch12) I2 (F31)))) ∨ (∃ ch13 : List PanicEntry, e1 = .panicked ch13 ∧ ∃ F32 : Heap, List.Perm G1 (F32) ∧ Q (.panicked ch13) I1 (F32)))
set_option maxRecDepth 100000 in
theorem tree_Check_1.vc {c : Addr} {I : Imm} {F : Heap} {Q : PostQ} (Inv8 : Int → Nat → Imm → Heap → Imm → Heap → Prop) (Inv31 : Int → Nat → Imm → Heap → Imm → Heap → Prop) (Inv51 : Int → Nat → Imm → Heap → Imm → Heap → Prop) (Inv69 : Int → Int → Nat → Imm → Heap → Imm → Heap → Prop) (h : tree_Check_1.V (fun k o t n f s a l c q => .agg #[Value.int .u8 k, Value.int .u8 o, Value.int .u8 t, Value.int .i64 n, Value.int .u8 f, Value.string s, Value.slice a l c, Value.int .i64 q]) (.int .u8) (.int .i64) .string .slice .bool (IntKind.wrap .i64) c I F Q Inv8 Inv31 Inv51 Inv69) : Tri P 79 #[Value.pointer (some c)] I (F) Q :=
  tri_of_V (A := (annL [3000, 6002, 11000, 18000, 23000] [80, 81, 82, 83] [80, 81, 82, 83] shT_t4 [(8, ⟨[(20, (.int .i64))], [], fun fs I0 F0 vs m I F => match fs, vs with | [], [.int _ y0] => Inv8 y0 m I0 F0 I F | _, _ => False, [], []⟩), (31, ⟨[(48, (.int .i64))], [], fun fs I0 F0 vs m I F => match fs, vs with | [], [.int _ y0] => Inv31 y0 m I0 F0 I F | _, _ => False, [], []⟩), (51, ⟨[(69, (.int .i64))], [], fun fs I0 F0 vs m I F => match fs, vs with | [], [.int _ y0] => Inv51 y0 m I0 F0 I F | _, _ => False, [], []⟩), (69, ⟨[(84, (.int .i64))], [], fun fs I0 F0 vs m I F => match fs, vs with | [.int _ y0], [.int _ y1] => Inv69 y0 y1 m I0 F0 I F | _, _ => False, [69], []⟩)] [] [] [] [] [] [])) (args := [.a (.v (Value.pointer (some c)))]) (own := []) (keep := []) [80, 81, 82, 83] Go.Proofs.Try.func79 h (by kernel_rfl) (by kernel_rfl) (by kernel_rfl) (by kernel_rfl) (by kernel_rfl) (by simp [AV.wf, At.wf]) (by simp [AV.wf, At.wf]) rfl
set_option maxRecDepth 100000 in
def tree_named.V (s : ByteArray) (I : Imm) (F : Heap) (Q : PostQ)  : Prop := Tri P 86 (#[Value.string s]) I (F) fun e1 I1 G1 => ∃ (r : Bool), e1 = .returned (Value.bool r) ∧ ∃ F1 : Heap, List.Perm G1 (F1) ∧ Tri P 81 (#[Value.bool r, Value.int .i64 120]) I1 (F1) fun e2 I2 G2 => ((e2 = .returned (Value.tuple #[]) ∧ ∃ F2 : Heap, List.Perm G2 (F2) ∧ Q (.returned (Value.tuple #[])) I2 (F2)) ∨ (∃ ch : List PanicEntry, e2 = .panicked ch ∧ ∃ F3 : Heap, List.Perm G2 (F3) ∧ Q (.panicked ch) I2 (F3)))
set_option maxRecDepth 100000 in
theorem tree_named.vc {s : ByteArray} {I : Imm} {F : Heap} {Q : PostQ}  (h : tree_named.V s I F Q) : Tri P 80 #[Value.string s] I (F) Q :=
  tri_of_V (A := (annL [] [81] [81, 86] shT_t4 [] [] [] [] [] [] [])) (args := [.a (.v (Value.string s))]) (own := []) (keep := []) [81, 86] Go.Proofs.Try.func80 h (by kernel_rfl) (by kernel_rfl) (by kernel_rfl) (by kernel_rfl) (by kernel_rfl) (by simp [AV.wf, At.wf]) (by simp [AV.wf, At.wf]) rfl
set_option maxRecDepth 100000 in
def tree_unnamed.V (c_n : Nat → Nat × Obj) (vb vi : Int → Value) (vs : ByteArray → Value) (n_0 n_1 n_2 n_3 n_4 : Int) (n_5 : ByteArray) (n_6_a : Option Addr) (n_6_n n_6_c : Nat) (n_7 : Int) (I : Imm) (F : Heap) (Q : PostQ)  : Prop := ∀ b_n : Nat, Tri P 47 (#[Value.agg #[vb n_0, vb n_1, vb n_2, vi n_3, vb n_4, vs n_5, Value.slice n_6_a n_6_n n_6_c, vi n_7]]) I ((c_n b_n) :: F) fun e1 I1 G1 => ∃ (r_0 r_1 r_2 r_3 r_4 : Int) (r_5 : ByteArray), e1 = .returned (Value.agg #[vb r_0, vb r_1, vb r_2, vi r_3, vb r_4, vs r_5]) ∧ ∃ F1 : Heap, List.Perm G1 ((c_n b_n) :: F1) ∧ ∃ q : Bool, BinRun P .eql 97 (.tmp 3) (.tmp 4) (Value.agg #[vb r_0, vb r_1, vb r_2, vi r_3, vb r_4, vs r_5]) (Value.agg #[vb 0, vb 0, vb 0, vi 0, vb 0, vs (⟨#[]⟩ : ByteArray)]) q ∧ ((q = true → Tri P 81 (#[Value.bool (((n_6_n : Nat) : Int) == 0), vi 120]) I1 ((c_n b_n) :: F1) fun e2 I2 G2 => ((e2 = .returned (Value.tuple #[]) ∧ ∃ F2 : Heap, List.Perm G2 ((c_n b_n) :: F2) ∧ Q (.returned (Value.tuple #[])) I2 (F2)) ∨ (∃ ch : List PanicEntry, e2 = .panicked ch ∧ ∃ F3 : Heap, List.Perm G2 ((c_n b_n) :: F3) ∧ Q (.panicked ch) I2 (F3)))) ∧ (q = false → Tri P 81 (#[Value.bool false, vi 120]) I1 ((c_n b_n) :: F1) fun e3 I3 G3 => ((e3 = .returned (Value.tuple #[]) ∧ ∃ F4 : Heap, List.Perm G3 ((c_n b_n) :: F4) ∧ Q (.returned (Value.tuple #[])) I3 (F4)) ∨ (∃ ch1 : List PanicEntry, e3 = .panicked ch1 ∧ ∃ F5 : Heap, List.Perm G3 ((c_n b_n) :: F5) ∧ Q (.panicked ch1) I3 (F5)))))
set_option maxRecDepth 100000 in
theorem tree_unnamed.vc {n_0 n_1 n_2 n_3 n_4 : Int} {n_5 : ByteArray} {n_6_a : Option Addr} {n_6_n n_6_c : Nat} {n_7 : Int} {I : Imm} {F : Heap} {Q : PostQ}  (h : tree_unnamed.V (fun b => (b, Obj.cells #[Value.int .u8 n_0, Value.int .u8 n_1, Value.int .u8 n_2, Value.int .i64 n_3, Value.int .u8 n_4, Value.string n_5, Value.slice n_6_a n_6_n n_6_c, Value.int .i64 n_7] 28 (0, 0))) (.int .u8) (.int .i64) .string n_0 n_1 n_2 n_3 n_4 n_5 n_6_a n_6_n n_6_c n_7 I F Q) : Tri P 108 #[Value.agg #[Value.int .u8 n_0, Value.int .u8 n_1, Value.int .u8 n_2, Value.int .i64 n_3, Value.int .u8 n_4, Value.string n_5, Value.slice n_6_a n_6_n n_6_c, Value.int .i64 n_7]] I (F) Q :=
  tri_of_V (A := (annL [1003] [81] [47, 81] shT_t4 [] [] [] [] [] [] [])) (args := [.a (.v (Value.agg #[Value.int .u8 n_0, Value.int .u8 n_1, Value.int .u8 n_2, Value.int .i64 n_3, Value.int .u8 n_4, Value.string n_5, Value.slice n_6_a n_6_n n_6_c, Value.int .i64 n_7]))]) (own := []) (keep := []) [47, 81] Go.Proofs.Try.func108 h (by kernel_rfl) (by kernel_rfl) (by kernel_rfl) (by kernel_rfl) (by kernel_rfl) (by simp [AV.wf, At.wf]) (by simp [AV.wf, At.wf]) rfl
set_option maxRecDepth 100000 in
def tree_part.V (c_n : Nat → Nat × Obj) (nV : Int → Int → Int → Int → Int → ByteArray → Option Addr → Nat → Nat → Int → Value) (is : Bool) (n_0 n_1 n_2 n_3 n_4 : Int) (n_5 : ByteArray) (n_6_a : Option Addr) (n_6_n n_6_c : Nat) (n_7 : Int) (I : Imm) (F : Heap) (Q : PostQ)  : Prop := ∀ b_n : Nat, ((is = true → Tri P 41 (#[nV n_0 n_1 n_2 n_3 n_4 n_5 n_6_a n_6_n n_6_c n_7]) I ((c_n b_n) :: F) fun e1 I1 G1 => ((e1 = .returned (Value.tuple #[]) ∧ ∃ F1 : Heap, List.Perm G1 ((c_n b_n) :: F1) ∧ Q (.returned (Value.tuple #[])) I1 (F1)) ∨ (∃ ch : List PanicEntry, e1 = .panicked ch ∧ ∃ F2 : Heap, List.Perm G1 ((c_n b_n) :: F2) ∧ Q (.panicked ch) I1 (F2)))) ∧ (is = false → Tri P 108 (#[nV n_0 n_1 n_2 n_3 n_4 n_5 n_6_a n_6_n n_6_c n_7]) I ((c_n b_n) :: F) fun e2 I2 G2 => ((e2 = .returned (Value.tuple #[]) ∧ ∃ F3 : Heap, List.Perm G2 ((c_n b_n) :: F3) ∧ Q (.returned (Value.tuple #[])) I2 (F3)) ∨ (∃ ch1 : List PanicEntry, e2 = .panicked ch1 ∧ ∃ F4 : Heap, List.Perm G2 ((c_n b_n) :: F4) ∧ Q (.panicked ch1) I2 (F4)))))
set_option maxRecDepth 100000 in
theorem tree_part.vc {is : Bool} {n_0 n_1 n_2 n_3 n_4 : Int} {n_5 : ByteArray} {n_6_a : Option Addr} {n_6_n n_6_c : Nat} {n_7 : Int} {I : Imm} {F : Heap} {Q : PostQ}  (h : tree_part.V (fun b => (b, Obj.cells #[Value.int .u8 n_0, Value.int .u8 n_1, Value.int .u8 n_2, Value.int .i64 n_3, Value.int .u8 n_4, Value.string n_5, Value.slice n_6_a n_6_n n_6_c, Value.int .i64 n_7] 28 (0, 0))) (fun k o t n f s a l c q => .agg #[Value.int .u8 k, Value.int .u8 o, Value.int .u8 t, Value.int .i64 n, Value.int .u8 f, Value.string s, Value.slice a l c, Value.int .i64 q]) is n_0 n_1 n_2 n_3 n_4 n_5 n_6_a n_6_n n_6_c n_7 I F Q) : Tri P 101 #[Value.bool is, Value.agg #[Value.int .u8 n_0, Value.int .u8 n_1, Value.int .u8 n_2, Value.int .i64 n_3, Value.int .u8 n_4, Value.string n_5, Value.slice n_6_a n_6_n n_6_c, Value.int .i64 n_7]] I (F) Q :=
  tri_of_V (A := (annL [1000] [41, 108] [41, 108] shT_t4 [] [] [] [] [] [] [])) (args := [.a (.v (Value.bool is)), .a (.v (Value.agg #[Value.int .u8 n_0, Value.int .u8 n_1, Value.int .u8 n_2, Value.int .i64 n_3, Value.int .u8 n_4, Value.string n_5, Value.slice n_6_a n_6_n n_6_c, Value.int .i64 n_7]))]) (own := []) (keep := []) [41, 108] Go.Proofs.Try.func101 h (by kernel_rfl) (by kernel_rfl) (by kernel_rfl) (by kernel_rfl) (by kernel_rfl) (by simp [AV.wf, At.wf]) (by simp [AV.wf, At.wf]) rfl
set_option maxRecDepth 100000 in
def tree_do.V (c_d : Nat → Nat × Obj) (nV : Int → Int → Int → Int → Int → ByteArray → Option Addr → Nat → Nat → Int → Value) (vi : Int → Value) (vt : Bool → Value) (d_0 d_1 : Int) (d_2 : ByteArray) (d_3 d_4 d_5 d_6 d_7 : Int) (d_8 : ByteArray) (d_9_a : Option Addr) (d_9_n d_9_c : Nat) (d_10 d_11 d_12 d_13 d_14 d_15 : Int) (d_16 : ByteArray) (d_17_a : Option Addr) (d_17_n d_17_c : Nat) (d_18 d_19 d_20 d_21 d_22 d_23 : Int) (d_24 : ByteArray) (d_25_a : Option Addr) (d_25_n d_25_c : Nat) (d_26 d_27 d_28 d_29 d_30 d_31 : Int) (d_32 : ByteArray) (d_33_a : Option Addr) (d_33_n d_33_c : Nat) (d_34 d_35 : Int) (I : Imm) (F : Heap) (Q : PostQ) (Inv4 : Imm → Heap → Prop) (Inv6 : Imm → Heap → Prop) (Inv8 : Imm → Heap → Prop) (Inv19 : Imm → Heap → Prop) (Inv21 : Imm → Heap → Prop) (Inv23 : Imm → Heap → Prop) : Prop := ∀ b_d : Nat, (((decide (1 ≤ d_0) = true → Tri P 81 (#[vt (decide (d_0 ≤ 6)), vi 120]) I ((c_d b_d) :: F) fun e1 I1 G1 => ((e1 = .returned (Value.tuple #[]) ∧ ∃ F1 : Heap, List.Perm G1 ((c_d b_d) :: F1) ∧ Inv4 I1 F1) ∨ (∃ ch : List PanicEntry, e1 = .panicked ch ∧ ∃ F2 : Heap, List.Perm G1 ((c_d b_d) :: F2) ∧ Q (.panicked ch) I1 (F2)))) ∧ (decide (1 ≤ d_0) = false → Tri P 81 (#[vt false, vi 120]) I ((c_d b_d) :: F) fun e2 I2 G2 => ((e2 = .returned (Value.tuple #[]) ∧ ∃ F3 : Heap, List.Perm G2 ((c_d b_d) :: F3) ∧ Inv4 I2 F3) ∨ (∃ ch1 : List PanicEntry, e2 = .panicked ch1 ∧ ∃ F4 : Heap, List.Perm G2 ((c_d b_d) :: F4) ∧ Q (.panicked ch1) I2 (F4)))))) ∧ ∀ (I3 : Imm) (F5 : Heap), Imm.le I I3 → Inv4 I3 F5 → ((((d_0 == 1) = true → ((decide (1 ≤ d_1) = true → ((decide (d_1 ≤ 5) = true → Tri P 81 (#[vt true, vi 120]) I3 ((c_d b_d) :: F5) fun e3 I4 G3 => ((e3 = .returned (Value.tuple #[]) ∧ ∃ F6 : Heap, List.Perm G3 ((c_d b_d) :: F6) ∧ Inv6 I4 F6) ∨ (∃ ch2 : List PanicEntry, e3 = .panicked ch2 ∧ ∃ F7 : Heap, List.Perm G3 ((c_d b_d) :: F7) ∧ Q (.panicked ch2) I4 (F7)))) ∧ (decide (d_1 ≤ 5) = false → (((!(d_0 == 1)) = true → Tri P 81 (#[vt (d_1 == 0), vi 120]) I3 ((c_d b_d) :: F5) fun e4 I5 G4 => ((e4 = .returned (Value.tuple #[]) ∧ ∃ F8 : Heap, List.Perm G4 ((c_d b_d) :: F8) ∧ Inv6 I5 F8) ∨ (∃ ch3 : List PanicEntry, e4 = .panicked ch3 ∧ ∃ F9 : Heap, List.Perm G4 ((c_d b_d) :: F9) ∧ Q (.panicked ch3) I5 (F9)))) ∧ ((!(d_0 == 1)) = false → Tri P 81 (#[vt false, vi 120]) I3 ((c_d b_d) :: F5) fun e5 I6 G5 => ((e5 = .returned (Value.tuple #[]) ∧ ∃ F10 : Heap, List.Perm G5 ((c_d b_d) :: F10) ∧ Inv6 I6 F10) ∨ (∃ ch4 : List PanicEntry, e5 = .panicked ch4 ∧ ∃ F11 : Heap, List.Perm G5 ((c_d b_d) :: F11) ∧ Q (.panicked ch4) I6 (F11)))))))) ∧ (decide (1 ≤ d_1) = false → (((!(d_0 == 1)) = true → Tri P 81 (#[vt (d_1 == 0), vi 120]) I3 ((c_d b_d) :: F5) fun e6 I7 G6 => ((e6 = .returned (Value.tuple #[]) ∧ ∃ F12 : Heap, List.Perm G6 ((c_d b_d) :: F12) ∧ Inv6 I7 F12) ∨ (∃ ch5 : List PanicEntry, e6 = .panicked ch5 ∧ ∃ F13 : Heap, List.Perm G6 ((c_d b_d) :: F13) ∧ Q (.panicked ch5) I7 (F13)))) ∧ ((!(d_0 == 1)) = false → Tri P 81 (#[vt false, vi 120]) I3 ((c_d b_d) :: F5) fun e7 I8 G7 => ((e7 = .returned (Value.tuple #[]) ∧ ∃ F14 : Heap, List.Perm G7 ((c_d b_d) :: F14) ∧ Inv6 I8 F14) ∨ (∃ ch6 : List PanicEntry, e7 = .panicked ch6 ∧ ∃ F15 : Heap, List.Perm G7 ((c_d b_d) :: F15) ∧ Q (.panicked ch6) I8 (F15)))))))) ∧ ((d_0 == 1) = false → (((!(d_0 == 1)) = true → Tri P 81 (#[vt (d_1 == 0), vi 120]) I3 ((c_d b_d) :: F5) fun e8 I9 G8 => ((e8 = .returned (Value.tuple #[]) ∧ ∃ F16 : Heap, List.Perm G8 ((c_d b_d) :: F16) ∧ Inv6 I9 F16) ∨ (∃ ch7 : List PanicEntry, e8 = .panicked ch7 ∧ ∃ F17 : Heap, List.Perm G8 ((c_d b_d) :: F17) ∧ Q (.panicked ch7) I9 (F17)))) ∧ ((!(d_0 == 1)) = false → Tri P 81 (#[vt false, vi 120]) I3 ((c_d b_d) :: F5) fun e9 I10 G9 => ((e9 = .returned (Value.tuple #[]) ∧ ∃ F18 : Heap, List.Perm G9 ((c_d b_d) :: F18) ∧ Inv6 I10 F18) ∨ (∃ ch8 : List PanicEntry, e9 = .panicked ch8 ∧ ∃ F19 : Heap, List.Perm G9 ((c_d b_d) :: F19) ∧ Q (.panicked ch8) I10 (F19)))))))) ∧ ∀ (I11 : Imm) (F20 : Heap), Imm.le I3 I11 → Inv6 I11 F20 → ((((d_0 == 6) = true → Tri P 81 (#[vt (d_2.toList == (⟨#[]⟩ : ByteArray).toList), vi 120]) I11 ((c_d b_d) :: F20) fun e10 I12 G10 => ((e10 = .returned (Value.tuple #[]) ∧ ∃ F21 : Heap, List.Perm G10 ((c_d b_d) :: F21) ∧ Inv8 I12 F21) ∨ (∃ ch9 : List PanicEntry, e10 = .panicked ch9 ∧ ∃ F22 : Heap, List.Perm G10 ((c_d b_d) :: F22) ∧ Q (.panicked ch9) I12 (F22)))) ∧ ((d_0 == 6) = false → (((!(d_0 == 1)) = true → Tri P 80 (#[Value.string d_2]) I11 ((c_d b_d) :: F20) fun e11 I13 G11 => ((e11 = .returned (Value.tuple #[]) ∧ ∃ F23 : Heap, List.Perm G11 ((c_d b_d) :: F23) ∧ Inv8 I13 F23) ∨ (∃ ch10 : List PanicEntry, e11 = .panicked ch10 ∧ ∃ F24 : Heap, List.Perm G11 ((c_d b_d) :: F24) ∧ Q (.panicked ch10) I13 (F24)))) ∧ ((!(d_0 == 1)) = false → (((!(d_2.toList == (⟨#[]⟩ : ByteArray).toList)) = true → Tri P 80 (#[Value.string d_2]) I11 ((c_d b_d) :: F20) fun e12 I14 G12 => ((e12 = .returned (Value.tuple #[]) ∧ ∃ F25 : Heap, List.Perm G12 ((c_d b_d) :: F25) ∧ Inv8 I14 F25) ∨ (∃ ch11 : List PanicEntry, e12 = .panicked ch11 ∧ ∃ F26 : Heap, List.Perm G12 ((c_d b_d) :: F26) ∧ Q (.panicked ch11) I14 (F26)))) ∧ ((!(d_2.toList == (⟨#[]⟩ : ByteArray).toList)) = false → Inv8 I11 F20))))))) ∧ ∀ (I15 : Imm) (F27 : Heap), Imm.le I11 I15 → Inv8 I15 F27 → (Tri P 101 (#[vt (d_0 == 1), nV d_3 d_4 d_5 d_6 d_7 d_8 d_9_a d_9_n d_9_c d_10]) I15 ((c_d b_d) :: F27) fun e13 I16 G13 => ((e13 = .returned (Value.tuple #[]) ∧ ∃ F28 : Heap, List.Perm G13 ((c_d b_d) :: F28) ∧ Inv19 I16 F28) ∨ (∃ ch12 : List PanicEntry, e13 = .panicked ch12 ∧ ∃ F29 : Heap, List.Perm G13 ((c_d b_d) :: F29) ∧ Q (.panicked ch12) I16 (F29)))) ∧ ∀ (I17 : Imm) (F30 : Heap), Imm.le I15 I17 → Inv19 I17 F30 → ((((d_0 == 1) = true → Tri P 101 (#[vt true, nV d_11 d_12 d_13 d_14 d_15 d_16 d_17_a d_17_n d_17_c d_18]) I17 ((c_d b_d) :: F30) fun e14 I18 G14 => ((e14 = .returned (Value.tuple #[]) ∧ ∃ F31 : Heap, List.Perm G14 ((c_d b_d) :: F31) ∧ Inv21 I18 F31) ∨ (∃ ch13 : List PanicEntry, e14 = .panicked ch13 ∧ ∃ F32 : Heap, List.Perm G14 ((c_d b_d) :: F32) ∧ Q (.panicked ch13) I18 (F32)))) ∧ ((d_0 == 1) = false → Tri P 101 (#[vt (d_0 == 2), nV d_11 d_12 d_13 d_14 d_15 d_16 d_17_a d_17_n d_17_c d_18]) I17 ((c_d b_d) :: F30) fun e15 I19 G15 => ((e15 = .returned (Value.tuple #[]) ∧ ∃ F33 : Heap, List.Perm G15 ((c_d b_d) :: F33) ∧ Inv21 I19 F33) ∨ (∃ ch14 : List PanicEntry, e15 = .panicked ch14 ∧ ∃ F34 : Heap, List.Perm G15 ((c_d b_d) :: F34) ∧ Q (.panicked ch14) I19 (F34)))))) ∧ ∀ (I20 : Imm) (F35 : Heap), Imm.le I17 I20 → Inv21 I20 F35 → ((((d_0 == 1) = true → (((d_1 != 2) = true → Tri P 101 (#[vt true, nV d_19 d_20 d_21 d_22 d_23 d_24 d_25_a d_25_n d_25_c d_26]) I20 ((c_d b_d) :: F35) fun e16 I21 G16 => ((e16 = .returned (Value.tuple #[]) ∧ ∃ F36 : Heap, List.Perm G16 ((c_d b_d) :: F36) ∧ Inv23 I21 F36) ∨ (∃ ch15 : List PanicEntry, e16 = .panicked ch15 ∧ ∃ F37 : Heap, List.Perm G16 ((c_d b_d) :: F37) ∧ Q (.panicked ch15) I21 (F37)))) ∧ ((d_1 != 2) = false → Tri P 101 (#[vt (d_0 == 2), nV d_19 d_20 d_21 d_22 d_23 d_24 d_25_a d_25_n d_25_c d_26]) I20 ((c_d b_d) :: F35) fun e17 I22 G17 => ((e17 = .returned (Value.tuple #[]) ∧ ∃ F38 : Heap, List.Perm G17 ((c_d b_d) :: F38) ∧ Inv23 I22 F38) ∨ (∃ ch16 : List PanicEntry, e17 = .panicked ch16 ∧ ∃ F39 : Heap, List.Perm G17 ((c_d b_d) :: F39) ∧ Q (.panicked ch16) I22 (F39)))))) ∧ ((d_0 == 1) = false → Tri P 101 (#[vt (d_0 == 2), nV d_19 d_20 d_21 d_22 d_23 d_24 d_25_a d_25_n d_25_c d_26]) I20 ((c_d b_d) :: F35) fun e18 I23 G18 => ((e18 = .returned (Value.tuple #[]) ∧ ∃ F40 : Heap, List.Perm G18 ((c_d b_d) :: F40) ∧ Inv23 I23 F40) ∨ (∃ ch17 : List PanicEntry, e18 = .panicked ch17 ∧ ∃ F41 : Heap, List.Perm G18 ((c_d b_d) :: F41) ∧ Q (.panicked ch17) I23 (F41)))))) ∧ ∀ (I24 : Imm) (F42 : Heap), Imm.le I20 I24 → Inv23 I24 F42 → Tri P 101 (#[vt (d_0 == 4), nV d_27 d_28 d_29 d_30 d_31 d_32 d_33_a d_33_n d_33_c d_34]) I24 ((c_d b_d) :: F42) fun e19 I25 G19 => ((e19 = .returned (Value.tuple #[]) ∧ ∃ F43 : Heap, List.Perm G19 ((c_d b_d) :: F43) ∧ Q (.returned (Value.tuple #[])) I25 (F43)) ∨ (∃ ch18 : List PanicEntry, e19 = .panicked ch18 ∧ ∃ F44 : Heap, List.Perm G19 ((c_d b_d) :: F44) ∧ Q (.panicked ch18) I25 (F44)))
set_option maxRecDepth 100000 in
theorem tree_do.vc {d_0 d_1 : Int} {d_2 : ByteArray} {d_3 d_4 d_5 d_6 d_7 : Int} {d_8 : ByteArray} {d_9_a : Option Addr} {d_9_n d_9_c : Nat} {d_10 d_11 d_12 d_13 d_14 d_15 : Int} {d_16 : ByteArray} {d_17_a : Option Addr} {d_17_n d_17_c : Nat} {d_18 d_19 d_20 d_21 d_22 d_23 : Int} {d_24 : ByteArray} {d_25_a : Option Addr} {d_25_n d_25_c : Nat} {d_26 d_27 d_28 d_29 d_30 d_31 : Int} {d_32 : ByteArray} {d_33_a : Option Addr} {d_33_n d_33_c : Nat} {d_34 d_35 : Int} {I : Imm} {F : Heap} {Q : PostQ} (Inv4 : Imm → Heap → Prop) (Inv6 : Imm → Heap → Prop) (Inv8 : Imm → Heap → Prop) (Inv19 : Imm → Heap → Prop) (Inv21 : Imm → Heap → Prop) (Inv23 : Imm → Heap → Prop) (h : tree_do.V (fun b => (b, Obj.cells #[Value.int .u8 d_0, Value.int .u8 d_1, Value.string d_2, Value.int .u8 d_3, Value.int .u8 d_4, Value.int .u8 d_5, Value.int .i64 d_6, Value.int .u8 d_7, Value.string d_8, Value.slice d_9_a d_9_n d_9_c, Value.int .i64 d_10, Value.int .u8 d_11, Value.int .u8 d_12, Value.int .u8 d_13, Value.int .i64 d_14, Value.int .u8 d_15, Value.string d_16, Value.slice d_17_a d_17_n d_17_c, Value.int .i64 d_18, Value.int .u8 d_19, Value.int .u8 d_20, Value.int .u8 d_21, Value.int .i64 d_22, Value.int .u8 d_23, Value.string d_24, Value.slice d_25_a d_25_n d_25_c, Value.int .i64 d_26, Value.int .u8 d_27, Value.int .u8 d_28, Value.int .u8 d_29, Value.int .i64 d_30, Value.int .u8 d_31, Value.string d_32, Value.slice d_33_a d_33_n d_33_c, Value.int .i64 d_34, Value.int .i64 d_35] 135 (0, 0))) (fun k o t n f s a l c q => .agg #[Value.int .u8 k, Value.int .u8 o, Value.int .u8 t, Value.int .i64 n, Value.int .u8 f, Value.string s, Value.slice a l c, Value.int .i64 q]) (.int .i64) .bool d_0 d_1 d_2 d_3 d_4 d_5 d_6 d_7 d_8 d_9_a d_9_n d_9_c d_10 d_11 d_12 d_13 d_14 d_15 d_16 d_17_a d_17_n d_17_c d_18 d_19 d_20 d_21 d_22 d_23 d_24 d_25_a d_25_n d_25_c d_26 d_27 d_28 d_29 d_30 d_31 d_32 d_33_a d_33_n d_33_c d_34 d_35 I F Q Inv4 Inv6 Inv8 Inv19 Inv21 Inv23) : Tri P 93 #[Value.agg #[Value.int .u8 d_0, Value.int .u8 d_1, Value.string d_2, Value.int .u8 d_3, Value.int .u8 d_4, Value.int .u8 d_5, Value.int .i64 d_6, Value.int .u8 d_7, Value.string d_8, Value.slice d_9_a d_9_n d_9_c, Value.int .i64 d_10, Value.int .u8 d_11, Value.int .u8 d_12, Value.int .u8 d_13, Value.int .i64 d_14, Value.int .u8 d_15, Value.string d_16, Value.slice d_17_a d_17_n d_17_c, Value.int .i64 d_18, Value.int .u8 d_19, Value.int .u8 d_20, Value.int .u8 d_21, Value.int .i64 d_22, Value.int .u8 d_23, Value.string d_24, Value.slice d_25_a d_25_n d_25_c, Value.int .i64 d_26, Value.int .u8 d_27, Value.int .u8 d_28, Value.int .u8 d_29, Value.int .i64 d_30, Value.int .u8 d_31, Value.string d_32, Value.slice d_33_a d_33_n d_33_c, Value.int .i64 d_34, Value.int .i64 d_35]] I (F) Q :=
  tri_of_V (A := (annL [2002, 3000, 3004, 3009, 3013, 4002, 6001, 6005, 9000, 10000, 10004] [80, 81, 101] [80, 81, 101] shT_t4 [(4, ⟨[], [], fun _ _ _ vs m I F => match vs with | [] => Inv4  I F | _ => False, [], []⟩), (6, ⟨[], [], fun _ _ _ vs m I F => match vs with | [] => Inv6  I F | _ => False, [], []⟩), (8, ⟨[], [], fun _ _ _ vs m I F => match vs with | [] => Inv8  I F | _ => False, [], []⟩), (19, ⟨[], [], fun _ _ _ vs m I F => match vs with | [] => Inv19  I F | _ => False, [], []⟩), (21, ⟨[], [], fun _ _ _ vs m I F => match vs with | [] => Inv21  I F | _ => False, [], []⟩), (23, ⟨[], [], fun _ _ _ vs m I F => match vs with | [] => Inv23  I F | _ => False, [], []⟩)] [] [] [] [] [] [])) (args := [.a (.v (Value.agg #[Value.int .u8 d_0, Value.int .u8 d_1, Value.string d_2, Value.int .u8 d_3, Value.int .u8 d_4, Value.int .u8 d_5, Value.int .i64 d_6, Value.int .u8 d_7, Value.string d_8, Value.slice d_9_a d_9_n d_9_c, Value.int .i64 d_10, Value.int .u8 d_11, Value.int .u8 d_12, Value.int .u8 d_13, Value.int .i64 d_14, Value.int .u8 d_15, Value.string d_16, Value.slice d_17_a d_17_n d_17_c, Value.int .i64 d_18, Value.int .u8 d_19, Value.int .u8 d_20, Value.int .u8 d_21, Value.int .i64 d_22, Value.int .u8 d_23, Value.string d_24, Value.slice d_25_a d_25_n d_25_c, Value.int .i64 d_26, Value.int .u8 d_27, Value.int .u8 d_28, Value.int .u8 d_29, Value.int .i64 d_30, Value.int .u8 d_31, Value.string d_32, Value.slice d_33_a d_33_n d_33_c, Value.int .i64 d_34, Value.int .i64 d_35]))]) (own := []) (keep := []) [80, 81, 101] Go.Proofs.Try.func93 h (by kernel_rfl) (by kernel_rfl) (by kernel_rfl) (by kernel_rfl) (by kernel_rfl) (by simp [AV.wf, At.wf]) (by simp [AV.wf, At.wf]) rfl
set_option maxRecDepth 100000 in
def tree_begin.V (c_n : Nat → Nat × Obj) (nO : Int → Int → Int → Int → Int → ByteArray → Option Addr → Nat → Nat → Int → Obj) (vb vi : Int → Value) (vt : Bool → Value) (n_0 n_1 n_2 n_3 n_4 : Int) (n_5 : ByteArray) (n_6_a : Option Addr) (n_6_n n_6_c : Nat) (n_7 : Int) (I : Imm) (F : Heap) (Q : PostQ)  : Prop := ∀ b_n : Nat, Tri P 43 (#[Value.agg #[vb n_0, vb n_1, vb n_2, vi n_3, vb n_4, Value.string n_5, Value.slice n_6_a n_6_n n_6_c, vi n_7]]) I ((c_n b_n) :: F) fun e1 I1 G1 => ((e1 = .returned (Value.tuple #[]) ∧ ∃ F1 : Heap, List.Perm G1 ((c_n b_n) :: F1) ∧ (((n_0 == 5) = true → (((n_1 == 1) = true → ((0 ≤ (0 : Int) ∧ (0 : Int) < (n_6_n : Int)) ∧ ∃ ad : Addr, n_6_a = some ad ∧ ∃ (m_0 m_1 m_2 m_3 m_4 : Int) (m_5 : ByteArray) (m_6_a : Option Addr) (m_6_n m_6_c : Nat) (m_7 : Int), Rd I1 ((c_n b_n) :: F1) (ad.add (Int.toNat (0) * 8)) [vb m_0, vb m_1, vb m_2, vi m_3, vb m_4, Value.string m_5, Value.slice m_6_a m_6_n m_6_c, vi m_7] ∧ (((m_0 == 1) = true → Tri P 81 (#[vt (decide (m_2 ≤ 4)), vi 120]) I1 ((b_n, nO m_0 m_1 m_2 m_3 m_4 m_5 m_6_a m_6_n m_6_c m_7) :: F1) fun e2 I2 G2 => ((e2 = .returned (Value.tuple #[]) ∧ ∃ F2 : Heap, List.Perm G2 ((b_n, nO m_0 m_1 m_2 m_3 m_4 m_5 m_6_a m_6_n m_6_c m_7) :: F2) ∧ Tri P 81 (#[vt (m_0 == 1), vi 120]) I2 ((b_n, nO m_0 m_1 m_2 m_3 m_4 m_5 m_6_a m_6_n m_6_c m_7) :: F2) fun e3 I3 G3 => ((e3 = .returned (Value.tuple #[]) ∧ ∃ F3 : Heap, List.Perm G3 ((b_n, nO m_0 m_1 m_2 m_3 m_4 m_5 m_6_a m_6_n m_6_c m_7) :: F3) ∧ Q (.returned (Value.tuple #[])) I3 (F3)) ∨ (∃ ch : List PanicEntry, e3 = .panicked ch ∧ ∃ F4 : Heap, List.Perm G3 ((b_n, nO m_0 m_1 m_2 m_3 m_4 m_5 m_6_a m_6_n m_6_c m_7) :: F4) ∧ Q (.panicked ch) I3 (F4)))) ∨ (∃ ch1 : List PanicEntry, e2 = .panicked ch1 ∧ ∃ F5 : Heap, List.Perm G2 ((b_n, nO m_0 m_1 m_2 m_3 m_4 m_5 m_6_a m_6_n m_6_c m_7) :: F5) ∧ Q (.panicked ch1) I2 (F5)))) ∧ ((m_0 == 1) = false → Tri P 81 (#[vt false, vi 120]) I1 ((b_n, nO m_0 m_1 m_2 m_3 m_4 m_5 m_6_a m_6_n m_6_c m_7) :: F1) fun e4 I4 G4 => ((e4 = .returned (Value.tuple #[]) ∧ ∃ F6 : Heap, List.Perm G4 ((b_n, nO m_0 m_1 m_2 m_3 m_4 m_5 m_6_a m_6_n m_6_c m_7) :: F6) ∧ Tri P 81 (#[vt (m_0 == 1), vi 120]) I4 ((b_n, nO m_0 m_1 m_2 m_3 m_4 m_5 m_6_a m_6_n m_6_c m_7) :: F6) fun e5 I5 G5 => ((e5 = .returned (Value.tuple #[]) ∧ ∃ F7 : Heap, List.Perm G5 ((b_n, nO m_0 m_1 m_2 m_3 m_4 m_5 m_6_a m_6_n m_6_c m_7) :: F7) ∧ Q (.returned (Value.tuple #[])) I5 (F7)) ∨ (∃ ch2 : List PanicEntry, e5 = .panicked ch2 ∧ ∃ F8 : Heap, List.Perm G5 ((b_n, nO m_0 m_1 m_2 m_3 m_4 m_5 m_6_a m_6_n m_6_c m_7) :: F8) ∧ Q (.panicked ch2) I5 (F8)))) ∨ (∃ ch3 : List PanicEntry, e4 = .panicked ch3 ∧ ∃ F9 : Heap, List.Perm G4 ((b_n, nO m_0 m_1 m_2 m_3 m_4 m_5 m_6_a m_6_n m_6_c m_7) :: F9) ∧ Q (.panicked ch3) I4 (F9))))))) ∧ ((n_1 == 1) = false → Tri P 81 (#[vt (n_0 == 1), vi 120]) I1 ((c_n b_n) :: F1) fun e6 I6 G6 => ((e6 = .returned (Value.tuple #[]) ∧ ∃ F10 : Heap, List.Perm G6 ((c_n b_n) :: F10) ∧ Q (.returned (Value.tuple #[])) I6 (F10)) ∨ (∃ ch4 : List PanicEntry, e6 = .panicked ch4 ∧ ∃ F11 : Heap, List.Perm G6 ((c_n b_n) :: F11) ∧ Q (.panicked ch4) I6 (F11)))))) ∧ ((n_0 == 5) = false → Tri P 81 (#[vt (n_0 == 1), vi 120]) I1 ((c_n b_n) :: F1) fun e7 I7 G7 => ((e7 = .returned (Value.tuple #[]) ∧ ∃ F12 : Heap, List.Perm G7 ((c_n b_n) :: F12) ∧ Q (.returned (Value.tuple #[])) I7 (F12)) ∨ (∃ ch5 : List PanicEntry, e7 = .panicked ch5 ∧ ∃ F13 : Heap, List.Perm G7 ((c_n b_n) :: F13) ∧ Q (.panicked ch5) I7 (F13)))))) ∨ (∃ ch6 : List PanicEntry, e1 = .panicked ch6 ∧ ∃ F14 : Heap, List.Perm G1 ((c_n b_n) :: F14) ∧ Q (.panicked ch6) I1 (F14)))
set_option maxRecDepth 100000 in
theorem tree_begin.vc {n_0 n_1 n_2 n_3 n_4 : Int} {n_5 : ByteArray} {n_6_a : Option Addr} {n_6_n n_6_c : Nat} {n_7 : Int} {I : Imm} {F : Heap} {Q : PostQ}  (h : tree_begin.V (fun b => (b, Obj.cells #[Value.int .u8 n_0, Value.int .u8 n_1, Value.int .u8 n_2, Value.int .i64 n_3, Value.int .u8 n_4, Value.string n_5, Value.slice n_6_a n_6_n n_6_c, Value.int .i64 n_7] 28 (0, 0))) (fun k o t n f s a l c q => .cells #[Value.int .u8 k, Value.int .u8 o, Value.int .u8 t, Value.int .i64 n, Value.int .u8 f, Value.string s, Value.slice a l c, Value.int .i64 q] 28 (0, 0)) (.int .u8) (.int .i64) .bool n_0 n_1 n_2 n_3 n_4 n_5 n_6_a n_6_n n_6_c n_7 I F Q) : Tri P 82 #[Value.agg #[Value.int .u8 n_0, Value.int .u8 n_1, Value.int .u8 n_2, Value.int .i64 n_3, Value.int .u8 n_4, Value.string n_5, Value.slice n_6_a n_6_n n_6_c, Value.int .i64 n_7]] I (F) Q :=
  tri_of_V (A := (annL [2002, 2006, 4002] [43, 81] [43, 81] shT_t4 [] [] [] [] [] [] [])) (args := [.a (.v (Value.agg #[Value.int .u8 n_0, Value.int .u8 n_1, Value.int .u8 n_2, Value.int .i64 n_3, Value.int .u8 n_4, Value.string n_5, Value.slice n_6_a n_6_n n_6_c, Value.int .i64 n_7]))]) (own := []) (keep := []) [43, 81] Go.Proofs.Try.func82 h (by kernel_rfl) (by kernel_rfl) (by kernel_rfl) (by kernel_rfl) (by kernel_rfl) (by simp [AV.wf, At.wf]) (by simp [AV.wf, At.wf]) rfl
set_option maxRecDepth 100000 in
def tree_rule.V (c_r : Nat → Nat × Obj) (vb vi : Int → Value) (vs : ByteArray → Value) (vl : Option Addr → Nat → Nat → Value) (r_0 r_1 r_2 r_3 r_4 : Int) (r_5 : ByteArray) (r_6_a : Option Addr) (r_6_n r_6_c : Nat) (r_7 : Int) (r_8_a : Option Addr) (r_8_n r_8_c : Nat) (r_9 : Int) (I : Imm) (F : Heap) (Q : PostQ) (Inv11 : Int → Nat → Imm → Heap → Prop) : Prop := ∀ b_r : Nat, Tri P 41 (#[Value.agg #[vb r_0, vb r_1, vb r_2, vi r_3, vb r_4, vs r_5, vl r_6_a r_6_n r_6_c, vi r_7]]) I ((c_r b_r) :: F) fun e1 I1 G1 => ((e1 = .returned (Value.tuple #[]) ∧ ∃ F1 : Heap, List.Perm G1 ((c_r b_r) :: F1) ∧ Tri P 81 (#[Value.bool (decide (((r_8_n : Nat) : Int) > 0)), vi 120]) I1 ((c_r b_r) :: F1) fun e2 I2 G2 => ((e2 = .returned (Value.tuple #[]) ∧ ∃ F2 : Heap, List.Perm G2 ((c_r b_r) :: F2) ∧ Tri P 81 (#[Value.bool (decide (((r_8_n : Nat) : Int) ≤ 8)), vi 121]) I2 ((c_r b_r) :: F2) fun e3 I3 G3 => ((e3 = .returned (Value.tuple #[]) ∧ ∃ F3 : Heap, List.Perm G3 ((c_r b_r) :: F3) ∧ (∃ m : Nat, Inv11 0 m I3 F3) ∧ ∀ (x : Int) (m1 : Nat) (I4 : Imm) (F4 : Heap), Imm.le I3 I4 → Inv11 x m1 I4 F4 → ((decide (x < ((r_8_n : Nat) : Int)) = true → ((0 ≤ x ∧ x < (r_8_n : Int)) ∧ ∃ ad : Addr, r_8_a = some ad ∧ ∃ (m_0 m_1 : Int) (m_2 : ByteArray) (m_3 m_4 m_5 m_6 m_7 : Int) (m_8 : ByteArray) (m_9_a : Option Addr) (m_9_n m_9_c : Nat) (m_10 m_11 m_12 m_13 m_14 m_15 : Int) (m_16 : ByteArray) (m_17_a : Option Addr) (m_17_n m_17_c : Nat) (m_18 m_19 m_20 m_21 m_22 m_23 : Int) (m_24 : ByteArray) (m_25_a : Option Addr) (m_25_n m_25_c : Nat) (m_26 m_27 m_28 m_29 m_30 m_31 : Int) (m_32 : ByteArray) (m_33_a : Option Addr) (m_33_n m_33_c : Nat) (m_34 m_35 : Int), Rd I4 ((c_r b_r) :: F4) (ad.add (Int.toNat (x) * 36)) [vb m_0, vb m_1, vs m_2, vb m_3, vb m_4, vb m_5, vi m_6, vb m_7, vs m_8, vl m_9_a m_9_n m_9_c, vi m_10, vb m_11, vb m_12, vb m_13, vi m_14, vb m_15, vs m_16, vl m_17_a m_17_n m_17_c, vi m_18, vb m_19, vb m_20, vb m_21, vi m_22, vb m_23, vs m_24, vl m_25_a m_25_n m_25_c, vi m_26, vb m_27, vb m_28, vb m_29, vi m_30, vb m_31, vs m_32, vl m_33_a m_33_n m_33_c, vi m_34, vi m_35] ∧ ∀ b_d : Nat, Tri P 93 (#[Value.agg #[vb m_0, vb m_1, vs m_2, vb m_3, vb m_4, vb m_5, vi m_6, vb m_7, vs m_8, vl m_9_a m_9_n m_9_c, vi m_10, vb m_11, vb m_12, vb m_13, vi m_14, vb m_15, vs m_16, vl m_17_a m_17_n m_17_c, vi m_18, vb m_19, vb m_20, vb m_21, vi m_22, vb m_23, vs m_24, vl m_25_a m_25_n m_25_c, vi m_26, vb m_27, vb m_28, vb m_29, vi m_30, vb m_31, vs m_32, vl m_33_a m_33_n m_33_c, vi m_34, vi m_35]]) I4 ((c_r b_r) :: (b_d, Obj.cells #[vb m_0, vb m_1, vs m_2, vb m_3, vb m_4, vb m_5, vi m_6, vb m_7, vs m_8, vl m_9_a m_9_n m_9_c, vi m_10, vb m_11, vb m_12, vb m_13, vi m_14, vb m_15, vs m_16, vl m_17_a m_17_n m_17_c, vi m_18, vb m_19, vb m_20, vb m_21, vi m_22, vb m_23, vs m_24, vl m_25_a m_25_n m_25_c, vi m_26, vb m_27, vb m_28, vb m_29, vi m_30, vb m_31, vs m_32, vl m_33_a m_33_n m_33_c, vi m_34, vi m_35] 135 (0, 0)) :: F4) fun e4 I5 G4 => ((e4 = .returned (Value.tuple #[]) ∧ ∃ F5 : Heap, List.Perm G4 ((c_r b_r) :: (b_d, Obj.cells #[vb m_0, vb m_1, vs m_2, vb m_3, vb m_4, vb m_5, vi m_6, vb m_7, vs m_8, vl m_9_a m_9_n m_9_c, vi m_10, vb m_11, vb m_12, vb m_13, vi m_14, vb m_15, vs m_16, vl m_17_a m_17_n m_17_c, vi m_18, vb m_19, vb m_20, vb m_21, vi m_22, vb m_23, vs m_24, vl m_25_a m_25_n m_25_c, vi m_26, vb m_27, vb m_28, vb m_29, vi m_30, vb m_31, vs m_32, vl m_33_a m_33_n m_33_c, vi m_34, vi m_35] 135 (0, 0)) :: F5) ∧ (∃ m2 : Nat, m2 < m1 ∧ Inv11 (IntKind.wrap .i64 (x + 1)) m2 I5 F5)) ∨ (∃ ch : List PanicEntry, e4 = .panicked ch ∧ ∃ F6 : Heap, List.Perm G4 ((c_r b_r) :: (b_d, Obj.cells #[vb m_0, vb m_1, vs m_2, vb m_3, vb m_4, vb m_5, vi m_6, vb m_7, vs m_8, vl m_9_a m_9_n m_9_c, vi m_10, vb m_11, vb m_12, vb m_13, vi m_14, vb m_15, vs m_16, vl m_17_a m_17_n m_17_c, vi m_18, vb m_19, vb m_20, vb m_21, vi m_22, vb m_23, vs m_24, vl m_25_a m_25_n m_25_c, vi m_26, vb m_27, vb m_28, vb m_29, vi m_30, vb m_31, vs m_32, vl m_33_a m_33_n m_33_c, vi m_34, vi m_35] 135 (0, 0)) :: F6) ∧ Q (.panicked ch) I5 (F6))))) ∧ (decide (x < ((r_8_n : Nat) : Int)) = false → Q (.returned (Value.tuple #[])) I4 (F4)))) ∨ (∃ ch1 : List PanicEntry, e3 = .panicked ch1 ∧ ∃ F7 : Heap, List.Perm G3 ((c_r b_r) :: F7) ∧ Q (.panicked ch1) I3 (F7)))) ∨ (∃ ch2 : List PanicEntry, e2 = .panicked ch2 ∧ ∃ F8 : Heap, List.Perm G2 ((c_r b_r) :: F8) ∧ Q (.panicked ch2) I2 (F8)))) ∨ (∃ ch3 : List PanicEntry, e1 = .panicked ch3 ∧ ∃ F9 : Heap, List.Perm G1 ((c_r b_r) :: F9) ∧ Q (.panicked ch3) I1 (F9)))
set_option maxRecDepth 100000 in
theorem tree_rule.vc {r_0 r_1 r_2 r_3 r_4 : Int} {r_5 : ByteArray} {r_6_a : Option Addr} {r_6_n r_6_c : Nat} {r_7 : Int} {r_8_a : Option Addr} {r_8_n r_8_c : Nat} {r_9 : Int} {I : Imm} {F : Heap} {Q : PostQ} (Inv11 : Int → Nat → Imm → Heap → Prop) (h : tree_rule.V (fun b => (b, Obj.cells #[Value.int .u8 r_0, Value.int .u8 r_1, Value.int .u8 r_2, Value.int .i64 r_3, Value.int .u8 r_4, Value.string r_5, Value.slice r_6_a r_6_n r_6_c, Value.int .i64 r_7, Value.slice r_8_a r_8_n r_8_c, Value.int .i64 r_9] 90 (0, 0))) (.int .u8) (.int .i64) .string .slice r_0 r_1 r_2 r_3 r_4 r_5 r_6_a r_6_n r_6_c r_7 r_8_a r_8_n r_8_c r_9 I F Q Inv11) : Tri P 83 #[Value.agg #[Value.int .u8 r_0, Value.int .u8 r_1, Value.int .u8 r_2, Value.int .i64 r_3, Value.int .u8 r_4, Value.string r_5, Value.slice r_6_a r_6_n r_6_c, Value.int .i64 r_7, Value.slice r_8_a r_8_n r_8_c, Value.int .i64 r_9]] I (F) Q :=
  tri_of_V (A := (annL [5000] [41, 81, 93] [41, 81, 93] shT_t4 [(11, ⟨[(20, (.int .i64))], [], fun _ _ _ vs m I F => match vs with | [.int _ y0] => Inv11 y0 m I F | _ => False, [], []⟩)] [] [] [] [] [] [])) (args := [.a (.v (Value.agg #[Value.int .u8 r_0, Value.int .u8 r_1, Value.int .u8 r_2, Value.int .i64 r_3, Value.int .u8 r_4, Value.string r_5, Value.slice r_6_a r_6_n r_6_c, Value.int .i64 r_7, Value.slice r_8_a r_8_n r_8_c, Value.int .i64 r_9]))]) (own := []) (keep := []) [41, 81, 93] Go.Proofs.Try.func83 h (by kernel_rfl) (by kernel_rfl) (by kernel_rfl) (by kernel_rfl) (by kernel_rfl) (by simp [AV.wf, At.wf]) (by simp [AV.wf, At.wf]) rfl
set_option maxRecDepth 100000 in
def law12_farExpr.V (nO : Int → Int → Int → Int → Int → ByteArray → Option Addr → Nat → Nat → Int → Obj) (vb vi : Int → Value) (n_0 n_1 n_2 n_3 n_4 : Int) (n_5 : ByteArray) (n_6_a : Option Addr) (n_6_n n_6_c : Nat) (n_7 : Int) (I : Imm) (F : Heap) (Q : PostQ)  : Prop := ∀ b_n : Nat, Tri P 38 (#[Value.agg #[vb n_0, vb n_1, vb n_2, vi n_3, vb n_4, Value.string n_5, Value.slice n_6_a n_6_n n_6_c, vi n_7], vi 0, vi 0]) I ((b_n, nO n_0 n_1 n_2 n_3 n_4 n_5 n_6_a n_6_n n_6_c n_7) :: F) fun e1 I1 G1 => ∃ (r : Int), e1 = .returned (vi r) ∧ ∃ F1 : Heap, List.Perm G1 ((b_n, nO n_0 n_1 n_2 n_3 n_4 n_5 n_6_a n_6_n n_6_c n_7) :: F1) ∧ Q (.returned (Value.bool (decide (r > 1048576)))) I1 (F1)
set_option maxRecDepth 100000 in
theorem law12_farExpr.vc {n_0 n_1 n_2 n_3 n_4 : Int} {n_5 : ByteArray} {n_6_a : Option Addr} {n_6_n n_6_c : Nat} {n_7 : Int} {I : Imm} {F : Heap} {Q : PostQ}  (h : law12_farExpr.V (fun k o t n f s a l c q => .cells #[Value.int .u8 k, Value.int .u8 o, Value.int .u8 t, Value.int .i64 n, Value.int .u8 f, Value.string s, Value.slice a l c, Value.int .i64 q] 28 (0, 0)) (.int .u8) (.int .i64) n_0 n_1 n_2 n_3 n_4 n_5 n_6_a n_6_n n_6_c n_7 I F Q) : Tri P 9 #[Value.agg #[Value.int .u8 n_0, Value.int .u8 n_1, Value.int .u8 n_2, Value.int .i64 n_3, Value.int .u8 n_4, Value.string n_5, Value.slice n_6_a n_6_n n_6_c, Value.int .i64 n_7]] I (F) Q :=
  tri_of_V (A := (annL [] [] [38] shT_t4 [] [] [] [] [] [] [])) (args := [.a (.v (Value.agg #[Value.int .u8 n_0, Value.int .u8 n_1, Value.int .u8 n_2, Value.int .i64 n_3, Value.int .u8 n_4, Value.string n_5, Value.slice n_6_a n_6_n n_6_c, Value.int .i64 n_7]))]) (own := []) (keep := []) [38] Go.Proofs.Try.func9 h (by kernel_rfl) (by kernel_rfl) (by kernel_rfl) (by kernel_rfl) (by kernel_rfl) (by simp [AV.wf, At.wf]) (by simp [AV.wf, At.wf]) rfl
set_option maxRecDepth 100000 in
def law12_sum.V (vb vi : Int → Value) (vs : ByteArray → Value) (vl : Option Addr → Nat → Nat → Value) (I : Imm) (F : Heap) (Q : PostQ)  : Prop := ∀ b : Nat, ∀ (b1 : Nat) (I1 : Imm), Imm.le I I1 → I1 b1 = some (Obj.cells #[vb 1, vb 0, vb 1, vi 2, vb 0, vs (⟨#[]⟩ : ByteArray), vl none 0 0, vi 0, vb 1, vb 0, vb 1, vi 3, vb 0, vs (⟨#[]⟩ : ByteArray), vl none 0 0, vi 0] 28 (0, 0)) → ∀ b_in : Nat, ∀ (b2 : Nat) (I2 : Imm), Imm.le I1 I2 → I2 b2 = some (Obj.cells #[vb 1, vb 0, vb 1, vi 1, vb 0, vs (⟨#[]⟩ : ByteArray), vl none 0 0, vi 0, vb 6, vb 6, vb 0, vi 0, vb 0, vs (⟨#[]⟩ : ByteArray), vl (some ⟨b1, 0, none⟩) 2 2, vi 5] 28 (0, 0)) → Q (.returned (Value.agg #[vb 6, vb 6, vb 0, vi 0, vb 0, vs (⟨#[]⟩ : ByteArray), vl (some ⟨b2, 0, none⟩) 2 2, vi 0])) I2 (F)
set_option maxRecDepth 100000 in
theorem law12_sum.vc  {I : Imm} {F : Heap} {Q : PostQ}  (h : law12_sum.V (.int .u8) (.int .i64) .string .slice I F Q) : Tri P 35 #[] I (F) Q :=
  tri_of_V (A := (annL [] [] [] shT_t4 [] [1002, 2002] [] [] [] [] [])) (args := []) (own := []) (keep := []) [] Go.Proofs.Try.func35 h (by kernel_rfl) (by kernel_rfl) (by kernel_rfl) (by kernel_rfl) (by kernel_rfl) (by simp [AV.wf, At.wf]) (by simp [AV.wf, At.wf]) rfl
set_option maxRecDepth 100000 in
def law12_least.V (vb vi : Int → Value) (vs : ByteArray → Value) (vl : Option Addr → Nat → Nat → Value) (I : Imm) (F : Heap) (Q : PostQ)  : Prop := ∀ b : Nat, ∀ b_when : Nat, ∀ (b1 : Nat) (I1 : Imm), Imm.le I I1 → I1 b1 = some (Obj.cells #[vb 6, vb 0, vs (⟨#[]⟩ : ByteArray), vb 0, vb 0, vb 0, vi 0, vb 0, vs (⟨#[]⟩ : ByteArray), vl none 0 0, vi 0, vb 0, vb 0, vb 0, vi 0, vb 0, vs (⟨#[]⟩ : ByteArray), vl none 0 0, vi 0, vb 0, vb 0, vb 0, vi 0, vb 0, vs (⟨#[]⟩ : ByteArray), vl none 0 0, vi 0, vb 0, vb 0, vb 0, vi 0, vb 0, vs (⟨#[]⟩ : ByteArray), vl none 0 0, vi 0, vi 0] 135 (0, 0)) → ∀ (b2 : Nat) (I2 : Imm), Imm.le I1 I2 → I2 b2 = some (Obj.cells #[vb 4, vb 0, vb 0, vi 0, vb 1, vs (⟨#[]⟩ : ByteArray), vl none 0 0, vi 0, vl (some ⟨b1, 0, none⟩) 1 1, vi 0] 90 (0, 0)) → ∀ (b3 : Nat) (I3 : Imm), Imm.le I2 I3 → I3 b3 = some (Obj.cells #[vs (⟨#[97]⟩ : ByteArray), vl (some ⟨b2, 0, none⟩) 1 1, vi 0] 93 (0, 0)) → Q (.returned (Value.agg #[vs (⟨#[115]⟩ : ByteArray), vl none 0 0, vl none 0 0, vl (some ⟨b3, 0, none⟩) 1 1])) I3 (F)
set_option maxRecDepth 100000 in
theorem law12_least.vc  {I : Imm} {F : Heap} {Q : PostQ}  (h : law12_least.V (.int .u8) (.int .i64) .string .slice I F Q) : Tri P 37 #[] I (F) Q :=
  tri_of_V (A := (annL [] [] [] shT_t4 [] [2002, 2004, 2006] [] [] [] [] [])) (args := []) (own := []) (keep := []) [] Go.Proofs.Try.func37 h (by kernel_rfl) (by kernel_rfl) (by kernel_rfl) (by kernel_rfl) (by kernel_rfl) (by simp [AV.wf, At.wf]) (by simp [AV.wf, At.wf]) rfl
set_option maxRecDepth 100000 in
def law12_awake.V (nV : Int → Int → Int → Int → Int → ByteArray → Option Addr → Nat → Nat → Int → Value) (nO : Int → Int → Int → Int → Int → ByteArray → Option Addr → Nat → Nat → Int → Obj) (vb vi : Int → Value) (vs : ByteArray → Value) (vl : Option Addr → Nat → Nat → Value) (vt : Bool → Value) (I : Imm) (F : Heap) (Q : PostQ)  : Prop := Tri P 35 (#[]) I (F) fun e1 I1 G1 => ∃ (r_0 r_1 r_2 r_3 r_4 : Int) (r_5 : ByteArray) (r_6_a : Option Addr) (r_6_n r_6_c : Nat) (r_7 : Int), e1 = .returned (nV r_0 r_1 r_2 r_3 r_4 r_5 r_6_a r_6_n r_6_c r_7) ∧ ∃ F1 : Heap, List.Perm G1 (F1) ∧ ∀ b_n : Nat, Tri P 12 (#[nV r_0 r_1 r_2 r_3 r_4 r_5 r_6_a r_6_n r_6_c r_7]) I1 ((b_n, nO r_0 r_1 r_2 r_3 r_4 r_5 r_6_a r_6_n r_6_c r_7) :: F1) fun e2 I2 G2 => ∃ (r : Int), e2 = .returned (vi r) ∧ ∃ F2 : Heap, List.Perm G2 ((b_n, nO r_0 r_1 r_2 r_3 r_4 r_5 r_6_a r_6_n r_6_c r_7) :: F2) ∧ Tri P 13 (#[nV r_0 r_1 r_2 r_3 r_4 r_5 r_6_a r_6_n r_6_c r_7]) I2 ((b_n, nO r_0 r_1 r_2 r_3 r_4 r_5 r_6_a r_6_n r_6_c r_7) :: F2) fun e3 I3 G3 => ∃ (r1 : Int), e3 = .returned (vi r1) ∧ ∃ F3 : Heap, List.Perm G3 ((b_n, nO r_0 r_1 r_2 r_3 r_4 r_5 r_6_a r_6_n r_6_c r_7) :: F3) ∧ Tri P 14 (#[nV r_0 r_1 r_2 r_3 r_4 r_5 r_6_a r_6_n r_6_c r_7]) I3 ((b_n, nO r_0 r_1 r_2 r_3 r_4 r_5 r_6_a r_6_n r_6_c r_7) :: F3) fun e4 I4 G4 => ∃ (r2 : Int), e4 = .returned (vi r2) ∧ ∃ F4 : Heap, List.Perm G4 ((b_n, nO r_0 r_1 r_2 r_3 r_4 r_5 r_6_a r_6_n r_6_c r_7) :: F4) ∧ Tri P 11 (#[nV r_0 r_1 r_2 r_3 r_4 r_5 r_6_a r_6_n r_6_c r_7]) I4 ((b_n, nO r_0 r_1 r_2 r_3 r_4 r_5 r_6_a r_6_n r_6_c r_7) :: F4) fun e5 I5 G5 => ∃ (r3 : Int), e5 = .returned (vi r3) ∧ ∃ F5 : Heap, List.Perm G5 ((b_n, nO r_0 r_1 r_2 r_3 r_4 r_5 r_6_a r_6_n r_6_c r_7) :: F5) ∧ Tri P 11 (#[nV 1 0 6 0 0 (⟨#[]⟩ : ByteArray) none 0 0 0]) I5 ((b_n, nO r_0 r_1 r_2 r_3 r_4 r_5 r_6_a r_6_n r_6_c r_7) :: F5) fun e6 I6 G6 => ∃ (r4 : Int), e6 = .returned (vi r4) ∧ ∃ F6 : Heap, List.Perm G6 ((b_n, nO r_0 r_1 r_2 r_3 r_4 r_5 r_6_a r_6_n r_6_c r_7) :: F6) ∧ Tri P 37 (#[]) I6 ((b_n, nO r_0 r_1 r_2 r_3 r_4 r_5 r_6_a r_6_n r_6_c r_7) :: F6) fun e7 I7 G7 => ∃ (r_01 : ByteArray) (r_1_a : Option Addr) (r_1_n r_1_c : Nat) (r_2_a : Option Addr) (r_2_n r_2_c : Nat) (r_3_a : Option Addr) (r_3_n r_3_c : Nat), e7 = .returned (Value.agg #[vs r_01, vl r_1_a r_1_n r_1_c, vl r_2_a r_2_n r_2_c, vl r_3_a r_3_n r_3_c]) ∧ ∃ F7 : Heap, List.Perm G7 ((b_n, nO r_0 r_1 r_2 r_3 r_4 r_5 r_6_a r_6_n r_6_c r_7) :: F7) ∧ Tri P 36 (#[Value.agg #[vs r_01, vl r_1_a r_1_n r_1_c, vl r_2_a r_2_n r_2_c, vl r_3_a r_3_n r_3_c]]) I7 ((b_n, nO r_0 r_1 r_2 r_3 r_4 r_5 r_6_a r_6_n r_6_c r_7) :: F7) fun e8 I8 G8 => ∃ (r5 : Int), e8 = .returned (vi r5) ∧ ∃ F8 : Heap, List.Perm G8 ((b_n, nO r_0 r_1 r_2 r_3 r_4 r_5 r_6_a r_6_n r_6_c r_7) :: F8) ∧ Tri P 36 (#[Value.agg #[vs (⟨#[115]⟩ : ByteArray), vl none 0 0, vl none 0 0, vl none 0 0]]) I8 ((b_n, nO r_0 r_1 r_2 r_3 r_4 r_5 r_6_a r_6_n r_6_c r_7) :: F8) fun e9 I9 G9 => ∃ (r6 : Int), e9 = .returned (vi r6) ∧ ∃ F9 : Heap, List.Perm G9 ((b_n, nO r_0 r_1 r_2 r_3 r_4 r_5 r_6_a r_6_n r_6_c r_7) :: F9) ∧ Tri P 37 (#[]) I9 ((b_n, nO r_0 r_1 r_2 r_3 r_4 r_5 r_6_a r_6_n r_6_c r_7) :: F9) fun e10 I10 G10 => ∃ (r_02 : ByteArray) (r_1_a1 : Option Addr) (r_1_n1 r_1_c1 : Nat) (r_2_a1 : Option Addr) (r_2_n1 r_2_c1 : Nat) (r_3_a1 : Option Addr) (r_3_n1 r_3_c1 : Nat), e10 = .returned (Value.agg #[vs r_02, vl r_1_a1 r_1_n1 r_1_c1, vl r_2_a1 r_2_n1 r_2_c1, vl r_3_a1 r_3_n1 r_3_c1]) ∧ ∃ F10 : Heap, List.Perm G10 ((b_n, nO r_0 r_1 r_2 r_3 r_4 r_5 r_6_a r_6_n r_6_c r_7) :: F10) ∧ ((0 ≤ (0 : Int) ∧ (0 : Int) < (r_3_n1 : Int)) ∧ ∃ ad : Addr, r_3_a1 = some ad ∧ ∃ (m_a : Option Addr) (m_n m_c : Nat), Rd I10 ((b_n, nO r_0 r_1 r_2 r_3 r_4 r_5 r_6_a r_6_n r_6_c r_7) :: F10) ((ad.add (Int.toNat (0) * 3)).add 1) [vl m_a m_n m_c] ∧ ((0 ≤ (0 : Int) ∧ (0 : Int) < (m_n : Int)) ∧ ∃ ad1 : Addr, m_a = some ad1 ∧ ∃ (m_0 m_1 m_2 m_3 m_4 : Int) (m_5 : ByteArray) (m_6_a : Option Addr) (m_6_n m_6_c : Nat) (m_7 : Int), Rd I10 ((b_n, nO r_0 r_1 r_2 r_3 r_4 r_5 r_6_a r_6_n r_6_c r_7) :: F10) ((ad1.add (Int.toNat (0) * 10)).add 0) [vb m_0, vb m_1, vb m_2, vi m_3, vb m_4, vs m_5, vl m_6_a m_6_n m_6_c, vi m_7] ∧ Tri P 27 (#[nV m_0 m_1 m_2 m_3 m_4 m_5 m_6_a m_6_n m_6_c m_7]) I10 ((b_n, nO r_0 r_1 r_2 r_3 r_4 r_5 r_6_a r_6_n r_6_c r_7) :: F10) fun e11 I11 G11 => ∃ (r0 : Int) (r1_a : Option Addr) (r1_n r1_c : Nat), e11 = .returned (Value.tuple #[Value.int .u16 r0, vl r1_a r1_n r1_c]) ∧ ∃ F11 : Heap, List.Perm G11 ((b_n, nO r_0 r_1 r_2 r_3 r_4 r_5 r_6_a r_6_n r_6_c r_7) :: F11) ∧ Tri P 16 (#[nV r_0 r_1 r_2 r_3 r_4 r_5 r_6_a r_6_n r_6_c r_7]) I11 ((b_n, nO r_0 r_1 r_2 r_3 r_4 r_5 r_6_a r_6_n r_6_c r_7) :: F11) fun e12 I12 G12 => ∃ (r_03 r_11 r_21 r_31 r_41 : Int) (r_51 : ByteArray) (r_6_a1 : Option Addr) (r_6_n1 r_6_c1 : Nat) (r_71 : Int), e12 = .returned (nV r_03 r_11 r_21 r_31 r_41 r_51 r_6_a1 r_6_n1 r_6_c1 r_71) ∧ ∃ F12 : Heap, List.Perm G12 ((b_n, nO r_0 r_1 r_2 r_3 r_4 r_5 r_6_a r_6_n r_6_c r_7) :: F12) ∧ ∀ b_b : Nat, Tri P 15 (#[nV r_0 r_1 r_2 r_3 r_4 r_5 r_6_a r_6_n r_6_c r_7, nV r_03 r_11 r_21 r_31 r_41 r_51 r_6_a1 r_6_n1 r_6_c1 r_71]) I12 ((b_n, nO r_0 r_1 r_2 r_3 r_4 r_5 r_6_a r_6_n r_6_c r_7) :: (b_b, nO r_03 r_11 r_21 r_31 r_41 r_51 r_6_a1 r_6_n1 r_6_c1 r_71) :: F12) fun e13 I13 G13 => ∃ (r7 : Bool), e13 = .returned (vt r7) ∧ ∃ F13 : Heap, List.Perm G13 ((b_n, nO r_0 r_1 r_2 r_3 r_4 r_5 r_6_a r_6_n r_6_c r_7) :: (b_b, nO r_03 r_11 r_21 r_31 r_41 r_51 r_6_a1 r_6_n1 r_6_c1 r_71) :: F13) ∧ (((r == 5) = true → (((r1 == 1) = true → (((r2 == 5) = true → (((r3 == 0) = true → (((r4 == 120) = true → (((r5 == 0) = true → (((r6 == 120) = true → (((r0 == 2) = true → (((((r1_n : Nat) : Int) == 0) = true → ((r7 = true → (((((r_6_n1 : Nat) : Int) == 2) = true → ((0 ≤ (1 : Int) ∧ (1 : Int) < (r_6_n1 : Int)) ∧ ∃ ad2 : Addr, r_6_a1 = some ad2 ∧ ∃ (m : Int), Rd I13 ((b_n, nO r_0 r_1 r_2 r_3 r_4 r_5 r_6_a r_6_n r_6_c r_7) :: (b_b, nO r_03 r_11 r_21 r_31 r_41 r_51 r_6_a1 r_6_n1 r_6_c1 r_71) :: F13) ((ad2.add (Int.toNat (1) * 8)).add 7) [vi m] ∧ Q (.returned (vt (m == 0))) I13 (F13))) ∧ ((((r_6_n1 : Nat) : Int) == 2) = false → Q (.returned (vt false)) I13 (F13)))) ∧ (r7 = false → Q (.returned (vt false)) I13 (F13)))) ∧ ((((r1_n : Nat) : Int) == 0) = false → Q (.returned (vt false)) I13 (F13)))) ∧ ((r0 == 2) = false → Q (.returned (vt false)) I13 (F13)))) ∧ ((r6 == 120) = false → Q (.returned (vt false)) I13 (F13)))) ∧ ((r5 == 0) = false → Q (.returned (vt false)) I13 (F13)))) ∧ ((r4 == 120) = false → Q (.returned (vt false)) I13 (F13)))) ∧ ((r3 == 0) = false → Q (.returned (vt false)) I13 (F13)))) ∧ ((r2 == 5) = false → Q (.returned (vt false)) I13 (F13)))) ∧ ((r1 == 1) = false → Q (.returned (vt false)) I13 (F13)))) ∧ ((r == 5) = false → Q (.returned (vt false)) I13 (F13)))))
set_option maxRecDepth 100000 in
theorem law12_awake.vc  {I : Imm} {F : Heap} {Q : PostQ}  (h : law12_awake.V (fun k o t n f s a l c q => .agg #[Value.int .u8 k, Value.int .u8 o, Value.int .u8 t, Value.int .i64 n, Value.int .u8 f, Value.string s, Value.slice a l c, Value.int .i64 q]) (fun k o t n f s a l c q => .cells #[Value.int .u8 k, Value.int .u8 o, Value.int .u8 t, Value.int .i64 n, Value.int .u8 f, Value.string s, Value.slice a l c, Value.int .i64 q] 28 (0, 0)) (.int .u8) (.int .i64) .string .slice .bool I F Q) : Tri P 8 #[] I (F) Q :=
  tri_of_V (A := (annL [12001, 12004, 12008, 12012, 12016, 12020, 12024, 12028, 12033, 12036, 12042] [] [11, 12, 13, 14, 15, 16, 27, 35, 36, 37] shT_t4 [] [] [] [] [] [] [])) (args := []) (own := []) (keep := []) [11, 12, 13, 14, 15, 16, 27, 35, 36, 37] Go.Proofs.Try.func8 h (by kernel_rfl) (by kernel_rfl) (by kernel_rfl) (by kernel_rfl) (by kernel_rfl) (by simp [AV.wf, At.wf]) (by simp [AV.wf, At.wf]) rfl
end Go.Lx
namespace Go.Lx
open Go.Vc
def Errs (n : Int) (F : Heap) (e : Ending) (I : Imm) (G : Heap) : Prop := e = errOf n ∧ G = F
theorem Errs.use {Pr : Program} {f : FuncId} {args : Array Value} {I : Imm} {F : Heap} {n : Int} {Q : Ending → Imm → Heap → Prop} (h : Tri Pr f args I F (Errs n F))
    (k1 : n = 0 → ∀ I', Imm.le I I' → Q (.returned (.tuple #[])) I' F) (k2 : n ≠ 0 → ∀ I', Imm.le I I' → Q (.panicked (wrongP n)) I' F) : Tri Pr f args I F Q :=
  h.mono fun e I' G hl ⟨he, hG⟩ => by
    subst hG
    by_cases hn : n = 0
    · rw [errOf, if_pos hn] at he; subst he; exact k1 hn I' hl
    · rw [errOf, if_neg hn] at he; subst he; exact k2 hn I' hl
theorem Errs.fail {n b N : Int} {F : Heap} {I : Imm} (h : N = thenE n b) (hn : n ≠ 0) : Errs N F (.panicked (wrongP n)) I F := ⟨by rw [h, thenE_ne hn, errOf, if_neg hn], rfl⟩
theorem Errs.fail1 {n N : Int} {F : Heap} {I : Imm} (h : N = n) (hn : n ≠ 0) : Errs N F (.panicked (wrongP n)) I F := ⟨by rw [h, errOf, if_neg hn], rfl⟩
theorem Errs.done {N : Int} {F : Heap} {I : Imm} (h : N = 0) : Errs N F (.returned (.tuple #[])) I F := ⟨by rw [h, errOf, if_pos rfl], rfl⟩
theorem Errs.look {b : Bool} {err : Int} (he : err ≠ 0) {Pr : Program} {f : FuncId} {args : Array Value} {I : Imm} {F : Heap} (h : Tri Pr f args I F (Look b err F)) : Tri Pr f args I F (Errs (errB b err) F) :=
  h.mono fun e I' G _ ⟨h1, h2⟩ => ⟨by rw [h1]; cases b <;> simp [errB, errOf, he], h2⟩
theorem must_errs (b : Bool) {err : Int} (he : err ≠ 0) (I : Imm) (F : Heap) : Tri P 81 #[.bool b, .int .i64 err] I F (Errs (errB b err) F) := Errs.look he (must_spec b err I F)
theorem named_spec (s : ByteArray) (I : Imm) (F : Heap) : Tri P 80 #[.string s] I F (Errs (errB (nameB s) 120) F) := by
  refine tree_named.vc ?_
  unfold tree_named.V
  exact Tri.ret (Name_spec (t := s) I _) fun I1 _ => ⟨_, rfl, F, .refl _, Errs.use (must_errs _ (by decide) I1 _) (fun q I2 _ => .inl ⟨rfl, F, .refl _, .done q⟩) (fun q I2 _ => .inr ⟨_, rfl, F, .refl _, .fail1 rfl q⟩)⟩
theorem none_eq (t : Nd) : t.px.noneB = (bEq t.kind t.oper t.typ t.n t.field t.name 0 0 0 0 0 ⟨#[]⟩ && decide (t.kids.length = 0)) := by
  unfold Px.noneB bEq
  rw [Nd.px_kind, Nd.px_oper, Nd.px_typ, Nd.px_n, Nd.px_field, Nd.px_name, Nd.px_len, empty_list]
  simp only [Bool.and_true]
theorem unnamed_spec (t : Nd) (I : Imm) (F : Heap) : Tri P 108 #[t.v] I F (Errs (errB t.px.noneB 120) F) := by
  refine tree_unnamed.vc ?_
  unfold tree_unnamed.V
  intro b_n
  rw [none_eq]
  refine (alone_spec t I _).mono fun e I1 G hI1 ⟨he, hG⟩ => ?_
  subst hG
  refine ⟨_, _, _, _, _, _, he, F, .refl _, _, bare_eql t.kind t.oper t.typ t.n t.field t.name 0 0 0 0 0 ⟨#[]⟩, fun hq => ?_, fun hq => ?_⟩
  · rw [hq, Bool.true_and]
    have e : (((t.kids.length : Nat) : Int) == 0) = decide (t.kids.length = 0) := by rw [Bool.eq_iff_iff]; simp
    rw [e]
    refine Errs.use (must_errs _ (by decide) I1 _) (fun q2 I2 hI2 => .inl ⟨rfl, _, .refl _, ?_⟩) (fun q2 I2 hI2 => .inr ⟨_, rfl, _, .refl _, ?_⟩)
    · exact .done q2
    · exact .fail1 rfl q2
  · rw [hq, Bool.false_and]
    refine Errs.use (must_errs _ (by decide) I1 _) (fun q2 I2 hI2 => .inl ⟨rfl, _, .refl _, ?_⟩) (fun q2 I2 hI2 => .inr ⟨_, rfl, _, .refl _, ?_⟩)
    · exact .done q2
    · exact .fail1 rfl q2
theorem part_spec (is : Bool) (t : Nd) (hs : t.px.size ≤ 1048576) (I : Imm) (F : Heap) (ht : NdOk I F t) : Tri P 101 #[.bool is, t.v] I F (Errs (partE is t.px) F) := by
  refine tree_part.vc ?_
  unfold tree_part.V partE
  intro b_n
  refine ⟨fun h => ?_, fun h => ?_⟩
  · rw [h]
    refine Errs.use (expr_spec t hs I _ ht.cons) (fun q1 I1 hI1 => .inl ⟨rfl, _, .refl _, ?_⟩) (fun q1 I1 hI1 => .inr ⟨_, rfl, _, .refl _, ?_⟩)
    · exact .done q1
    · exact .fail1 rfl q1
  · rw [h]
    refine Errs.use (unnamed_spec t I _) (fun q1 I1 hI1 => .inl ⟨rfl, _, .refl _, ?_⟩) (fun q1 I1 hI1 => .inr ⟨_, rfl, _, .refl _, ?_⟩)
    · exact .done q1
    · exact .fail1 rfl q1
theorem errB_zero {b : Bool} {n : Int} (hn : n ≠ 0) (h : errB b n = 0) : b = true := by
  unfold errB at h; cases b <;> simp_all
theorem errB_ne {b : Bool} {n : Int} (h : errB b n ≠ 0) : b = false ∧ errB b n = n := by
  unfold errB at h ⊢; cases b <;> simp_all
theorem begin_spec (t : Nd) (hs : t.px.size ≤ 1048576) (I : Imm) (F : Heap) (ht : NdOk I F t) : Tri P 82 #[t.v] I F (Errs (errB (t.px.formed && t.px.beginB) 120) F) := by
  refine tree_begin.vc ?_
  unfold tree_begin.V
  intro b_n
  refine Errs.use (Errs.look (by decide) (node_spec t hs I _ ht.cons)) (fun q1 I1 hI1 => .inl ⟨rfl, _, .refl _, ?_⟩) (fun q1 I1 hI1 => .inr ⟨_, rfl, _, .refl _, ?_⟩)
  · have hf := errB_zero (by decide) q1
    rw [hf, Bool.true_and]
    unfold Px.beginB
    rw [Nd.px_kind, Nd.px_oper]
    have hk1 : (t.kind == 1) = decide (t.kind = 1) := rfl
    refine ⟨fun h5 => ⟨fun h1 => ?_, fun h1 => ?_⟩, fun h5 => ?_⟩
    · have h5 : t.kind = 5 := by simpa using h5
      have h1 : t.oper = 1 := by simpa using h1
      have hlen : t.kids.length = 1 := by
        have := Px.formed_eq t.px
        rw [hf] at this
        have h2 := (Bool.and_eq_true _ _ ▸ this.symm).1
        unfold Px.oneB at h2
        simp only [Bool.and_eq_true, decide_eq_true_eq] at h2
        have h3 := h2.2
        unfold Px.arity at h3
        rw [Nd.px_kind, if_pos (.inl h5), Nd.px_len] at h3
        exact h3
      obtain ⟨ad, x, had, hx, hrd, hxo, hxm⟩ := ((ht.mono hI1 fun _ h => h).cons (x := (b_n, Obj.cells #[.int .u8 t.kind, .int .u8 t.oper, .int .u8 t.typ, .int .i64 t.n, .int .u8 t.field, .string t.name, .slice t.a t.kids.length t.c, .int .i64 t.pos] 28 (0, 0)))).kids.at (i := 0) (by decide) (by omega)
      have hks : t.px.kids = [x.px] := by
        rw [Nd.px_kids]
        match hk : t.kids with
        | [y] => rw [hk] at hx; simp at hx; rw [hx]; rfl
        | [] => rw [hk] at hlen; simp at hlen
        | y :: z :: r => rw [hk] at hlen; simp at hlen
      rw [if_pos ⟨h5, h1⟩, hks]
      simp only
      rw [Nd.px_kind, Nd.px_typ]
      refine ⟨⟨by omega, by omega⟩, ad, had, _, _, _, _, _, _, _, _, _, _, hrd, fun hk => ?_, fun hk => ?_⟩
      · have hk' : x.kind = 1 := by simpa using hk
        refine Errs.use (must_errs _ (by decide) I1 _) (fun q2 I2 hI2 => .inl ⟨rfl, _, .refl _, ?_⟩) (fun q2 I2 hI2 => .inr ⟨_, rfl, _, .refl _, ?_⟩)
        · have := errB_zero (by decide) q2
          have h2 : decide (x.kind = 1 ∧ x.typ ≤ 4) = true := decide_eq_true ⟨hk', of_decide_eq_true this⟩
          rw [h2, hk]
          refine Errs.use (must_errs _ (by decide) I2 _) (fun q3 I3 hI3 => .inl ⟨rfl, _, .refl _, ?_⟩) (fun q3 I3 hI3 => .inr ⟨_, rfl, _, .refl _, ?_⟩)
          · exact .done rfl
          · exact absurd rfl q3
        · have h2 : decide (x.kind = 1 ∧ x.typ ≤ 4) = false := decide_eq_false fun h => by
            have := (errB_ne q2).1; rw [decide_eq_true h.2] at this; cases this
          rw [h2]
          exact .fail1 (errB_ne q2).2.symm q2
      · have hk' : x.kind ≠ 1 := by simpa using hk
        have h2 : decide (x.kind = 1 ∧ x.typ ≤ 4) = false := decide_eq_false fun h => hk' h.1
        rw [h2]
        refine Errs.use (must_errs _ (by decide) I1 _) (fun q2 I2 hI2 => .inl ⟨rfl, _, .refl _, ?_⟩) (fun q2 I2 hI2 => .inr ⟨_, rfl, _, .refl _, ?_⟩)
        · cases q2
        · exact .fail1 rfl q2
    · have h1 : t.oper ≠ 1 := by simpa using h1
      rw [if_neg fun h => h1 h.2, ← hk1]
      refine Errs.use (must_errs _ (by decide) I1 _) (fun q2 I2 hI2 => .inl ⟨rfl, _, .refl _, ?_⟩) (fun q2 I2 hI2 => .inr ⟨_, rfl, _, .refl _, ?_⟩)
      · exact .done q2
      · exact .fail1 rfl q2
    · have h5 : t.kind ≠ 5 := by simpa using h5
      rw [if_neg fun h => h5 h.1, ← hk1]
      refine Errs.use (must_errs _ (by decide) I1 _) (fun q2 I2 hI2 => .inl ⟨rfl, _, .refl _, ?_⟩) (fun q2 I2 hI2 => .inr ⟨_, rfl, _, .refl _, ?_⟩)
      · exact .done q2
      · exact .fail1 rfl q2
  · exact .fail1 (by rw [(errB_ne q1).1]; rfl) q1
end Go.Lx
