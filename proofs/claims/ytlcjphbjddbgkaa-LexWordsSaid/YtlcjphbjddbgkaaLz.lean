import Derived.Test.YtlcjphbjddbgkaaLy
import Derived.Test.YtlcjphbjddbgkaaVx10
import Derived.Test.YtlcjphbjddbgkaaLl
set_option linter.unusedVariables false
set_option linter.unusedSimpArgs false
namespace Go.Lx
open Go.Vc

/-- the book's block -/
def bookCells (rw : Nat → Row) : Array Value := #[(rw 0).v, (rw 1).v, (rw 2).v, (rw 3).v, (rw 4).v, (rw 5).v, (rw 6).v, (rw 7).v, (rw 8).v, (rw 9).v, (rw 10).v]
theorem book_rd {I : Imm} {G : Heap} {b : Nat} {cells : Array Value} (h : (b, Obj.cells cells 67 (0, 0)) ∈ G) {k : Nat} {v : Value} (hv : cells[k]? = some v) : Rd I G ((⟨b, 0, none⟩ : Addr).add k) [v] := by
  rw [add_lit0]
  refine ⟨rfl, _, _, _, .inr h, fun j hj => ?_⟩
  have : j = 0 := by simpa using hj
  subst this
  simpa using hv
def textRows (r : Row) (k : Nat) : Row := if k = 10 then r else ⟨none, 0, 0⟩
theorem BookOwn_texts {r : Row} {H : Heap} {b : Nat} {I : Imm} {F : Heap} (h : OwnCall 57 r H) :
    Tri P 24 #[.pointer (some ⟨b, 0, none⟩)] I ((b, Obj.cells (bookCells (textRows r)) 67 (0, 0)) :: (H ++ F)) fun e I' G => e = .returned (.bool true) ∧ G = F := by
  refine Tri.keep (Q := fun e I' G => e = .returned (.bool true) ∧ G = (b, Obj.cells (bookCells (textRows r)) 67 (0, 0)) :: F) ?_ fun e I' G w hl hs ⟨he, hG⟩ => ⟨I', F, Imm.le_refl _, by subst hG; exact hs.sub (List.sublist_cons_self _ _), he, rfl⟩
  refine ref00_Book_Own.vc ?_
  unfold ref00_Book_Own.V
  refine ⟨_, rfl, _, _, _, book_rd (List.mem_cons_self ..) rfl, own_step (H := []) ownInts_nil fun I1 g1 => ⟨_, rfl, _, .refl _, ?_⟩⟩
  refine ⟨_, rfl, _, _, _, book_rd (List.mem_cons_self ..) rfl, own_step (H := []) ownLongs_nil fun I1 g1 => ⟨_, rfl, _, .refl _, ?_⟩⟩
  refine ⟨_, rfl, _, _, _, book_rd (List.mem_cons_self ..) rfl, own_step (H := []) ownNumbers_nil fun I1 g1 => ⟨_, rfl, _, .refl _, ?_⟩⟩
  refine ⟨_, rfl, _, _, _, book_rd (List.mem_cons_self ..) rfl, own_step (H := []) ownOrders_nil fun I1 g1 => ⟨_, rfl, _, .refl _, ?_⟩⟩
  refine ⟨_, rfl, _, _, _, book_rd (List.mem_cons_self ..) rfl, own_step (H := []) ownLevels_nil fun I1 g1 => ⟨_, rfl, _, .refl _, ?_⟩⟩
  refine ⟨_, rfl, _, _, _, book_rd (List.mem_cons_self ..) rfl, own_step (H := []) ownHits_nil fun I1 g1 => ⟨_, rfl, _, .refl _, ?_⟩⟩
  refine ⟨_, rfl, _, _, _, book_rd (List.mem_cons_self ..) rfl, own_step (H := []) ownEvents_nil fun I1 g1 => ⟨_, rfl, _, .refl _, ?_⟩⟩
  refine ⟨_, rfl, _, _, _, book_rd (List.mem_cons_self ..) rfl, own_step (H := []) ownFeeds_nil fun I1 g1 => ⟨_, rfl, _, .refl _, ?_⟩⟩
  refine ⟨_, rfl, _, _, _, book_rd (List.mem_cons_self ..) rfl, own_step (H := []) ownActions_nil fun I1 g1 => ⟨_, rfl, _, .refl _, ?_⟩⟩
  refine ⟨_, rfl, _, _, _, book_rd (List.mem_cons_self ..) rfl, own_step (H := []) ownTolds_nil fun I1 g1 => ⟨_, rfl, _, .refl _, ?_⟩⟩
  refine ⟨_, rfl, _, _, _, book_rd (List.mem_cons_self ..) rfl, own_step h fun I1 g1 => ⟨_, rfl, _, .refl _, ?_⟩⟩
  repeat (refine ⟨fun _ => ?_, fun h => by (cases h)⟩)
  exact ⟨rfl, rfl⟩
/-- a list is put into the book -/
theorem BookTexts_spec {r0 : Row} {b : Nat} {r : Row} {rs : List Row} {Al R : Heap} (hA : Acc 1 Row.enc 38 r0.a r0.n r0.c rs Al) (hl : rs.length ≤ 1000000000) (I : Imm) :
    Tri P 23 #[.pointer (some ⟨b, 0, none⟩), r.v] I ((b, Obj.cells (bookCells (textRows r0)) 67 (0, 0)) :: (Al ++ R)) fun e I' G => e = .returned (.tuple #[]) ∧
      ∃ r' Al', Acc 1 Row.enc 38 r'.a r'.n r'.c (rs ++ [r]) Al' ∧ G.Perm ((b, Obj.cells (bookCells (textRows r')) 67 (0, 0)) :: (Al' ++ R)) := by
  refine ref00_Book_Texts.vc ?_
  unfold ref00_Book_Texts.V
  refine ⟨_, rfl, _, _, _, book_rd (List.mem_cons_self ..) rfl, ?_⟩
  intro b1 I1 hI1 hb1
  refine TriE.perm (TriE.mono (append_spec' (f := Row.enc) (z := 1) (zv := .slice none 0 0) (fun _ => rfl) (by' := 24) (by kernel_rfl) (by kernel_rfl) rfl (by decide) hA (xs := [r]) (fun x _ => rows_one x) (by simp) rfl ?_ ?_ (F := (b, Obj.cells (bookCells (textRows r0)) 67 (0, 0)) :: R))
    fun v I' G hI ⟨a', n', c', A', hv, hA', hG, _⟩ => ?_) List.perm_middle.symm
  · exact ⟨rfl, _, _, _, .inl hb1, fun j hj => by simp [Row.enc]⟩
  · simp only [List.length_cons, List.length_nil]; omega
  subst hG
  refine ⟨_, _, _, hv, _, .refl _, _, rfl, (bookCells (textRows r0)).toList, 67, A' ++ R, ?_, ?_, ?_, rfl, ⟨a', n', c'⟩, A', hA', ?_⟩
  · exact List.perm_middle
  · rw [add_lit0]
  · rw [add_lit0]; exact (by decide : 10 + 1 ≤ 11)
  · rw [add_lit0]
    exact .refl _

theorem rName_spec {t : ByteArray} (I : Imm) (F : Heap) : Tri P 26 #[.string t] I F (Ret (.bool (nameB t)) F) := by
  refine ref11_Name.vc (fun x i m I' F' => 0 ≤ i ∧ i ≤ t.size ∧ m = (t.size - i).toNat ∧ runAt innerB t i = runAt innerB t 0 ∧ F' = F) ?_
  unfold ref11_Name.V
  refine Tri.ret (rWord_spec t I _) fun I1 hI1 => ⟨_, rfl, F, .refl _, fun h4 => ⟨?_, rfl⟩, fun h4 => ⟨fun h1 => ⟨?_, rfl⟩, fun h1 => ⟨fun h2 => ⟨?_, rfl⟩, fun h2 => ?_⟩⟩⟩
  · rw [show nameB t = false by unfold nameB; rw [h4]; simp]
  · have h1 := of_decide_eq_true h1
    have : t = ⟨#[]⟩ := ByteArray.size_eq_zero_iff.1 (by omega)
    rw [this, show nameB ⟨#[]⟩ = false by unfold nameB; rw [empty_list]; rfl]
  · rw [show nameB t = false by unfold nameB; rw [decide_eq_false (by have := of_decide_eq_true h2; omega : ¬(t.size : Int) ≤ 16)]; simp]
  have h1 := of_decide_eq_false h1
  have h2 := of_decide_eq_false h2
  have h0 : (t.toList == (⟨#[]⟩ : ByteArray).toList) = false := by
    rw [empty_list]
    have : t.toList ≠ [] := fun e => by
      have : t.toList.length = 0 := by rw [e]; rfl
      rw [Lib.toList_data] at this
      have h3 : t.size = 0 := by simpa using this
      omega
    simpa using this
  refine ⟨⟨by omega, by omega⟩, ?_⟩
  refine Tri.ret (rletter_spec (bt t 0) I1 _) fun I2 hI2 => ⟨_, rfl, F, .refl _, fun h3 => ⟨?_, rfl⟩, fun h3 => ?_⟩
  · rw [show nameB t = false by unfold nameB; rw [show smallB (bt t 0) = false by simpa using h3]; simp]
  have h3 : smallB (bt t 0) = true := by simpa using h3
  rw [nameB_eq h0 h2 h3 h4]
  refine ⟨⟨_, by omega, by omega, rfl, rfl, rfl⟩, fun x i m I3 F3 hI3 ⟨g0, g1, gm, gr, gF⟩ => ⟨fun hl => ⟨⟨g0, of_decide_eq_true hl⟩, ?_⟩, fun hl => ?_⟩⟩
  · have hl := of_decide_eq_true hl
    subst gF
    refine Tri.ret (rgoes_spec (bt t i) I3 _) fun I4 hI4 => ⟨_, rfl, F3, .refl _, fun hc => ⟨?_, rfl⟩, fun hc => ?_⟩
    · have hc : innerB (bt t i) = false := by simpa using hc
      rw [runAt_step hl, if_neg (by rw [hc]; exact Bool.false_ne_true)] at gr
      rw [decide_eq_false (by omega)]
    · have hc : innerB (bt t i) = true := by simpa using hc
      rw [runAt_step hl, if_pos hc] at gr
      rw [w64 (by omega)]
      exact ⟨(t.size - (i + 1)).toNat, by omega, by omega, by omega, rfl, gr, rfl⟩
  · have hl := of_decide_eq_false hl
    refine ⟨?_, gF⟩
    rw [runAt_end (by omega)] at gr
    rw [decide_eq_true (by omega)]

theorem SameTexts_spec {a b : Option Addr} {n m c d : Nat} {l : List ByteArray} {I : Imm} {F : Heap} (ha : SlG I F 1 encS a n l) (hb : SlG I F 1 encS b m l) (hl : l.length ≤ 1000000000) :
    Tri P 22 #[.slice a n c, .slice b m d] I F (Ret (.bool true) F) := by
  have e1 := ha.1
  have e2 := hb.1
  refine ref00_SameTexts.vc (fun x i k I' F' => 0 ≤ i ∧ i ≤ n ∧ k = (n - i).toNat ∧ F' = F) ?_
  unfold ref00_SameTexts.V
  refine ⟨fun h => ?_, fun _ => ⟨⟨_, by omega, by omega, rfl, rfl⟩, fun x i k I1 F1 hI ⟨g0, g1, gk, gF⟩ => ?_⟩⟩
  · have : n = m := by omega
    subst this; simp at h
  subst gF
  refine ⟨fun hlt => ?_, fun _ => ⟨rfl, rfl⟩⟩
  have hlt := of_decide_eq_true hlt
  obtain ⟨ad, t, had, ht, hr⟩ := (ha.mono hI fun _ h => h).at (i := i) g0 hlt
  obtain ⟨ad', t', had', ht', hr'⟩ := (hb.mono hI fun _ h => h).at (i := i) g0 (by omega)
  obtain rfl : t = t' := by rw [ht] at ht'; exact Option.some.inj ht'
  refine ⟨⟨g0, hlt⟩, ad, had, t, hr, ⟨g0, by omega⟩, ad', had', t, hr', fun h => ?_, fun _ => ?_⟩
  · simp at h
  · rw [w64 (by omega)]
    exact ⟨_, by omega, by omega, by omega, rfl, rfl⟩

theorem WordsO_spec (I : Imm) (F : Heap) : Tri P 21 #[] I F fun e I' G => ∃ (b : Nat) (A : Heap), e = .returned (.slice (some ⟨b, 0, none⟩) 41 41) ∧ Acc 1 encS 9 (some ⟨b, 0, none⟩) 41 41 wordsL A ∧ G = A ++ F := by
  refine lex_WordsO.vc fun b => ⟨b, [_], rfl, ⟨rfl, .inr ⟨b, _, rfl, rfl, rfl, Nat.le_refl _, ?_⟩⟩, rfl⟩
  kernel_rfl
def txCk (t : ByteArray) : Ck 1 := ⟨encS t, rfl⟩
theorem txCk_flat : ∀ l : List ByteArray, (l.map txCk).flatMap cv = l.flatMap encS
  | [] => rfl
  | y :: l => by rw [List.map_cons, List.flatMap_cons, List.flatMap_cons, txCk_flat l]; rfl
theorem Acc.tx {a : Option Addr} {n c e : Nat} {l : List ByteArray} {A : Heap} (h : Acc 1 encS e a n c l A) : Acc 1 cv e a n c (l.map txCk) A := by
  obtain ⟨hn, ⟨h1, h2, h3, h4⟩ | ⟨b, cells, h1, h2, h3, h4, h5⟩⟩ := h
  · exact ⟨by rw [List.length_map]; exact hn, .inl ⟨h1, h2, by rw [h3]; rfl, h4⟩⟩
  · exact ⟨by rw [List.length_map]; exact hn, .inr ⟨b, cells, h1, h2, h3, h4, by rw [h5, txCk_flat]⟩⟩
theorem RowsH.snoc {z e : Nat} : ∀ {rs : List Row} {ls : List (List (Ck z))} {H : Heap} {r : Row} {l : List (Ck z)} {A : Heap}, RowsH z e rs ls H → Acc z cv e r.a r.n r.c l A → RowsH z e (rs ++ [r]) (ls ++ [l]) (H ++ A)
  | [], [], H, r, l, A, h, hA => by
    have : H = [] := h
    subst this
    exact ⟨A, [], by simp, hA, rfl⟩
  | r0 :: rs, l0 :: ls, H, r, l, A, ⟨B, H', hH, hB, hR⟩, hA => by
    subst hH
    exact ⟨B, H' ++ A, by rw [List.append_assoc], hB, RowsH.snoc hR hA⟩
  | [], _ :: _, _, _, _, _, h, _ => h.elim
  | _ :: _, [], _, _, _, _, h, _ => h.elim
theorem Bd.snoc {z : Nat} {ls : List (List (Ck z))} (h : Bd ls) {l : List (Ck z)} (hl : l.length ≤ 1000000000) : Bd (ls ++ [l]) := by
  intro j l' hj
  rw [List.getElem?_append] at hj
  split at hj
  · exact h j l' hj
  · have := List.mem_of_getElem? hj
    rw [List.mem_singleton] at this
    rw [this]; exact hl

theorem LexWords_spec (s : ByteArray) (I : Imm) (F : Heap) : Tri P 5 #[.string s] I F fun e I' G => e = .returned (.bool true) := by
  refine law11_LexWords.vc (fun r r1 r2 wa wn wc bk x i m I0 F0 I' F' => 0 ≤ i ∧ i ≤ 3 ∧ m = (3 - i).toNat ∧ ∃ b, bk = some ⟨b, 0, none⟩ ∧ ∃ r rs ls Al H, F'.Perm ((b, Obj.cells (bookCells (textRows r)) 67 (0, 0)) :: ((Al ++ H) ++ F)) ∧
    Acc 1 Row.enc 38 r.a r.n r.c rs Al ∧ RowsH 1 9 rs ls H ∧ Bd ls ∧ (rs.length : Int) = i) ?_
  unfold law11_LexWords.V
  refine Tri.ret (awake_spec I F) fun I1 hI1 => ⟨_, rfl, _, .refl _, fun h => by (cases h), fun _ => ⟨fun _ => rfl, fun _ => ?_⟩⟩
  refine Tri.ret (Word_spec s I1 _) fun I2 hI2 => ⟨_, rfl, _, .refl _, ?_⟩
  refine Tri.ret (Name_spec I2 _) fun I3 hI3 => ⟨_, rfl, _, .refl _, ?_⟩
  refine (rWords_spec I3 F).mono fun e I4 G hI4 ⟨bw, he, hW, hG⟩ => ?_
  obtain rfl := hG.symm
  refine ⟨_, _, _, he, _, .refl _, fun b => ⟨⟨_, by omega, by omega, rfl, b, rfl, ⟨none, 0, 0⟩, [], [], [], [], .refl _, Acc.nil, rfl, fun j l h => by simp at h, rfl⟩, ?_⟩⟩
  intro x i m I5 F5 hI5 ⟨i0, i1, im, b', hb', r, rs, ls, Al, H, hp, hA, hH, hbd, hrl⟩
  obtain rfl : b = b' := by simpa using hb'
  refine ⟨fun hlt => ?_, fun hlt => ?_⟩
  · have hlt := of_decide_eq_true hlt
    refine (WordsO_spec I5 F5).mono fun e I6 G hI6 ⟨b6, A, he, hAc, hG⟩ => ?_
    subst hG
    refine ⟨_, _, _, he, _, .refl _, ?_⟩
    refine Tri.ret (SameTexts_spec (l := wordsL) (Acc.slg (z := 1) (f := encS) (fun _ => rfl) hAc I6 fun x hx => List.mem_append_left _ hx) ((hW.mono (Imm.le_trans hI5 hI6)).slg _) (by decide)) fun I7 hI7 => ⟨_, rfl, _, .refl _, fun h => by (cases h), fun _ => ?_⟩
    have hperm : (A ++ F5).Perm ((b, Obj.cells (bookCells (textRows r)) 67 (0, 0)) :: (Al ++ (A ++ (H ++ F)))) := by
      refine (List.Perm.append_left A hp).trans (List.perm_middle.trans (List.Perm.cons _ ?_))
      rw [List.append_assoc]
      exact List.perm_append_comm_assoc A Al (H ++ F)
    refine Tri.perm ((BookTexts_spec (r0 := r) (r := ⟨some ⟨b6, 0, none⟩, 41, 41⟩) (R := A ++ (H ++ F)) hA (by omega) I7).mono fun e I8 G hI8 ⟨he, r', Al', hA', hG⟩ => ?_) hperm
    refine ⟨he, G, .refl _, m - 1, by omega, ?_⟩
    rw [w64 (by omega)]
    refine ⟨by omega, by omega, by omega, b, rfl, r', _, ls ++ [wordsL.map txCk], Al', H ++ A, ?_, hA', RowsH.snoc hH (Acc.tx hAc), hbd.snoc (by decide), ?_⟩
    · refine hG.trans (List.Perm.cons _ ?_)
      rw [List.append_assoc]
      refine List.Perm.append_left Al' ?_
      rw [List.append_assoc]
      exact List.perm_append_comm_assoc A H F
    · rw [List.length_append, List.length_singleton]; omega
  · refine Tri.perm ((BookOwn_texts (own_call ownTexts_spec hA hH hbd (by omega))).mono fun e I8 G hI8 ⟨he, hG⟩ => ?_) hp
    subst hG
    refine ⟨_, he, _, .refl _, fun _ => ?_, fun h => by (cases h)⟩
    refine Tri.ret (rWord_spec s I8 _) fun I9 hI9 => ⟨_, rfl, _, .refl _, fun _ => ?_, fun h => by simp at h⟩
    exact Tri.ret (rName_spec I9 _) fun I10 hI10 => ⟨_, rfl, _, .refl _, by simp⟩
end Go.Lx
