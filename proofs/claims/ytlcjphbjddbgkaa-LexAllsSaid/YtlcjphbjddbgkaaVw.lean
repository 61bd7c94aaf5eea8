import Derived.Test.YtlcjphbjddbgkaaVt
set_option linter.unusedVariables false
set_option linter.unusedSimpArgs false
namespace Go.Vc

/-! ### what reads, be it held still or ours -/
def SlG {α : Type} (I : Imm) (G : Heap) (z : Nat) (f : α → List Value) (a : Option Addr) (n : Nat) (l : List α) : Prop :=
  n = l.length ∧ (l ≠ [] → ∃ ad, a = some ad ∧ ∀ (i : Nat) (x : α), l[i]? = some x → Rd I G (ad.add (i * z)) (f x))
theorem Rd.sub {I J : Imm} {G H : Heap} {ad : Addr} {cs : List Value} (h : Rd I G ad cs) (hl : Imm.le I J) (hs : ∀ x, x ∈ G → x ∈ H) : Rd J H ad cs := by
  obtain ⟨h1, cells, e, fz, h2, h3⟩ := h
  exact ⟨h1, cells, e, fz, h2.imp (fun h => hl.at h) (hs _), h3⟩
theorem Sl.slg {α : Type} {I : Imm} {z : Nat} {f : α → List Value} {a : Option Addr} {n : Nat} {l : List α} (h : Sl I z f a n l) (G : Heap) : SlG I G z f a n l :=
  ⟨h.1, fun hne => let ⟨ad, ha, hr⟩ := h.2 hne; ⟨ad, ha, fun i x hx => hr i x hx G⟩⟩
theorem SlG.mono {α : Type} {I J : Imm} {G H : Heap} {z : Nat} {f : α → List Value} {a : Option Addr} {n : Nat} {l : List α} (h : SlG I G z f a n l) (hl : Imm.le I J) (hs : ∀ x, x ∈ G → x ∈ H) : SlG J H z f a n l :=
  ⟨h.1, fun hne => let ⟨ad, ha, hr⟩ := h.2 hne; ⟨ad, ha, fun i x hx => (hr i x hx).sub hl hs⟩⟩
theorem SlG.perm {α : Type} {I : Imm} {G H : Heap} {z : Nat} {f : α → List Value} {a : Option Addr} {n : Nat} {l : List α} (h : SlG I G z f a n l) (p : G.Perm H) : SlG I H z f a n l :=
  h.mono (Imm.le_refl I) fun x hx => p.mem_iff.1 hx
theorem SlG.at {α : Type} {I : Imm} {G : Heap} {z : Nat} {f : α → List Value} {a : Option Addr} {n : Nat} {l : List α} (h : SlG I G z f a n l) {i : Int} (h0 : 0 ≤ i) (h1 : i < n) :
    ∃ ad x, a = some ad ∧ l[i.toNat]? = some x ∧ Rd I G (ad.add (Int.toNat i * z)) (f x) := by
  have hlt : i.toNat < l.length := by have := h.1; omega
  obtain ⟨ad, ha, hr⟩ := h.2 (by intro e; rw [e] at hlt; simp at hlt)
  exact ⟨ad, l[i.toNat], ha, by simp [hlt], hr _ _ (by simp [hlt])⟩
theorem SlG.of_mem {α : Type} {I : Imm} {G : Heap} {z : Nat} {f : α → List Value} (hz : ∀ x, (f x).length = z) {b e : Nat} {fz : Nat × Nat} {l : List α} {cells : Array Value} (h : (b, Obj.cells cells e fz) ∈ G)
    (hc : ∀ k, k < (l.flatMap f).length → cells[k]? = (l.flatMap f)[k]?) : SlG I G z f (some ⟨b, 0, none⟩) l.length l := by
  refine ⟨rfl, fun hne => ⟨_, rfl, fun i x hx => ?_⟩⟩
  have hadd : (⟨b, 0, none⟩ : Addr).add (i * z) = ⟨b, i * z, none⟩ := by unfold Addr.add; split <;> simp_all
  rw [hadd]
  refine ⟨rfl, cells, e, fz, .inr h, fun j hj => ?_⟩
  rw [hz] at hj
  have h1 := flat_get f z hz l i x j hx hj
  have h2 : (l.flatMap f)[i * z + j]? ≠ none := by
    rw [h1]; rw [List.getElem?_eq_getElem (by rw [hz]; exact hj)]; simp
  have hlt : i * z + j < (l.flatMap f).length := by
    rcases Nat.lt_or_ge (i * z + j) (l.flatMap f).length with h | h
    · exact h
    · exact absurd (List.getElem?_eq_none h) h2
  show cells[i * z + j]? = _
  rw [hc _ hlt, h1]
theorem Acc.slg {α : Type} {z : Nat} {f : α → List Value} (hz : ∀ x, (f x).length = z) {e : Nat} {a : Option Addr} {n c : Nat} {l : List α} {A : Heap} (h : Acc z f e a n c l A) (I : Imm) {G : Heap} (hs : ∀ x, x ∈ A → x ∈ G) : SlG I G z f a n l := by
  obtain ⟨hn, ⟨ha, hc, hl, hA⟩ | ⟨b, cells, ha, hA, hcs, hnc, htk⟩⟩ := h
  · subst hl hn; exact ⟨rfl, fun h => absurd rfl h⟩
  · subst ha hA
    rw [hn]
    refine SlG.of_mem hz (hs _ (List.mem_cons_self ..)) fun k hk => ?_
    rw [← htk, List.getElem?_take, if_pos]
    · simp
    · rw [flat_len hz, ← hn] at hk; exact hk
theorem Rd.field {I : Imm} {G : Heap} {ad : Addr} {cs : List Value} (h : Rd I G ad cs) {o : Nat} {v : Value} (hv : cs[o]? = some v) : Rd I G (ad.add o) [v] := by
  obtain ⟨h1, cells, e, fz, h2, h3⟩ := h
  have hadd : ad.add o = ⟨ad.block, ad.off + o, none⟩ := by
    obtain ⟨b, off, sp⟩ := ad
    simp only at h1; subst h1
    unfold Addr.add; split <;> simp_all
  rw [hadd]
  refine ⟨rfl, cells, e, fz, h2, fun j hj => ?_⟩
  have : j = 0 := by simpa using hj
  subst this
  have hlt : o < cs.length := by
    rcases Nat.lt_or_ge o cs.length with h | h
    · exact h
    · rw [List.getElem?_eq_none h] at hv; cases hv
  show cells[ad.off + o + 0]? = _
  rw [Nat.add_zero, h3 o hlt, hv]; rfl

/-! ### rows of things of z cells each, whatever the cells hold -/
abbrev Ck (z : Nat) := { x : List Value // x.length = z }
def cv {z : Nat} (x : Ck z) : List Value := x.val
theorem cv_len {z : Nat} (x : Ck z) : (cv x).length = z := x.property
def setC {z : Nat} (o : Nat) (v : Value) (x : Ck z) : Ck z := ⟨x.val.set o v, by rw [List.length_set]; exact x.property⟩
theorem flat_set {z o : Nat} (ho : o < z) (v : Value) : ∀ (l : List (Ck z)) (k : Nat), k < l.length → (l.modify k (setC o v)).flatMap cv = (l.flatMap cv).set (k * z + o) v
  | [], k, h => by simp at h
  | x :: l, 0, _ => by
    rw [List.modify_zero_cons, List.flatMap_cons, List.flatMap_cons, Nat.zero_mul, Nat.zero_add, List.set_append_left _ _ (by rw [cv_len]; exact ho)]; rfl
  | x :: l, k + 1, h => by
    rw [List.modify_succ_cons, List.flatMap_cons, List.flatMap_cons, flat_set ho v l k (by simpa using h), List.set_append_right _ _ (by rw [cv_len, Nat.succ_mul]; omega), cv_len]
    congr 2
    rw [Nat.succ_mul]; omega
theorem splice_one {α : Type} (n : Nat) (v : α) (cs : List α) (h : n < cs.length) : splice n [v] cs = cs.set n v := by rw [splice_set n v [] cs h, splice_nil]
theorem add_add (b i j : Nat) : ((⟨b, 0, none⟩ : Addr).add i).add j = ⟨b, i + j, none⟩ := by
  unfold Addr.add; simp only; repeat' split
  all_goals simp_all
theorem add_add2 (b i j k : Nat) : (((⟨b, 0, none⟩ : Addr).add i).add j).add k = ⟨b, i + (j + k), none⟩ := by
  rw [add_add]
  unfold Addr.add; split <;> simp_all <;> omega
theorem Rd.field2 {I : Imm} {G : Heap} {ad : Addr} {cs : List Value} (h : Rd I G ad cs) {p q : Nat} {v : Value} (hv : cs[p + q]? = some v) : Rd I G ((ad.add p).add q) [v] := by
  have h1 := h.field hv
  have hsp := h.1
  have : (ad.add p).add q = ad.add (p + q) := by
    obtain ⟨b, off, sp⟩ := ad
    simp only at hsp; subst hsp
    unfold Addr.add; simp only; repeat' split
    all_goals simp_all <;> omega
  rw [this]; exact h1
theorem add_lit0 (b i : Nat) : (⟨b, 0, none⟩ : Addr).add i = ⟨b, i, none⟩ := by unfold Addr.add; split <;> simp_all
/-- one cell of a thing of ours is written -/
theorem Acc.put {z e n c k o : Nat} {a : Option Addr} {l : List (Ck z)} {A : Heap} (h : Acc z cv e a n c l A) (hk : k < n) (ho : o < z) (v : Value) :
    ∃ b cs, a = some ⟨b, 0, none⟩ ∧ A = [(b, Obj.cells cs.toArray e (0, 0))] ∧ k * z + o + 1 ≤ cs.length ∧
      Acc z cv e a n c (l.modify k (setC o v)) [(b, Obj.cells (splice (k * z + o) [v] cs).toArray e (0, 0))] := by
  obtain ⟨hn, ⟨ha, hc, hl, hA⟩ | ⟨b, cells, ha, hA, hcs, hnc, htk⟩⟩ := h
  · subst hl; rw [hn] at hk; simp at hk
  · have hlt : k * z + o + 1 ≤ n * z := by
      have : (k + 1) * z ≤ n * z := Nat.mul_le_mul_right z hk
      rw [Nat.succ_mul] at this; omega
    have hle : n * z ≤ cells.size := by rw [hcs]; exact Nat.mul_le_mul_right z hnc
    refine ⟨b, cells.toList, ha, by simpa using hA, by simp; omega, by rw [List.length_modify]; exact hn, .inr ⟨b, _, ha, rfl, ?_, hnc, ?_⟩⟩
    · rw [splice_one _ _ _ (by simp; omega)]; simpa using hcs
    · rw [splice_one _ _ _ (by simp; omega), flat_set ho v l k (by omega), ← htk]
      rw [List.take_set]

/-- a row of a list of rows -/
structure Row where
  a : Option Addr
  n : Nat
  c : Nat
def Row.enc (r : Row) : List Value := [.slice r.a r.n r.c]
/-- rows that are all ours, each of its own block -/
def RowsH (z e : Nat) : List Row → List (List (Ck z)) → Heap → Prop
  | [], [], H => H = []
  | r :: rs, l :: ls, H => ∃ A H', H = A ++ H' ∧ Acc z cv e r.a r.n r.c l A ∧ RowsH z e rs ls H'
  | _, _, _ => False
theorem RowsH.len {z e : Nat} : ∀ {rs : List Row} {ls : List (List (Ck z))} {H : Heap}, RowsH z e rs ls H → rs.length = ls.length
  | [], [], _, _ => rfl
  | r :: rs, l :: ls, H, ⟨_, _, _, _, h⟩ => by simp [h.len]
  | [], _ :: _, _, h => h.elim
  | _ :: _, [], _, h => h.elim
theorem RowsH.focus {z e : Nat} : ∀ {rs : List Row} {ls : List (List (Ck z))} {H : Heap} {i : Nat} {r : Row}, RowsH z e rs ls H → rs[i]? = some r →
    ∃ l A R, ls[i]? = some l ∧ Acc z cv e r.a r.n r.c l A ∧ H.Perm (A ++ R) ∧ ∀ l' A', Acc z cv e r.a r.n r.c l' A' → ∃ H', RowsH z e rs (ls.set i l') H' ∧ H'.Perm (A' ++ R)
  | [], _, _, i, r, h, hi => by simp at hi
  | r0 :: rs, l0 :: ls, H, 0, r, ⟨A, H', hH, hA, hR⟩, hi => by
    obtain rfl : r0 = r := by simpa using hi
    subst hH
    exact ⟨l0, A, H', rfl, hA, .refl _, fun l' A' h => ⟨A' ++ H', ⟨A', H', rfl, h, hR⟩, .refl _⟩⟩
  | r0 :: rs, l0 :: ls, H, i + 1, r, ⟨A, H', hH, hA, hR⟩, hi => by
    obtain ⟨l, B, R, h1, h2, h3, h4⟩ := hR.focus (i := i) (by simpa using hi)
    subst hH
    refine ⟨l, B, A ++ R, by simpa using h1, h2, ?_, fun l' A' h => ?_⟩
    · refine (List.Perm.append_left A h3).trans ?_
      rw [← List.append_assoc, ← List.append_assoc]
      exact List.Perm.append_right R List.perm_append_comm
    · obtain ⟨H'', g1, g2⟩ := h4 l' A' h
      refine ⟨A ++ H'', ⟨A, H'', rfl, hA, g1⟩, ?_⟩
      refine (List.Perm.append_left A g2).trans ?_
      rw [← List.append_assoc, ← List.append_assoc]
      exact List.Perm.append_right R List.perm_append_comm
  | _ :: _, [], _, _, _, h, _ => h.elim
theorem RowsH.drop {z e : Nat} : ∀ {rs : List Row} {ls : List (List (Ck z))} {H : Heap} {i : Nat} {r : Row}, RowsH z e (rs.drop i) (ls.drop i) H → rs[i]? = some r →
    ∃ l A H', ls[i]? = some l ∧ H = A ++ H' ∧ Acc z cv e r.a r.n r.c l A ∧ RowsH z e (rs.drop (i + 1)) (ls.drop (i + 1)) H' := by
  intro rs ls H i r h hi
  obtain ⟨hlt, rfl⟩ := List.getElem?_eq_some_iff.1 hi
  rw [List.drop_eq_getElem_cons hlt] at h
  cases hd : ls.drop i with
  | nil => rw [hd] at h; exact h.elim
  | cons l ls' =>
    rw [hd] at h
    obtain ⟨A, H', h1, h2, h3⟩ := h
    have hlen : i < ls.length := by
      rcases Nat.lt_or_ge i ls.length with h | h
      · exact h
      · rw [List.drop_eq_nil_of_le h] at hd; cases hd
    rw [List.drop_eq_getElem_cons hlen] at hd
    obtain ⟨e1, e2⟩ := List.cons.inj hd
    refine ⟨l, A, H', by rw [← e1]; simp [hlen], h1, h2, by rw [e2]; exact h3⟩

theorem TriE.pre {P : Program} {s : Sem Value} {I : Imm} {F : Heap} {Q : Value → Imm → Heap → Prop} (h : ∀ w, Sat I F w → ∃ J G, Imm.le I J ∧ Sat J G w ∧ TriE P s J G Q) : TriE P s I F Q := fun w hw =>
  let ⟨J, G, hl, hs, ht⟩ := h w hw
  let ⟨v, w', I', F', h1, h2, h3, h4⟩ := ht w hs
  ⟨v, w', I', F', h1, Imm.le_trans hl h2, h3, h4⟩
theorem Sl.prefix {α : Type} {I : Imm} {z : Nat} {f : α → List Value} {a : Option Addr} {n : Nat} {l t : List α} (h : Sl I z f a n (l ++ t)) : Sl I z f a l.length l := by
  refine ⟨rfl, fun hne => ?_⟩
  obtain ⟨ad, ha, hr⟩ := h.2 (by intro e; exact hne (List.append_eq_nil_iff.1 e).1)
  refine ⟨ad, ha, fun i x hx => hr i x ?_⟩
  rw [List.getElem?_append_left]
  · exact hx
  · exact (List.getElem?_eq_some_iff.1 hx).1
/-- each thing of the row bears its mark -/
def MkTo {z : Nat} (o : Nat) (mk : Int → Int → Value) (i m : Int) (l : List (Ck z)) : Prop := ∀ (q : Nat) (x : Ck z), l[q]? = some x → (q : Int) < m → x.val[o]? = some (mk i q)
def MkAll {z : Nat} (o : Nat) (mk : Int → Int → Value) (i : Int) (l : List (Ck z)) : Prop := ∀ (q : Nat) (x : Ck z), l[q]? = some x → x.val[o]? = some (mk i q)
theorem MkTo.step {z o : Nat} (ho : o < z) {mk : Int → Int → Value} {i k : Int} {l : List (Ck z)} (h : MkTo o mk i k l) (h0 : 0 ≤ k) : MkTo o mk i (k + 1) (l.modify k.toNat (setC o (mk i k))) := by
  intro q x hx hq
  rw [List.getElem?_modify] at hx
  by_cases hqk : k.toNat = q
  · cases hl : l[q]? with
    | none => rw [hl] at hx; cases hx
    | some y =>
      rw [hl] at hx
      obtain rfl : setC o (mk i k) y = x := by simpa [hqk] using hx
      have : k = (q : Int) := by omega
      rw [← this]
      show (y.val.set o (mk i k))[o]? = _
      rw [List.getElem?_set_self (by rw [y.property]; exact ho)]
  · exact h q x (by simpa [hqk] using hx) (by omega)
theorem MkAll.snoc {z o : Nat} {mk : Int → Int → Value} {i : Int} {l : List (Ck z)} (h : MkAll o mk i l) {y : Ck z} (hy : y.val[o]? = some (mk i l.length)) : MkAll o mk i (l ++ [y]) := by
  intro q x hx
  rw [List.getElem?_append] at hx
  split at hx
  · exact h q x hx
  · rename_i hq
    have hq1 : q - l.length = 0 := by
      rcases Nat.eq_zero_or_pos (q - l.length) with h | h
      · exact h
      · rw [List.getElem?_eq_none (by simp; omega)] at hx; cases hx
    rw [hq1] at hx
    obtain rfl : y = x := by simpa using hx
    have : q = l.length := by omega
    subst this; exact hy
/-- a row that is marked, and what grew out of it -/
def Done {z : Nat} (o m : Nat) (mk bh : Int → Int → Value) (I : Imm) (i : Int) (r x : Row) : Prop :=
  ∃ (l t : List (Ck z)), Sl I z cv r.a r.n l ∧ MkAll o mk i l ∧ Sl I z cv x.a x.n (l ++ t) ∧ t.length = m ∧ MkAll o bh i t
theorem Done.mono {z o m : Nat} {mk bh : Int → Int → Value} {I J : Imm} {i : Int} {r x : Row} (h : Done (z := z) o m mk bh I i r x) (hl : Imm.le I J) : Done (z := z) o m mk bh J i r x :=
  let ⟨l, t, h1, h2, h3, h4, h5⟩ := h; ⟨l, t, h1.mono hl, h2, h3.mono hl, h4, h5⟩
def OwnPost (F : Heap) (e : Ending) (I : Imm) (G : Heap) : Prop := e = .returned (.bool true) ∧ ∃ A, G.Perm (A ++ F)
theorem OwnPost.keep {P : Program} {f : FuncId} {args : Array Value} {I : Imm} {F0 F : Heap} (h : Tri P f args I F0 (OwnPost F)) : Tri P f args I F0 fun e I' G => e = .returned (.bool true) ∧ G = F :=
  h.keep fun e I' G w hl hs ⟨he, A, hp⟩ => ⟨I', F, Imm.le_refl _, (hs.perm hp).drop, he, rfl⟩
end Go.Vc
