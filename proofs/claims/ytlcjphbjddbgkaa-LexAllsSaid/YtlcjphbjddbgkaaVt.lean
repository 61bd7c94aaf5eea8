import Derived.Test.YtlcjphbjddbgkaaVs
import Derived.Laws.AppendOwn
set_option linter.unusedVariables false
set_option linter.unusedSimpArgs false
namespace Go.Vc

/-! ### slices that grow: the block is ours -/
/-- the slice (a, n, c) reads as l and its block is A, all of it ours -/
def Acc {α : Type} (z : Nat) (f : α → List Value) (e : Nat) (a : Option Addr) (n c : Nat) (l : List α) (A : Heap) : Prop :=
  n = l.length ∧ ((a = none ∧ c = 0 ∧ l = [] ∧ A = []) ∨
    ∃ b cells, a = some ⟨b, 0, none⟩ ∧ A = [(b, Obj.cells cells e (0, 0))] ∧ cells.size = c * z ∧ n ≤ c ∧ cells.toList.take (n * z) = l.flatMap f)
theorem Acc.nil {α : Type} {z : Nat} {f : α → List Value} {e : Nat} : Acc z f e none 0 0 ([] : List α) [] := ⟨rfl, .inl ⟨rfl, rfl, rfl, rfl⟩⟩

theorem setRow_set (w : World) (g : Nat) (old cs : Array Value) (t : TypeId) (fr : Nat × Nat) (hg : w.heap[g]? = some (.cells old t fr)) : (w.setRow g cs).heap = w.heap.setIfInBounds g (.cells cs t fr) := by
  apply Array.ext_getElem?
  intro j
  rw [Array.getElem?_setIfInBounds]
  by_cases h : g = j
  · subst h
    have hlt : g < w.heap.size := (Array.getElem?_eq_some_iff.1 hg).1
    rw [if_pos rfl, if_pos hlt]; exact setRow_heap w g old cs t fr hg
  · rw [if_neg h]; exact setRow_other w g j cs (Ne.symm h)
theorem drew_heap (w : World) : w.drew.heap = w.heap := rfl
theorem flat_len {α β : Type} {f : α → List β} {z : Nat} (hz : ∀ x, (f x).length = z) : ∀ l : List α, (l.flatMap f).length = l.length * z
  | [] => by simp
  | x :: l => by rw [List.flatMap_cons, List.length_append, hz, flat_len hz l, List.length_cons, Nat.succ_mul, Nat.add_comm]

theorem append_spec {P : Program} {α : Type} {z : Nat} {f : α → List Value} (hz : ∀ x, (f x).length = z) (t ty e : TypeId) (i : TypeInfo) (zv : Value) (ht : P.underlying t = some (.slice e)) (hi : P.info? e = some i) (hzv : i.zero = some zv) (hsz : i.size = z) (hzs : zv.cells.size = z) (hb : 1 ≤ i.bytes)
    {a : Option Addr} {n c : Nat} {l : List α} {A : Heap} (hA : Acc z f e a n c l A) {xs : List α} (h1 : ∀ x ∈ xs, ∀ u ∈ f x, u.oneCell' = true) (hx : xs ≠ []) {sa : Addr} {m sc : Nat} (hm : m = xs.length) {I : Imm} {F : Heap}
    (hr : Rd I (A ++ F) sa (xs.flatMap f)) (hfit : (l.length + xs.length) * i.bytes ≤ 140737488355328) :
    TriE P (Builtin.append_ #[t, t] ty #[.slice a n c, .slice (some sa) m sc]) I (A ++ F) fun v I' G => ∃ a' n' c' A', v = .slice a' n' c' ∧ Acc z f e a' n' c' (l ++ xs) A' ∧ G = A' ++ F ∧ (a' = a ∨ Sl I' z f a n l) := by
  intro w hw
  subst hsz
  have hlen : (xs.flatMap f).length = m * i.size := by rw [flat_len hz, hm]
  have hnews : ∀ j u, (xs.flatMap f)[j]? = some u → w.cell? (sa.add j) = some u := fun j u hj => by
    rw [hr.cell hw j (by
      rcases Nat.lt_or_ge j (xs.flatMap f).length with h | h
      · exact h
      · rw [List.getElem?_eq_none h] at hj; cases hj), hj]
  have h1' : ∀ u ∈ xs.flatMap f, u.oneCell' = true := fun u hu => by
    obtain ⟨x, hxm, hu⟩ := List.mem_flatMap.1 hu
    exact h1 x hxm u hu
  have hxp : 0 < xs.length := List.length_pos_iff.2 hx
  have hle : l.length + xs.length ≤ 140737488355328 := Nat.le_trans (Nat.le_mul_of_pos_right _ hb) hfit
  obtain ⟨hn, ⟨ha, hc, hl, hA⟩ | ⟨b, cells, ha, hA, hcs, hnc, htk⟩⟩ := hA
  · subst ha hc hl hA
    simp only [List.length_nil, Nat.zero_add, List.nil_append] at hfit hn hle ⊢
    subst hn
    have hrun := run_append_nil (P := P) w t ty e i zv ht hi hzv sa m sc _ hlen hnews (by omega) (by omega) (by rw [hm]; omega)
    have hge := grownCap_ge w m 0 e
    have hsat : Sat I F w.drew := hw.of_heap rfl ⟨rfl, rfl⟩
    refine ⟨_, _, I, _, hrun, Imm.le_refl I, hsat.alloc _, _, _, _, [_], rfl, ⟨hm, .inr ⟨_, _, rfl, rfl, ?_, hge, ?_⟩⟩, rfl, ?_⟩
    · simp only [Array.size_append, List.size_toArray, size_zeroCells, hzs, hlen, ← Nat.add_mul]
      congr 1; omega
    · rw [Array.toList_append, ← hlen]; exact List.take_left
    · exact .inr ⟨rfl, fun h => absurd rfl h⟩
  · subst ha hA
    have hflat : (l.flatMap f).length = n * i.size := by rw [flat_len hz, hn]
    have hg : w.heap[b]? = some (.cells cells e (0, 0)) := hw.own _ _ (List.mem_cons_self ..)
    by_cases hroom : n + m ≤ c
    · have hfit2 : n * i.size + (xs.flatMap f).length ≤ cells.size := by rw [hlen, hcs, ← Nat.add_mul]; exact Nat.mul_le_mul_right _ hroom
      have hrun := run_append_room (P := P) w t ty e i ht hi b n c cells hg sa m sc _ hlen hnews h1' hroom hfit2
      refine ⟨_, _, I, _, hrun, Imm.le_refl I, hw.set (setRow_set w b cells _ e (0, 0) hg) ⟨rfl, rfl⟩, _, _, _, [_], rfl, ⟨by rw [List.length_append]; omega, .inr ⟨_, _, rfl, rfl, ?_, hroom, ?_⟩⟩, rfl, .inl rfl⟩
      · simp only [List.size_toArray, List.length_append, List.length_take, List.length_drop, Array.length_toList]
        omega
      · rw [htk, List.flatMap_append, Nat.add_mul, ← hflat, ← hlen, ← List.length_append]
        exact List.take_left
    · have hcell : ∀ j u, (l.flatMap f)[j]? = some u → w.cell? ((⟨b, 0, none⟩ : Addr).add j) = some u := fun j u hj => by
        have hadd : (⟨b, 0, none⟩ : Addr).add j = ⟨b, j, none⟩ := by unfold Addr.add; split <;> simp_all
        rw [hadd, cell_of_row w b j cells e (0, 0) hg]
        rw [← htk, List.getElem?_take] at hj
        split at hj
        · simpa using hj
        · cases hj
      have hrun := run_append_grow (P := P) w t ty e i zv ht hi hzv ⟨b, 0, none⟩ n c _ hflat hcell sa m sc _ hlen hnews (by omega) (by omega) (growslice_fits (by omega) (by rw [hn, hm]; exact hfit))
      have hge := grownCap_ge w (n + m) c e
      obtain ⟨hle', hprom⟩ := (hw.of_heap rfl ⟨rfl, rfl⟩ : Sat I ((b, Obj.cells cells e (0, 0)) :: F) w.drew).promote
      refine ⟨_, _, _, _, hrun, hle', hprom.alloc _, _, _, _, [_], rfl, ⟨by rw [List.length_append]; omega, .inr ⟨_, _, rfl, rfl, ?_, hge, ?_⟩⟩, rfl, .inr ?_⟩
      · simp only [Array.size_append, List.size_toArray, size_zeroCells, hzs, hflat, hlen, ← Nat.add_mul]
        congr 1; omega
      · simp only [Array.toList_append]
        rw [List.flatMap_append, Nat.add_mul, ← hflat, ← hlen, ← List.length_append]
        exact List.take_left
      · rw [hn]
        refine Sl.of_block hz (Imm.put_same _ _ _) fun k hk => ?_
        rw [← htk, List.getElem?_take, if_pos]
        · simp
        · rw [flat_len hz, ← hn] at hk; exact hk

theorem append_spec' {P : Program} {α : Type} {z : Nat} {f : α → List Value} (hz : ∀ x, (f x).length = z) {t ty e : TypeId} {zv : Value} {by' : Nat} (ht : P.underlying t = some (.slice e)) (hi : (P.info? e).map (fun i => (i.zero, i.size, i.bytes)) = some (some zv, z, by')) (hzs : zv.cells.size = z) (hb : 1 ≤ by')
    {a : Option Addr} {n c : Nat} {l : List α} {A : Heap} (hA : Acc z f e a n c l A) {xs : List α} (h1 : ∀ x ∈ xs, ∀ u ∈ f x, u.oneCell' = true) (hx : xs ≠ []) {sa : Addr} {m sc : Nat} (hm : m = xs.length) {I : Imm} {F : Heap}
    (hr : Rd I (A ++ F) sa (xs.flatMap f)) (hfit : (l.length + xs.length) * by' ≤ 140737488355328) :
    TriE P (Builtin.append_ #[t, t] ty #[.slice a n c, .slice (some sa) m sc]) I (A ++ F) fun v I' G => ∃ a' n' c' A', v = .slice a' n' c' ∧ Acc z f e a' n' c' (l ++ xs) A' ∧ G = A' ++ F ∧ (a' = a ∨ Sl I' z f a n l) := by
  cases h : P.info? e with
  | none => rw [h] at hi; cases hi
  | some i =>
    rw [h] at hi
    simp only [Option.map_some, Option.some.injEq, Prod.mk.injEq] at hi
    exact append_spec hz t ty e i zv ht h hi.1 hi.2.1 hzs (by omega) hA h1 hx hm hr (by rw [hi.2.2]; exact hfit)
theorem TriE.perm {P : Program} {s : Sem Value} {I : Imm} {F G : Heap} {Q : Value → Imm → Heap → Prop} (h : TriE P s I F Q) (p : G.Perm F) : TriE P s I G Q := fun w hw => h w (hw.perm p)
theorem Tri.perm {P : Program} {f : FuncId} {args : Array Value} {I : Imm} {F G : Heap} {Q : Ending → Imm → Heap → Prop} (h : Tri P f args I F Q) (p : G.Perm F) : Tri P f args I G Q := fun w hw => h w (hw.perm p)
/-- behind the call what it hands back is held still -/
theorem Tri.keep {P : Program} {f : FuncId} {args : Array Value} {I : Imm} {F : Heap} {Q Q' : Ending → Imm → Heap → Prop} (h : Tri P f args I F Q)
    (k : ∀ e I' G w, Imm.le I I' → Sat I' G w → Q e I' G → ∃ J G', Imm.le I' J ∧ Sat J G' w ∧ Q' e J G') : Tri P f args I F Q' :=
  fun w hw => (h w hw).mono fun e w' ⟨I', G, hl, hs, hq⟩ => let ⟨J, G', hl', hs', hq'⟩ := k e I' G w' hl hs hq; ⟨J, G', Imm.le_trans hl hl', hs', hq'⟩
/-- what grew is held still -/
theorem Acc.keep {α : Type} {z : Nat} {f : α → List Value} (hz : ∀ x, (f x).length = z) {e : Nat} {a : Option Addr} {n c : Nat} {l : List α} {A F : Heap} (h : Acc z f e a n c l A) {I : Imm} {w : World} (hw : Sat I (A ++ F) w) :
    ∃ J, Imm.le I J ∧ Sat J F w ∧ Sl J z f a n l := by
  obtain ⟨hn, ⟨ha, hc, hl, hA⟩ | ⟨b, cells, ha, hA, hcs, hnc, htk⟩⟩ := h
  · subst ha hc hl hA hn
    exact ⟨I, Imm.le_refl I, hw, rfl, fun h => absurd rfl h⟩
  · subst ha hA
    obtain ⟨h1, h2⟩ := hw.promote
    refine ⟨_, h1, h2, ?_⟩
    rw [hn]
    refine Sl.of_block hz (Imm.put_same _ _ _) fun k hk => ?_
    rw [← htk, List.getElem?_take, if_pos]
    · simp
    · rw [flat_len hz, ← hn] at hk; exact hk
end Go.Vc
