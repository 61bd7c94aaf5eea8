import Derived.Test.YtlcjphbjddbgkaaVi
set_option linter.unusedVariables false
set_option linter.unusedSimpArgs false
namespace Go.Vc

/-! ### slices that are read: their elements' cells lie in blocks that are held still -/
theorem flat_get {α β : Type} (f : α → List β) (z : Nat) (hz : ∀ x, (f x).length = z) : ∀ (l : List α) (i : Nat) (x : α) (j : Nat), l[i]? = some x → j < z → (l.flatMap f)[i * z + j]? = (f x)[j]?
  | [], i, x, j, h, _ => by simp at h
  | y :: l, 0, x, j, h, hj => by
    simp at h; subst h
    rw [List.flatMap_cons, List.getElem?_append_left (by rw [hz]; omega)]; simp
  | y :: l, i + 1, x, j, h, hj => by
    rw [List.flatMap_cons, List.getElem?_append_right (by rw [hz, Nat.succ_mul]; omega), hz, show (i + 1) * z + j - z = i * z + j by rw [Nat.succ_mul]; omega]
    exact flat_get f z hz l i x j (by simpa using h) hj

/-- the slice (a, n) reads as l; z cells an element -/
def Sl {α : Type} (I : Imm) (z : Nat) (f : α → List Value) (a : Option Addr) (n : Nat) (l : List α) : Prop :=
  n = l.length ∧ (l ≠ [] → ∃ ad, a = some ad ∧ ∀ (i : Nat) (x : α), l[i]? = some x → ∀ G, Rd I G (ad.add (i * z)) (f x))
theorem Rd.le {I J : Imm} {G : Heap} {ad : Addr} {cs : List Value} (h : Rd I G ad cs) (hl : ∀ b o, (I b = some o ∨ (b, o) ∈ G) → J b = some o ∨ (b, o) ∈ G) : Rd J G ad cs := by
  obtain ⟨h1, cells, e, fz, h2, h3⟩ := h
  exact ⟨h1, cells, e, fz, hl _ _ h2, h3⟩
theorem Rd.mono {I J : Imm} {G : Heap} {ad : Addr} {cs : List Value} (h : Rd I G ad cs) (hl : Imm.le I J) : Rd J G ad cs :=
  h.le fun b o hb => hb.imp (fun h => hl.at h) id
theorem Sl.mono {α : Type} {I J : Imm} {z : Nat} {f : α → List Value} {a : Option Addr} {n : Nat} {l : List α} (h : Sl I z f a n l) (hl : Imm.le I J) : Sl J z f a n l :=
  ⟨h.1, fun hne => let ⟨ad, ha, hr⟩ := h.2 hne; ⟨ad, ha, fun i x hx G => (hr i x hx G).mono hl⟩⟩
theorem Sl.of_block {α : Type} {I : Imm} {z : Nat} {f : α → List Value} (hz : ∀ x, (f x).length = z) {b e : Nat} {fz : Nat × Nat} {l : List α} {cells : Array Value} (h : I b = some (.cells cells e fz))
    (hc : ∀ k, k < (l.flatMap f).length → cells[k]? = (l.flatMap f)[k]?) : Sl I z f (some ⟨b, 0, none⟩) l.length l := by
  refine ⟨rfl, fun hne => ⟨_, rfl, fun i x hx G => ?_⟩⟩
  have hadd : (⟨b, 0, none⟩ : Addr).add (i * z) = ⟨b, i * z, none⟩ := by unfold Addr.add; split <;> simp_all
  rw [hadd]
  refine ⟨rfl, cells, e, fz, .inl h, fun j hj => ?_⟩
  rw [hz] at hj
  have h1 := flat_get f z hz l i x j hx hj
  have h2 : (l.flatMap f)[i * z + j]? ≠ none := by
    rw [h1]; rw [List.getElem?_eq_getElem (by rw [hz]; exact hj)]; simp
  have hlt : i * z + j < (l.flatMap f).length := by
    rcases Nat.lt_or_ge (i * z + j) (l.flatMap f).length with h | h
    · exact h
    · exact absurd (List.getElem?_eq_none h) h2
  show cells[i * z + j]? = _
  rw [hc _ hlt, h1]
theorem Sl.of_cells {α : Type} {I : Imm} {z : Nat} {f : α → List Value} (hz : ∀ x, (f x).length = z) {b e : Nat} {fz : Nat × Nat} {l : List α} {cells : Array Value} (h : I b = some (.cells cells e fz))
    (hc : cells.toList = l.flatMap f) : Sl I z f (some ⟨b, 0, none⟩) l.length l :=
  Sl.of_block hz h fun k _ => by rw [← hc]; simp
theorem Sl.at {α : Type} {I : Imm} {z : Nat} {f : α → List Value} {a : Option Addr} {n : Nat} {l : List α} (h : Sl I z f a n l) {i : Int} (h0 : 0 ≤ i) (h1 : i < n) :
    ∃ ad x, a = some ad ∧ l[i.toNat]? = some x ∧ ∀ G, Rd I G (ad.add (Int.toNat i * z)) (f x) := by
  have hlt : i.toNat < l.length := by have := h.1; omega
  obtain ⟨ad, ha, hr⟩ := h.2 (by intro e; rw [e] at hlt; simp at hlt)
  exact ⟨ad, l[i.toNat], ha, by simp [hlt], fun G => hr _ _ (by simp [hlt]) G⟩
theorem Sl.len {α : Type} {I : Imm} {z : Nat} {f : α → List Value} {a : Option Addr} {n : Nat} {l : List α} (h : Sl I z f a n l) : n = l.length := h.1
end Go.Vc
