import Derived.Test.YtlcjphbjddbgkaaVv
import Derived.Test.YtlcjphbjddbgkaaVs
import Derived.ChangeSlices
import Derived.ReadAgain
import Derived.ChangeStays
set_option linter.unusedVariables false
set_option linter.unusedSimpArgs false
namespace Go.Vc
open Go.ChangeShapes Go.WideShapes Go.ChangeAt Go.RowKit

theorem Stays.cell {w w' : World} (h : Stays w w') {a : Addr} (ha : a.block < w.heap.size) : w'.cell? a = w.cell? a := by
  unfold World.cell?; rw [h.heap _ ha]
theorem Stays.same {w w' : World} (h : Stays w w') {p : MemPlace} (hp : p.block < w.heap.size) : w.sameAt w' p := by
  cases p with
  | cell b off => exact h.cell (a := ⟨b, off, none⟩) hp
  | map b => exact h.heap b hp
/-- what all arguments read as, they read as in a later world in which all stayed -/
theorem trodAll_stays {H : Type} {enc : TypeId × Value → H} {P : Program} {T : TypeId → Prop} {w w' : World} (K : Kids P T) (hsz : ∀ {t e : TypeId}, T t → P.underlying t = some (.slice e) → 0 < P.cellsOf e) (st : Stays w w') {sp' : Nat → Bool} :
    ∀ {ts : List TypeId} {vs : List Value} {ds : List (DataW H)} {ps : List MemPlace}, (∀ t ∈ ts, T t) → DataW.TrodAll enc P w 0 (fun _ => true) true ts vs ds ps → (∀ p ∈ ps, sp' p.block = true) → DataW.TrodAll enc P w' 0 sp' true ts vs ds ps
  | [], [], [], ps, _, h, _ => h
  | t :: ts, v :: vs, d :: ds, ps, ht, ⟨p, q, ⟨n, h1⟩, h2, e⟩, hs => by
    subst e
    have hlt : ∀ x ∈ p, x.block < w.heap.size := DataW.trod_lt n t v.cells.toList (d, p) h1
    refine ⟨p, q, ⟨n, ?_⟩, trodAll_stays K hsz st (fun t' ht' => ht t' (List.mem_cons_of_mem _ ht')) h2 (fun x hx => hs x (List.mem_append_right _ hx)), rfl⟩
    exact DataW.trod_stays K hsz (fun h => by cases h) (ht t (List.mem_cons_self ..)) h1 (fun x hx => st.same (hlt x hx)) (fun x hx => hs x (List.mem_append_left _ hx))
  | [], _ :: _, _, _, _, h, _ => h.elim
  | [], [], _ :: _, _, _, h, _ => h.elim
  | _ :: _, [], _, _, _, h, _ => h.elim
  | _ :: _, _ :: _, [], _, _, h, _ => h.elim
theorem Rd.of_cell {W : World} {ad : Addr} {v : Value} (h : W.cell? ad = some v) (G : Heap) : Rd (Imm.all W) G ad [v] := by
  unfold World.cell? at h
  cases hb : W.heap[ad.block]? with
  | none => rw [hb] at h; cases h
  | some o =>
    rw [hb] at h
    cases o with
    | cells c e fz =>
      simp only at h
      cases hs : ad.spot with
      | some x => rw [hs] at h; simp at h
      | none =>
        rw [hs] at h
        refine ⟨hs, c, e, fz, .inl hb, fun j hj => ?_⟩
        have : j = 0 := by simpa using hj
        subst this
        simpa using h
    | _ => cases h
/-- an argument that is a slice of whole numbers -/
theorem open_nums {H : Type} {enc : TypeId × Value → H} {P : Program} {W : World} {base b0 : Nat} {sp : Nat → Bool} {held : Bool} {t e : TypeId} {k : IntKind} {v : Value} {d : DataW H} {ps : List MemPlace} {r : Reach}
    (ht : P.underlying t = some (.slice e)) (he : P.underlying e = some (.int k)) (hc : P.cellsOf e = 1) (hval : Value.okWide P W r b0 t v) (h : DataW.Trod enc P W base sp held t v d ps) :
    ∃ a n c zs, v = .slice a n c ∧ Sl (Imm.all W) 1 (fun x => [Value.int k x]) a n zs ∧ ∀ x ∈ zs, (Lit.int k x).wf = true := by
  obtain ⟨a, n, c, rfl⟩ := okWide_slice ht hval
  obtain ⟨fuel, hf⟩ := h
  rcases Go.ChangeShapes.open_ints ht he hc hf with ⟨h1, _⟩ | ⟨ad, len, cap, zs, h1, _, hl, _, hzs, _, hcell, hwf⟩
  · have h1 : [Value.slice a n c] = [.slice none 0 0] := h1
    cases h1
    exact ⟨none, 0, 0, [], rfl, ⟨rfl, fun h => absurd rfl h⟩, fun x hx => by simp at hx⟩
  · have h1 : [Value.slice a n c] = [.slice (some ad) len cap] := h1
    cases h1
    have hlen : n ≤ zs.length := by rw [hzs]; split <;> omega
    refine ⟨_, _, _, zs.take n, rfl, ⟨by rw [List.length_take]; omega, fun _ => ⟨ad, rfl, fun i x hx G => ?_⟩⟩, fun x hx => hwf x (List.mem_of_mem_take hx)⟩
    have hi : i < zs.length := by
      have := (List.getElem?_eq_some_iff.1 hx).1
      rw [List.length_take] at this; omega
    have hc := hcell i hi
    have hx' : zs.getD i 0 = x := by
      rw [List.getElem?_take] at hx
      split at hx
      · rw [List.getD_eq_getElem?_getD, hx]; rfl
      · cases hx
    rw [hx'] at hc
    rw [Nat.mul_one]
    exact Rd.of_cell hc G
end Go.Vc
