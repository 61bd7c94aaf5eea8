import Derived.Test.YtlcjphbjddbgkaaLv
set_option linter.unusedVariables false
set_option linter.unusedSimpArgs false
namespace Go.Lx
open Go.Vc

/-! ### texts with other gaps -/
def contB : List Int → Bool → Option Bool
  | [], r => some r
  | c :: cs, r => if !(remB c r) && !blank c then none else contB cs (remB c r)
theorem cont_over {z : ByteArray} : ∀ (cs : List Int) (r r' : Bool) (i : Int), contB cs r = some r' → 0 ≤ i → i + cs.length ≤ z.size → (∀ j : Nat, j < cs.length → cs[j]? = some (bt z (i + j))) → overR z r i = overR z r' (i + cs.length)
  | [], r, r', i, h, h0, hl, hb => by
    simp only [contB, Option.some.injEq] at h
    subst h; simp
  | c :: cs, r, r', i, h, h0, hl, hb => by
    have hc : c = bt z i := by have := hb 0 (by simp); simpa using this
    simp only [List.length_cons] at hl ⊢
    rw [overR_step (by omega), ← hc]
    unfold contB at h
    split at h
    · cases h
    · rename_i hn
      rw [if_neg hn, cont_over cs _ r' (i + 1) h (by omega) (by omega) fun j hj => ?_]
      · congr 1; omega
      · have := hb (j + 1) (by simpa using hj)
        rw [List.getElem?_cons_succ] at this
        rw [this]; congr 2; omega
def gapsL : List ByteArray := [⟨#[32]⟩, ⟨#[10]⟩, ⟨#[9, 13]⟩, ⟨#[32, 32]⟩, ⟨#[35, 32, 120, 32, 35, 10]⟩, ⟨#[35, 10, 10]⟩]
theorem gap_facts {g : ByteArray} (h : g ∈ gapsL) : 0 < g.size ∧ g.size ≤ 6 ∧ sepB (bt g 0) = true ∧ contB (bytesOf g) false = some false := by
  simp only [gapsL, List.mem_cons, List.not_mem_nil, or_false] at h
  rcases h with h | h | h | h | h | h <;> (subst h; exact ⟨by decide, by decide, by kernel_rfl, by kernel_rfl⟩)
/-- texts, each with a gap behind it -/
inductive Spaced : List Tok → ByteArray → Prop
  | nil : Spaced [] ⟨#[]⟩
  | cons {t : Tok} {l : List Tok} {g rest : ByteArray} : g ∈ gapsL → Spaced l rest → Spaced (t :: l) (t.text ++ (g ++ rest))
theorem app_nil (x : ByteArray) : x ++ ⟨#[]⟩ = x := by
  refine ba_ext ?_ fun k hk => ?_
  · rw [ByteArray.size_append]; rfl
  · rw [ByteArray.size_append] at hk
    exact bt_app_left (by omega) (by have : (⟨#[]⟩ : ByteArray).size = 0 := rfl; omega)
theorem nil_app (x : ByteArray) : (⟨#[]⟩ : ByteArray) ++ x = x := by
  refine ba_ext ?_ fun k hk => ?_
  · rw [ByteArray.size_append]; exact Nat.zero_add _
  · rw [ByteArray.size_append] at hk
    have h0 : (⟨#[]⟩ : ByteArray).size = 0 := rfl
    have := bt_app_right (x := ⟨#[]⟩) (y := x) (k := k) (by omega) (by omega)
    rwa [show (((⟨#[]⟩ : ByteArray).size : Nat) : Int) + (k : Int) = k by rw [h0]; omega] at this
theorem app_assoc (x y z : ByteArray) : x ++ y ++ z = x ++ (y ++ z) := ByteArray.append_assoc
theorem Spaced.snoc {l : List Tok} {out : ByteArray} (h : Spaced l out) (t : Tok) {g : ByteArray} (hg : g ∈ gapsL) : Spaced (l ++ [t]) (out ++ t.text ++ g) := by
  induction h with
  | nil =>
    have := Spaced.cons (t := t) hg Spaced.nil
    rw [app_nil] at this
    rw [nil_app]; exact this
  | @cons t0 l0 g0 rest0 hg' _ ih =>
    have := Spaced.cons (t := t0) hg' ih
    rw [List.cons_append]
    simp only [app_assoc] at this ⊢
    exact this
def likeB (t u : Tok) : Prop := t.kind = u.kind ∧ t.text = u.text ∧ t.typ = u.typ ∧ t.n = u.n
inductive Like : List Tok → List Tok → Prop
  | nil : Like [] []
  | cons {t u : Tok} {l m : List Tok} : likeB t u → Like l m → Like (t :: l) (u :: m)
theorem Like.shift {l m : List Tok} (h : Like l m) (d : Int) : Like (l.map (Tok.shift d)) m := by
  induction h with
  | nil => exact .nil
  | cons h _ ih => exact .cons h ih
theorem Like.len {l m : List Tok} (h : Like l m) : l.length = m.length := by
  induction h with
  | nil => rfl
  | cons _ _ ih => simp [ih]
theorem Like.get {l m : List Tok} (h : Like l m) : ∀ {i : Nat} {t u : Tok}, l[i]? = some t → m[i]? = some u → likeB t u := by
  induction h with
  | nil => intro i t u h; simp at h
  | cons h _ ih =>
    intro i t u h1 h2
    cases i with
    | zero => simp at h1 h2; subst h1 h2; exact h
    | succ i => exact ih (by simpa using h1) (by simpa using h2)
theorem app_behind (x y : ByteArray) : Behind y (x ++ y) x.size := by
  refine ⟨by omega, by rw [ByteArray.size_append]; omega, fun k g0 g1 => ?_⟩
  rw [show k + (x.size : Int) = x.size + k by omega]
  exact bt_app_right g0 g1
/-- a gap is gone over -/
theorem gap_over {x g rest : ByteArray} (hg : g ∈ gapsL) : overAt (x ++ (g ++ rest)) x.size = overAt (x ++ (g ++ rest)) (x.size + g.size) := by
  obtain ⟨h1, h2, h3, h4⟩ := gap_facts hg
  have hl : (bytesOf g).length = g.size := by unfold bytesOf; simp
  have hs : ((x ++ (g ++ rest)).size : Int) = x.size + (g.size + rest.size) := by rw [ByteArray.size_append, ByteArray.size_append]; omega
  have := cont_over (z := x ++ (g ++ rest)) (bytesOf g) false false x.size h4 (by omega) (by rw [hl]; omega) fun j hj => by
    rw [hl] at hj
    rw [bytesOf_get hj]
    congr 1
    rw [bt_app_right (x := x) (y := g ++ rest) (k := j) (by omega) (by rw [ByteArray.size_append]; omega), bt_app_left (by omega) (by omega)]
  rw [hl] at this
  exact this
theorem spaced_toks {s : ByteArray} : ∀ (l : List Tok) (f : Int), 0 ≤ f → f ≤ s.size → toks s f = (l, none) → ∀ out, Spaced l out → ∃ m, toks out 0 = (m, none) ∧ Like m l
  | [], f, h0, h1, ht, out, hsp => by
    obtain ⟨t, r, hl, _⟩ := toks_ne h0 h1 ht
    cases hl
  | t :: l, f, h0, h1, ht, out, hsp => by
    obtain ⟨t', r, hl, htok, hor⟩ := toks_ne h0 h1 ht
    obtain ⟨rfl, rfl⟩ := List.cons.inj hl
    cases hsp with
    | @cons _ _ g rest hg hrest =>
      obtain ⟨g1, g2, g3, g4⟩ := gap_facts hg
      have hs : ((t.text ++ (g ++ rest)).size : Int) = t.text.size + (g.size + rest.size) := by rw [ByteArray.size_append, ByteArray.size_append]; omega
      have hgo := gap_over (x := t.text) (rest := rest) hg
      have hat := tok_shape h0 h1 htok
      rcases hor with ⟨hk, hr⟩ | ⟨hk, hr⟩
      · subst hr
        have htz : t = zTok s.size := by
          rcases hat.2.2.2 with ⟨_, _, h⟩ | ⟨h, _⟩
          · exact h
          · omega
        have htx : t.text = ⟨#[]⟩ := by rw [htz]; rfl
        have hsz : (t.text.size : Int) = 0 := by rw [htx]; rfl
        cases hrest
        have hrs : ((⟨#[]⟩ : ByteArray).size : Int) = 0 := rfl
        rw [hsz, Int.zero_add] at hgo
        have hend : overAt (t.text ++ (g ++ (⟨#[]⟩ : ByteArray))) 0 = (t.text ++ (g ++ (⟨#[]⟩ : ByteArray))).size := by
          rw [hgo]; unfold overAt; rw [overR_end (by omega)]; omega
        exact ⟨_, toks_end (Int.le_refl 0) (by omega) hend, .cons (by rw [htz]; exact ⟨rfl, rfl, rfl, rfl⟩) .nil⟩
      · obtain ⟨hlt, hrd⟩ := tok_read h0 h1 htok hk
        have ho := overAt_le h1
        have hst := overAt_stops h1 hlt
        obtain ⟨hpos, hle, htx, hsz⟩ := hat
        have hsz : 0 < t.text.size := by
          rcases hsz with ⟨h, _⟩ | ⟨_, _, h⟩
          · exact absurd h hk
          · exact h
        have hag : ∀ k, 0 ≤ k → k < (t.text.size : Int) → bt (t.text ++ (g ++ rest)) (0 + k) = bt s (overAt s f + k) := fun k q0 q1 => by
          rw [Int.zero_add, bt_app_left q0 q1]
          conv => lhs; rw [htx]
          rw [cut_bt (by omega) q0 (by omega) hle, hpos]
        have h00 : bt (t.text ++ (g ++ rest)) 0 = bt s (overAt s f) := by have := hag 0 (Int.le_refl 0) (by omega); rwa [Int.add_zero, Int.add_zero] at this
        have hr' := read_move (s' := t.text ++ (g ++ rest)) (i' := 0) (by omega) hlt (Int.le_refl 0) hrd (by omega) hag (fun h => by
          have e1 := bt_app_right (x := t.text) (y := g ++ rest) (k := 0) (Int.le_refl 0) (by rw [ByteArray.size_append]; omega)
          rw [Int.add_zero, bt_app_left (Int.le_refl 0) (by omega)] at e1
          rw [Int.zero_add, e1]; exact g3)
        have htok' : tokR (t.text ++ (g ++ rest)) 0 = .ok ⟨t.kind, t.text, t.typ, t.n, 0⟩ := tokR_at (Int.le_refl 0) (by omega) (by rw [h00]; exact hst.1) (by rw [h00]; exact hst.2) hr'
        have hnx := tok_next h0 h1 htok
        obtain ⟨m, hm, hlike⟩ := spaced_toks l _ (by omega) hnx.1 hr rest hrest
        have hbh : Behind rest (t.text ++ (g ++ rest)) (t.text.size + g.size) := by
          have := app_behind (t.text ++ g) rest
          rw [app_assoc, ByteArray.size_append] at this
          have hc : ((t.text.size + g.size : Nat) : Int) = t.text.size + g.size := by omega
          rwa [hc] at this
        have hb := hbh.toks _ 0 (Int.le_refl 0) (by omega) rfl
        rw [Int.zero_add, hm] at hb
        have hto := toks_over (s := t.text ++ (g ++ rest)) (f := t.text.size) (g := t.text.size + g.size) (by omega) (by omega) (by omega) (by omega) hgo
        refine ⟨⟨t.kind, t.text, t.typ, t.n, 0⟩ :: m.map (Tok.shift (t.text.size + g.size)), ?_, .cons ⟨rfl, rfl, rfl, rfl⟩ (hlike.shift _)⟩
        rw [toks_step (Int.le_refl 0) (by omega), htok']
        simp only [hk, if_false]
        rw [Int.zero_add, hto, hb]
        rfl
end Go.Lx
