import Derived.Test.YtlcjphbjddbgkaaVg
import Derived.Scope
set_option linter.unusedSimpArgs false
set_option linter.unusedVariables false
namespace Go.Vc

theorem fitsAll_length : ∀ {l : List Lf} {vs : List Value}, fitsAll l vs = true → vs.length = l.length
  | [], [], _ => rfl
  | l :: r, v :: vs, h => by simp only [fitsAll, Bool.and_eq_true] at h; simp [fitsAll_length h.2]
  | [], _ :: _, h => by simp [fitsAll] at h
  | _ :: _, [], h => by simp [fitsAll] at h
theorem fitsAll_append : ∀ {l m : List Lf} {vs us : List Value}, fitsAll l vs = true → fitsAll m us = true → fitsAll (l ++ m) (vs ++ us) = true
  | [], _, [], _, _, h => h
  | l :: r, _, v :: vs, _, h, k => by
    simp only [fitsAll, Bool.and_eq_true, List.cons_append] at h ⊢
    exact ⟨h.1, fitsAll_append h.2 k⟩
  | [], _, _ :: _, _, h, _ => by simp [fitsAll] at h
  | _ :: _, _, [], _, h, _ => by simp [fitsAll] at h
theorem tmVals_length (σ : S) : ∀ tms : List (Nat × Lf), (tmVals σ tms).length = tms.length
  | [] => rfl
  | (t, l) :: r => by simp [tmVals, tmVals_length σ r]
theorem tmVals_get {σ : S} : ∀ {tms : List (Nat × Lf)} {k t : Nat} {v : Value}, tmOk σ tms = true → (tms.map Prod.fst)[k]? = some t → (tmVals σ tms)[k]? = some v →
    ∃ av, σ.tm[t]? = some (some av) ∧ av.g = v
  | [], k, t, v, _, h, _ => by simp at h
  | (s, l) :: r, 0, t, v, hok, h, hv => by
    simp only [List.map_cons, List.getElem?_cons_zero, Option.some.injEq] at h
    subst h
    simp only [tmOk, Bool.and_eq_true] at hok
    simp only [tmVals, List.getElem?_cons_zero, Option.some.injEq] at hv
    obtain ⟨h1, _⟩ := hok
    split at h1
    · rename_i av ha; rw [ha] at hv; exact ⟨av, ha, hv⟩
    · cases h1
  | (s, l) :: r, k + 1, t, v, hok, h, hv => by
    simp only [tmOk, Bool.and_eq_true] at hok
    simp only [tmVals, List.getElem?_cons_succ] at hv
    exact tmVals_get hok.2 (by simpa using h) hv
theorem tmOk_fits {σ : S} : ∀ {tms : List (Nat × Lf)}, tmOk σ tms = true → fitsAll (tms.map Prod.snd) (tmVals σ tms) = true
  | [], _ => rfl
  | (s, l) :: r, h => by
    simp only [tmOk, Bool.and_eq_true] at h
    simp only [List.map_cons, tmVals, fitsAll, Bool.and_eq_true]
    refine ⟨?_, tmOk_fits h.2⟩
    obtain ⟨h1, _⟩ := h
    split at h1
    · exact h1
    · cases h1
theorem bkOk_fits {own : List Blk} : ∀ {bks : List (Nat × List Lf)}, bkOk own bks = true → fitsAll (bks.flatMap Prod.snd) (bkVals own bks) = true
  | [], _ => rfl
  | (s, l) :: r, h => by
    simp only [bkOk, Bool.and_eq_true] at h
    simp only [List.flatMap_cons, bkVals]
    refine fitsAll_append ?_ (bkOk_fits h.2)
    obtain ⟨h1, _⟩ := h
    split at h1
    · simp only [Bool.and_eq_true] at h1; exact h1.2
    · cases h1
theorem okv_fits {σ : S} {c : Cut} (h : σ.okv c = true) : fitsAll c.lfs (σ.vals c) = true := by
  simp only [S.okv, Bool.and_eq_true] at h
  exact fitsAll_append (tmOk_fits h.1) (bkOk_fits h.2)
/-- the segment of a block that is listed is what the block holds -/
theorem seg_vals {own : List Blk} : ∀ {bks : List (Nat × List Lf)} {i : Nat} {b : Blk} {cs : List Value}, bkOk own bks = true → own[i]? = some b →
    seg bks (bkVals own bks) i = some cs → cs = b.cells.map AV.g
  | [], i, b, cs, _, _, h => by simp [seg] at h
  | (j, ls) :: r, i, b, cs, hok, hi, h => by
    simp only [bkOk, Bool.and_eq_true] at hok
    obtain ⟨h1, h2⟩ := hok
    split at h1
    · rename_i b' hb'
      simp only [Bool.and_eq_true] at h1
      have hl := fitsAll_length h1.2
      simp only [seg, bkVals, hb'] at h
      cases hji : (j == i) with
      | true =>
        rw [hji] at h
        simp only [cond_true, Option.some.injEq] at h
        have : j = i := by simpa using hji
        subst this
        rw [hi] at hb'; cases hb'
        rw [← h, ← hl]; simp
      | false =>
        rw [hji] at h
        simp only [cond_false] at h
        rw [← hl, List.drop_left] at h
        exact seg_vals h2 hi h
    · cases h1
/-- whether a block is listed hangs on nothing else -/
theorem seg_some : ∀ {bks : List (Nat × List Lf)} {vs us : List Value} {i : Nat}, (seg bks vs i).isSome = (seg bks us i).isSome
  | [], _, _, _ => rfl
  | (j, ls) :: r, vs, us, i => by
    simp only [seg]
    cases (j == i) with
    | true => rfl
    | false => exact seg_some
theorem bkOk_ro {own : List Blk} : ∀ {bks : List (Nat × List Lf)} {vs : List Value} {i : Nat} {b : Blk}, bkOk own bks = true → own[i]? = some b → (seg bks vs i).isSome = true → b.ro = false
  | [], _, _, _, _, _, h => by simp [seg] at h
  | (j, ls) :: r, vs, i, b, hok, hi, h => by
    simp only [bkOk, Bool.and_eq_true] at hok
    obtain ⟨h1, h2⟩ := hok
    simp only [seg] at h
    cases hji : (j == i) with
    | true =>
      have : j = i := by simpa using hji
      subst this
      rw [hi] at h1
      simp only [Bool.and_eq_true, Bool.not_eq_true'] at h1
      exact h1.1
    | false => rw [hji] at h; exact bkOk_ro h2 hi h

theorem lay_same (c : Cut) (l : List Nat) (vs : List Value) (σ : S) : Same σ.own (σ.lay c l vs).own := fun i b hb => by
  refine ⟨_, by show (layOwn _ _ 0 σ.own)[i]? = _; rw [layOwn_get, hb]; rfl, ?_⟩
  split <;> rfl
theorem lay_keep {c : Cut} {l : List Nat} {vs : List Value} {σ : S} (hok : bkOk σ.own c.bks = true) : KeepO σ (σ.lay c l vs) := fun i b hb => by
  refine ⟨_, by show (layOwn _ _ 0 σ.own)[i]? = _; rw [layOwn_get, hb]; rfl, ?_⟩
  cases hs : seg c.bks (vs.drop c.tms.length) (0 + i) with
  | none => exact ⟨rfl, rfl, fun _ => ⟨rfl, rfl⟩⟩
  | some cs =>
    refine ⟨rfl, rfl, fun hr => ?_⟩
    have := bkOk_ro (vs := vs.drop c.tms.length) hok hb (by rw [Nat.zero_add] at hs; rw [hs]; rfl)
    rw [this] at hr; cases hr

theorem Rel.lay {σ0 σ : S} {I0 I : Imm} {F0 F : Heap} {a0 a : Act} {w0 w : World} (c : Cut) (l : List Nat) (hr0 : Rel σ0 I0 F0 a0 w0) (hr : Rel σ I F a w)
    (hown : ∀ (i : Nat) (b : Blk), σ0.own[i]? = some b → ∃ b' : Blk, σ.own[i]? = some b' ∧ b'.num = b.num ∧ b'.elem = b.elem ∧
      (seg c.bks ((σ.vals c).drop c.tms.length) i = none → b'.cells = b.cells))
    (htm : ∀ t, t ∉ l → a.tmps[t]? = a0.tmps[t]?) (hsz : a.tmps.size = a0.tmps.size) (hok : σ.okv c = true) (hdf : σ.df = σ0.df) : Rel (σ0.lay c l (σ.vals c)) I F a w := by
  have hok' := hok
  simp only [S.okv, Bool.and_eq_true] at hok'
  have hdrop : (σ.vals c).drop c.tms.length = bkVals σ.own c.bks := by
    unfold S.vals; rw [← tmVals_length σ c.tms, List.drop_left]
  have htake : (σ.vals c).take c.tms.length = tmVals σ c.tms := by
    unfold S.vals; rw [← tmVals_length σ c.tms, List.take_left]
  have hsame := lay_same c l (σ.vals c) σ0
  refine ⟨?_, ?_, hr.defers.trans (by rw [hdf]; rfl), ?_, ?_, ?_⟩
  · simp only [S.lay, setAll_length, forget_length]; rw [hr0.size, hsz]
  · intro t av ht
    rcases setAll_get _ _ _ t av ht with ⟨k, v, h1, h2, rfl⟩ | h
    · rw [htake] at h2
      obtain ⟨av', h3, h4⟩ := tmVals_get hok'.1 h1 h2
      have := hr.tm t av' h3
      rw [this, h4]; rfl
    · obtain ⟨h1, h2⟩ := forget_get _ _ _ _ h
      rw [htm t h1]; exact hr0.tm t av h2
  · intro t av ht
    rcases setAll_get _ _ _ t av ht with ⟨k, v, h1, h2, rfl⟩ | h
    · trivial
    · obtain ⟨h1, h2⟩ := forget_get _ _ _ _ h
      exact AV.wf_same hsame (hr0.wft t av h2)
  · intro i b hb cell hc
    have hb' : (layOwn c.bks ((σ.vals c).drop c.tms.length) 0 σ0.own)[i]? = some b := hb
    rw [layOwn_get] at hb'
    cases h0 : σ0.own[i]? with
    | none => rw [h0] at hb'; simp at hb'
    | some b0 =>
      rw [h0] at hb'
      simp only [Option.map_some, Option.some.injEq] at hb'
      subst hb'
      split at hc
      · obtain ⟨v, _, rfl⟩ := List.mem_map.1 hc; trivial
      · exact AV.wf_same hsame (hr0.wfo i b0 h0 cell hc)
  · have heq : blks (σ0.lay c l (σ.vals c)).own = (blks σ.own).take σ0.own.length := by
      apply List.ext_getElem?
      intro i
      simp only [blks, List.getElem?_map, List.getElem?_take, S.lay, layOwn_get, Nat.zero_add]
      cases h0 : σ0.own[i]? with
      | none =>
        have : ¬ i < σ0.own.length := fun h => by simp [h] at h0
        simp [this]
      | some b0 =>
        have hlt : i < σ0.own.length := by
          rcases Nat.lt_or_ge i σ0.own.length with h | h
          · exact h
          · simp [List.getElem?_eq_none h] at h0
        obtain ⟨b', h1, h2, h3, h4⟩ := hown i b0 h0
        simp only [if_pos hlt, h1, Option.map_some]
        cases hs : seg c.bks ((σ.vals c).drop c.tms.length) i with
        | none =>
          have h5 := h4 hs
          simp [Blk.obj, h2, h3, h5]
        | some cs =>
          have h5 := seg_vals hok'.2 h1 (by rw [hdrop] at hs; exact hs)
          simp [Blk.obj, h2, h3, h5, AV.g, At.g, Function.comp_def]
    rw [heq]
    exact hr.sat.sub ((List.take_sublist _ _).append (List.Sublist.refl F))

theorem unl_blks (own0 : List Blk) : ∀ (i : Nat) (own : List Blk), blks (unl own0 i own) = blks own
  | _, [] => rfl
  | i, b :: r => by
    simp only [unl, blks, List.map_cons]
    have := unl_blks own0 (i + 1) r
    unfold blks at this
    rw [this]
    congr 1
    split <;> rfl
theorem unl_same (own0 : List Blk) (own : List Blk) : Same own (unl own0 0 own) := fun i b hb => by
  refine ⟨_, by rw [unl_get, hb]; rfl, ?_⟩
  split <;> rfl
theorem Rel.unlock {σ σ0 : S} {I : Imm} {F : Heap} {a : Act} {w : World} (h : Rel σ I F a w) : Rel (σ.unlock σ0) I F a w := by
  refine h.heap (unl_same _ _) ?_ (by rw [unl_blks]; exact h.sat)
  intro i b hb c hc
  rw [unl_get] at hb
  cases h0 : σ.own[i]? with
  | none => rw [h0] at hb; simp at hb
  | some b0 =>
    rw [h0] at hb
    simp only [Option.map_some, Option.some.injEq] at hb
    have : b.cells = b0.cells := by rw [← hb]; split <;> rfl
    rw [this] at hc
    exact AV.wf_same (unl_same _ _) (h.wfo i b0 h0 c hc)
theorem unlock_keep {σ0 σ : S} {c : Cut} {l : List Nat} {vs : List Value} (hok : bkOk σ0.own c.bks = true) (hk : KeepO (σ0.lay c l vs) σ) : KeepO σ0 (σ.unlock σ0) := fun i b hb => by
  obtain ⟨b1, h1, e1, e2, h2⟩ := lay_keep (l := l) (vs := vs) hok i b hb
  obtain ⟨b2, h3, e3, e4, h4⟩ := hk i b1 h1
  refine ⟨{ b2 with ro := b.ro }, ?_, e3.trans e1, e4.trans e2, fun hr => ?_⟩
  · show (unl σ0.own 0 σ.own)[i]? = _
    rw [unl_get, h3, Nat.zero_add, hb]; rfl
  · obtain ⟨h5, h6⟩ := h2 hr
    exact ⟨hr, (h4 h5).2.trans h6⟩

def lockOwn (bks : List (Nat × List Lf)) : Nat → List Blk → List Blk
  | _, [] => []
  | i, b :: r => (match seg bks [] i with
    | some _ => b
    | none => { b with ro := true }) :: lockOwn bks (i + 1) r
def S.lock (σ : S) (c : Cut) : S := { σ with own := lockOwn c.bks 0 σ.own }
theorem lockOwn_get (bks : List (Nat × List Lf)) : ∀ (i : Nat) (own : List Blk) (j : Nat), (lockOwn bks i own)[j]? = (own[j]?).map fun b =>
    match seg bks [] (i + j) with
    | some _ => b
    | none => { b with ro := true }
  | i, [], j => by simp [lockOwn]
  | i, b :: r, 0 => by simp only [lockOwn, List.getElem?_cons_zero, Option.map_some, Nat.add_zero]
  | i, b :: r, j + 1 => by
    simp only [lockOwn, List.getElem?_cons_succ]
    rw [lockOwn_get bks (i + 1) r j, show i + 1 + j = i + (j + 1) by omega]
theorem lock_blks (bks : List (Nat × List Lf)) : ∀ (i : Nat) (own : List Blk), blks (lockOwn bks i own) = blks own
  | _, [] => rfl
  | i, b :: r => by
    simp only [lockOwn, blks, List.map_cons]
    have := lock_blks bks (i + 1) r
    unfold blks at this
    rw [this]
    congr 1
    split <;> rfl
theorem lock_at {σ : S} {c : Cut} {i : Nat} {b : Blk} (hb : σ.own[i]? = some b) : ∃ b', (σ.lock c).own[i]? = some b' ∧ b'.num = b.num ∧ b'.elem = b.elem ∧ b'.cells = b.cells ∧
    (b.ro = true → b'.ro = true) ∧ (seg c.bks [] i = none → b'.ro = true) := by
  refine ⟨_, by show (lockOwn _ 0 σ.own)[i]? = _; rw [lockOwn_get, hb]; rfl, ?_⟩
  rw [Nat.zero_add]
  cases seg c.bks [] i with
  | none => exact ⟨rfl, rfl, rfl, fun _ => rfl, fun _ => rfl⟩
  | some cs => exact ⟨rfl, rfl, rfl, fun h => h, fun h => by cases h⟩
theorem Rel.lock {σ : S} {I : Imm} {F : Heap} {a : Act} {w : World} (h : Rel σ I F a w) (c : Cut) : Rel (σ.lock c) I F a w := by
  have hs : Same σ.own (σ.lock c).own := fun i b hb => by
    obtain ⟨b', h1, h2, _⟩ := lock_at (c := c) hb
    exact ⟨b', h1, h2⟩
  refine h.heap hs ?_ (by show Sat I (blks (lockOwn _ 0 _) ++ F) w; rw [lock_blks]; exact h.sat)
  intro i b hb cell hc
  cases h0 : σ.own[i]? with
  | none =>
    have h1 : (lockOwn c.bks 0 σ.own)[i]? = some b := hb
    rw [lockOwn_get, h0] at h1; simp at h1
  | some b0 =>
    obtain ⟨b', h1, _, _, h2, _⟩ := lock_at (c := c) h0
    have : b' = b := Option.some.inj (h1.symm.trans hb)
    subst this
    rw [h2] at hc
    exact AV.wf_same hs (h.wfo i b0 h0 cell hc)
theorem lock_unlock {σ0 σ : S} {c : Cut} (hk : KeepO (σ0.lock c) σ) : KeepO σ0 (σ.unlock σ0) := fun i b hb => by
  obtain ⟨b1, h1, e1, e2, h2, h3, _⟩ := lock_at (c := c) hb
  obtain ⟨b2, h4, e3, e4, h5⟩ := hk i b1 h1
  refine ⟨{ b2 with ro := b.ro }, ?_, e3.trans e1, e4.trans e2, fun hr => ⟨hr, (h5 (h3 hr)).2.trans h2⟩⟩
  show (unl σ0.own 0 σ.own)[i]? = _
  rw [unl_get, h4, Nat.zero_add, hb]; rfl

/-! ### the condition of a piece of code -/
abbrev Kt := Exit → S → Imm → Heap → Prop
def kThen (N : S → Imm → Heap → Prop) (K : Kt) : Kt
  | .normal, σ, I, F => N σ I F
  | e, σ, I, F => K e σ I F
def kBlock (id : Nat) (K : Kt) : Kt
  | .exit id', σ, I, F => cond (id' == id) (K .normal σ I F) (K (.exit id') σ I F)
  | e, σ, I, F => K e σ I F
def kNoGo (K : Kt) : Kt
  | .goto _, _, _, _ => False
  | e, σ, I, F => K e σ I F
def kUn (σ0 : S) (N : S → Imm → Heap → Prop) (K : Kt) : Kt
  | .normal, σ, I, F => N σ I F
  | e, σ, I, F => K e (σ.unlock σ0) I F

/-- the temporaries that are not turned within, as they stand at the head -/
def S.fix (σ : S) (c : Cut) : List Value := c.fx.map fun t => σ.cv (.tmp t)
/-- the calls that stand off are the same -/
def dfOk (σ σ' : S) (X : Prop) : Prop := cond (σ.df.isEmpty && σ'.df.isEmpty) X (σ'.df = σ.df ∧ X)
theorem dfOk_out {σ σ' : S} {X : Prop} (h : dfOk σ σ' X) : σ'.df = σ.df ∧ X := by
  unfold dfOk at h
  cases hc : (σ.df.isEmpty && σ'.df.isEmpty) with
  | true =>
    rw [hc] at h
    simp only [Bool.and_eq_true, List.isEmpty_iff] at hc
    exact ⟨by rw [hc.1, hc.2], h⟩
  | false => rw [hc] at h; exact h
/-- the ways out of a round: by an exit, or (none) by a return -/
def hasJ : List (Option Nat) → Option Nat → Bool
  | [], _ => false
  | none :: r, none => true
  | some a :: r, some b => a == b || hasJ r (some b)
  | _ :: r, x => hasJ r x
def dd : List (Option Nat) → List (Option Nat)
  | [] => []
  | x :: r => cond (hasJ (dd r) x) (dd r) (x :: dd r)
def jmp : List Nat → Code → List (Option Nat)
  | bs, .exit id => cond (bs.contains id) [] [some id]
  | _, .ret => [none]
  | bs, .seq a b => jmp bs a ++ jmp bs b
  | bs, .cond _ a b => jmp bs a ++ jmp bs b
  | bs, .block id c => jmp (id :: bs) c
  | bs, .loop c => jmp bs c
  | bs, .scope c => jmp bs c
  | bs, .rangeFunc _ _ _ y => jmp bs y
  | _, _ => []
def orJ : List (Option Nat) → (Option Nat → Prop) → Prop
  | [], _ => False
  | x :: r, f => f x ∨ orJ r f
def exitOf : Option Nat → Exit
  | none => .ret
  | some id => .exit id
def codeOf : Option Nat → Code
  | none => .ret
  | some id => .exit id
theorem orJ_out : ∀ {l : List (Option Nat)} {f : Option Nat → Prop}, orJ l f → ∃ j, f j
  | [], _, h => h.elim
  | x :: r, f, h => by
    rcases h with h | h
    · exact ⟨x, h⟩
    · exact orJ_out h
def allSh : Sh → (Value → Prop) → Prop
  | .one l, Q => allLf l Q
  | .agg ls, Q => allLs ls fun vs => Q (.agg vs.toArray)
def allShs : List Sh → (List Value → Prop) → Prop
  | [], Q => Q []
  | s :: r, Q => allSh s fun v => allShs r fun vs => Q (v :: vs)
def Cut.blf (c : Cut) : List Lf := c.bks.flatMap Prod.snd
def kAsg (N : S → Imm → Heap → Prop) : Kt
  | .normal, σ, I, F => N σ I F
  | _, _, _, _ => False
def kRound (L Lb : Heap) (Lx : Option Nat → Heap) (n0 : Nat) (Q : Ending → Imm → Heap → Prop) : Kt
  | .normal, σ, I, F => ∃ F3 : Heap, F.Perm (Lb ++ F3) ∧ Q (.returned (.bool true)) I (blks (σ.own.take n0) ++ (L ++ F3))
  | .ret, σ, I, F => ∃ F3 : Heap, F.Perm (Lb ++ F3) ∧ Q (.returned (.bool false)) I (blks (σ.own.take n0) ++ (Lx none ++ F3))
  | .exit id, σ, I, F => ∃ F3 : Heap, F.Perm (Lb ++ F3) ∧ Q (.returned (.bool false)) I (blks (σ.own.take n0) ++ (Lx (some id) ++ F3))
  | _, _, _, _ => False
def S.round (σ : S) (ct : Cut) (ps : Array Nat) (args vs : List Value) : S := { tm := setAll ps.toList args σ.tm, own := layOwn ct.bks vs 0 σ.own, df := [] }
def S.after (σ : S) (ct : Cut) (vs : List Value) (D : Nat) (rd : Option Heap) : S :=
  { tm := σ.tm, own := unl σ.own 0 (layOwn ct.bks vs 0 σ.own), df := match rd with
    | none => .mark D :: σ.df
    | some _ => σ.df }
def withD (rd : Option Heap) (D : Nat) (F : Heap) : Heap := match rd with
  | none => (D, .deferred (some [])) :: F
  | some _ => F
def inRd (rd : Option Heap) (F : Heap) (X : Prop) : Prop := match rd with
  | none => X
  | some R => (∃ F3 : Heap, F.Perm (R ++ F3)) ∧ X
def ndOk (rd : Option Heap) (ops : Array Oper) : Bool := match rd with
  | none => true
  | some _ => ops.toList.all fun o => noDef o.op
def W (P : Program) (A : Ann) : Option Heap → Code → Nat → Kt → S → Imm → Heap → Prop
  | _, .skip, _, K, σ, I, F => K .normal σ I F
  | _, .label _, _, K, σ, I, F => K .normal σ I F
  | _, .exit id, _, K, σ, I, F => K (.exit id) σ I F
  | _, .goto l, _, K, σ, I, F => K (.goto l) σ I F
  | _, .ret, _, K, σ, I, F => K .ret σ I F
  | rd, .region rid ops false, _, K, σ, I, F => cond (ndOk rd ops) (wOps P A rid ops ops.toList 0 σ I F (K .normal) (fun ch => K (.panic ch))) False
  | _, .region rid ops true, _, K, σ, I, F => cond (P.follows .mixedOrders && drawB ops)
    (match A.ds rid with
      | none => wD P A rid ops ops.size [] ops.toList 0 σ I F fun σ' F' => K .normal σ' I F'
      | some (n, hid) => wD P A rid ops n hid ops.toList 0 σ I F fun σ' F' => K .normal σ' I F') False
  | rd, .cond c x y, n, K, σ, I, F => match σ.ev c with
    | some (.a (.v (.bool b))) => (match b with
      | true => W P A rd x (n + 1) K σ I F
      | false => W P A rd y (n + 1 + sz x) K σ I F)
    | _ => False
  | rd, .block id c, n, K, σ, I, F => W P A rd c (n + 1) (kBlock id K) σ I F
  | rd, .seq x y, n, K, σ, I, F => match A.cut n with
    | none => W P A rd x (n + 1) (kThen (W P A rd y (n + 1 + sz x) K) K) σ I F
    | some ct => cond (bkOk σ.own ct.bks)
      (W P A rd x (n + 1) (kUn σ (fun σ' I' F' => cond (σ'.okv ct) (dfOk σ σ' (ct.Inv (σ.fix ct) I F (σ'.vals ct) 0 I' F')) False) K) (σ.lock ct) I F ∧
        allLs ct.lfs fun vs => ∀ (I' : Imm) (F' : Heap), Imm.le I I' → ct.Inv (σ.fix ct) I F vs 0 I' F' → W P A rd y (n + 1 + sz x) K ((σ.lay ct (asg x) vs).unlock σ) I' F') False
  | rd, .loop c, n, K, σ, I, F => match A.cut n with
    | none => False
    | some ct => cond (σ.okv ct)
      ((∃ m, ct.Inv (σ.fix ct) I F (σ.vals ct) m I F) ∧
        allLs ct.lfs fun vs => ∀ (m : Nat) (I' : Imm) (F' : Heap), Imm.le I I' → ct.Inv (σ.fix ct) I F vs m I' F' →
          W P A rd c (n + 1) (kUn σ (fun σ' I' F' => cond (σ'.okv ct) (dfOk σ σ' (∃ m', m' < m ∧ ct.Inv (σ.fix ct) I F (σ'.vals ct) m' I' F')) False) K) (σ.lay ct (asg c) vs) I' F') False
  | rd, .scope c, n, K, σ, I, F => W P A rd c (n + 1) (kNoGo K) σ I F
  | rd, .rangeFunc g ps x y, n, K, σ, I, F => match A.cut n, σ.ev g with
    | some ct, some gv => cond (bkOk σ.own ct.bks && ct.ps.length == ps.size)
      (inRd rd F (∀ (Y : Fn) (L Lb : Heap) (Lx : Option Nat → Heap) (D : Nat),
        (allShs ct.ps fun args => allLs ct.blf fun vs => ∀ (I' : Imm) (F' : Heap) (Q : Ending → Imm → Heap → Prop), Imm.le I I' →
          W P A (some L) x (n + 1) (kAsg fun σ1 I1 F1 => ∃ F2 : Heap, F1.Perm (L ++ F2) ∧
            W P A (some Lb) y (n + 1 + sz x) (kRound L Lb Lx σ.own.length Q) σ1 I1 (Lb ++ F2)) (σ.round ct ps args vs) I' (L ++ F') →
          TriV P (.func Y #[] #[]) args I' (blks (layOwn ct.bks vs 0 σ.own) ++ (L ++ F')) Q) →
        TriC P gv.g [.func Y #[] #[]] I (blks σ.own ++ (L ++ F)) fun e I' G => ∃ r, e = .returned r ∧
          ((exLs ct.blf fun vs => ∃ F' : Heap, G.Perm (blks (layOwn ct.bks vs 0 σ.own) ++ (L ++ F')) ∧ K .normal (σ.after ct vs D rd) I' (withD rd D F')) ∨
            orJ (dd (jmp [] y)) fun j => exLs ct.blf fun vs => ∃ F' : Heap, G.Perm (blks (layOwn ct.bks vs 0 σ.own) ++ (Lx j ++ F')) ∧ K (exitOf j) (σ.after ct vs D rd) I' (withD rd D F')))) False
    | _, _ => False
  | _, _, _, _, _, _, _ => False

/-- what stands behind a piece of code -/
def Post (l : List Nat) (σ : S) (a : Act) (I : Imm) (K : Kt) (e : Exit) (a' : Act) (w' : World) : Prop :=
  ∃ σ' I' F', Rel σ' I' F' a' w' ∧ Imm.le I I' ∧ K e σ' I' F' ∧ Keep l σ a σ' a'

theorem wp_loop_m {F : Fence} {n : Nat} {P : Program} {Q : Exit → Act → World → Prop} {c : Code} {a : Act} {w : World} (J : Nat → Act → World → Prop) (h0 : ∃ m, J m a w)
    (round : ∀ m a w, J m a w → c.wpIn F n P (Exit.then (fun a' w' => ∃ m', m' < m ∧ J m' a' w') Q) a w) : (Code.loop c).wpIn F n P Q a w := by
  intro b k cs hro hb hr
  have key : ∀ j a w, J j a w → ∃ e a' w', Q e a' w' ∧ ArrivesIn (Machine.fenced P F) P (lone (b.atR a (.code c :: .inLoop c :: k)) cs w) b k cs e a' w' := by
    intro j
    induction j using Nat.strongRecOn with
    | _ j ih =>
      intro a w hJ
      obtain ⟨e, a₁, w₁, hq, harr⟩ := round j a w hJ b (.inLoop c :: k) cs hro hb hr
      cases e with
      | normal =>
        obtain ⟨m', hlt, hJ'⟩ := hq
        obtain ⟨e₂, a₂, w₂, hq₂, harr₂⟩ := ih m' hlt a₁ w₁ hJ'
        exact ⟨e₂, a₂, w₂, hq₂, .of_steps (StepsIn.trans harr (.one (fenced_calm hb hr rfl) stepR_inLoop)) harr₂⟩
      | exit id => exact ⟨_, a₁, w₁, hq, .pass (x := .inLoop c) rfl (fun _ _ => .inl (by simp)) harr⟩
      | goto l => exact ⟨_, a₁, w₁, hq, .pass (x := .inLoop c) rfl (fun _ _ => .inl (by simp)) harr⟩
      | ret => exact ⟨_, a₁, w₁, hq, .pass (x := .inLoop c) rfl (fun _ _ => .inl (by simp)) harr⟩
      | panic ch => exact ⟨_, a₁, w₁, hq, .pass (x := .inLoop c) rfl (fun _ _ => .inl (by simp)) harr⟩
      | outgrown => exact ⟨_, a₁, w₁, hq, .pass (x := .inLoop c) rfl (fun _ _ => .inl (by simp)) harr⟩
  obtain ⟨m, hm⟩ := h0
  obtain ⟨e, a', w', hq, harr⟩ := key m a w hm
  exact ⟨e, a', w', hq, .of_steps (.one (fenced_calm hb hr rfl) stepR_loop) harr⟩
theorem stepR_scope {P : Program} {b : Frame} {a : Act} {k : List Item} {cs : List Frame} {w : World} {c : Code} : step P (lone (b.atR a (.code (.scope c) :: k)) cs w) = .next (lone (b.atR a (.code c :: .inScope c :: k)) cs w) :=
  step_lone_go (by simp [stepG, stepG.exec, Frame.atR])
theorem stepR_inScope {P : Program} {b : Frame} {a : Act} {k : List Item} {cs : List Frame} {w : World} {c : Code} : step P (lone (b.atR a (.inScope c :: k)) cs w) = .next (lone (b.atR a k) cs w) :=
  step_lone_go (by simp [stepG, stepG.exec, Frame.atR])
theorem wpIn_scope_straight {F : Fence} {n : Nat} {P : Program} {Q : Exit → Act → World → Prop} {c : Code} {a : Act} {w : World} (h : c.wpIn F n P (Exit.noGoto Q) a w) : (Code.scope c).wpIn F n P Q a w := by
  intro b k cs hro hb hr
  have h0 : (lone (b.atR a (.code (.scope c) :: k)) cs w).fenced P F := fenced_calm hb hr rfl
  obtain ⟨e, a₁, w₁, hq, harr⟩ := h b (.inScope c :: k) cs hro hb hr
  cases e with
  | normal => exact ⟨.normal, a₁, w₁, hq, .head h0 stepR_scope (StepsIn.trans harr (.one (fenced_calm hb hr rfl) stepR_inScope))⟩
  | exit id =>
    have hx : exitTo id (.inScope c :: k) = exitTo id k := by simp [exitTo]
    exact ⟨.exit id, a₁, w₁, hq, fun k' hk => .head h0 stepR_scope (harr.1 k' (by rw [hx]; exact hk)),
      fun hr' hk => let ⟨k₁, h1, h2⟩ := harr.2 hr' (by rw [hx]; exact hk); ⟨k₁, h1, .head h0 stepR_scope h2⟩⟩
  | goto l => exact hq.elim
  | ret => exact ⟨_, a₁, w₁, hq, .of_steps (.one h0 stepR_scope) harr⟩
  | panic ch => exact ⟨_, a₁, w₁, hq, .of_steps (.one h0 stepR_scope) harr⟩
  | outgrown => exact ⟨_, a₁, w₁, hq, .of_steps (.one h0 stepR_scope) harr⟩

end Go.Vc
