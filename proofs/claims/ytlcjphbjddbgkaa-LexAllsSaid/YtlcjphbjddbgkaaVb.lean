import Derived.Test.YtlcjphbjddbgkaaVa
namespace Go.Vc

/-! ### values, told apart by whether they lead into a block that the walk follows -/
inductive At where
  | v (x : Value)
  | p (i b off : Nat)
  | s (i b len cap : Nat)
inductive AV where
  | a (x : At)
  | f (fn : Nat) (first cap : List At)

def At.g : At → Value
  | .v x => x
  | .p _ b off => .pointer (some ⟨b, off, none⟩)
  | .s _ b len cap => .slice (some ⟨b, 0, none⟩) len cap
def AV.g : AV → Value
  | .a x => x.g
  | .f fn first cap => .func (.func fn) (first.map At.g).toArray (cap.map At.g).toArray
def AV.cells : AV → List AV
  | .a (.v x) => x.cells.toList.map fun c => .a (.v c)
  | x => [x]
theorem AV.cells_g (x : AV) : x.cells.map AV.g = x.g.cells.toList := by
  cases x with
  | a x => cases x with
    | v x => simp [AV.cells, AV.g, At.g, Function.comp_def]
    | p i b off => simp [AV.cells, AV.g, At.g, Value.cells]
    | s i b len cap => simp [AV.cells, AV.g, At.g, Value.cells]
  | f fn first cap => simp [AV.cells, AV.g, Value.cells]

structure Blk where
  num : Nat
  elem : Nat
  ro : Bool
  cells : List AV
def Blk.obj (b : Blk) : Obj := .cells (b.cells.map AV.g).toArray b.elem (0, 0)
def blks (own : List Blk) : Heap := own.map fun b => (b.num, b.obj)

/-- a call that stands off till the function's end: the mark of a range over a function, or a closure -/
inductive Df where
  | mark (D : Nat)
  | fn (f : Nat) (first cap : List At) (args : List Value)
def Df.d : Df → Deferred
  | .mark D => { target := .collected D, args := #[] }
  | .fn f first cap args => { target := .fn (.func f) (cap.map At.g).toArray, args := (first.map At.g).toArray ++ args.toArray }
structure S where
  tm : List (Option AV)
  own : List Blk
  df : List Df := []

def S.ev (σ : S) : Operand → Option AV
  | .tmp t => (σ.tm[t]?).join
  | .const v => some (.a (.v v))
  | .global g => some (.a (.v (.pointer (some ⟨g, 0, none⟩))))
  | .func f => some (.f f [] [])
def S.cv (σ : S) (x : Operand) : Value :=
  match σ.ev x with
  | some av => av.g
  | none => undef
def S.knows (σ : S) : List Operand → Bool
  | [] => true
  | x :: r => (σ.ev x).isSome && σ.knows r
def S.put (σ : S) (dst : Option Nat) (av : Option AV) : S :=
  match dst with
  | none => σ
  | some d => { σ with tm := σ.tm.set d av }

def At.wf (own : List Blk) : At → Prop
  | .v _ => True
  | .p i b _ => (own[i]?).map Blk.num = some b
  | .s i b _ _ => (own[i]?).map Blk.num = some b
def AV.wf (own : List Blk) : AV → Prop
  | .a x => x.wf own
  | .f _ first cap => (∀ x ∈ first, x.wf own) ∧ ∀ x ∈ cap, x.wf own

structure Rel (σ : S) (I : Imm) (F : Heap) (a : Act) (w : World) : Prop where
  size : σ.tm.length = a.tmps.size
  tm : ∀ (t : Nat) (av : AV), σ.tm[t]? = some (some av) → a.tmps[t]? = some av.g
  defers : a.defers = σ.df.map Df.d
  wft : ∀ (t : Nat) (av : AV), σ.tm[t]? = some (some av) → av.wf σ.own
  wfo : ∀ (i : Nat) (b : Blk), σ.own[i]? = some b → ∀ c ∈ b.cells, AV.wf σ.own c
  sat : Sat I (blks σ.own ++ F) w

/-- the temporaries alone -/
structure RelT (σ : S) (a : Act) : Prop where
  size : σ.tm.length = a.tmps.size
  tm : ∀ (t : Nat) (av : AV), σ.tm[t]? = some (some av) → a.tmps[t]? = some av.g
def WfT (σ : S) (own : List Blk) : Prop := ∀ (t : Nat) (av : AV), σ.tm[t]? = some (some av) → av.wf own
theorem Rel.t {σ : S} {I : Imm} {F : Heap} {a : Act} {w : World} (h : Rel σ I F a w) : RelT σ a := ⟨h.size, h.tm⟩
/-- the numbers of the blocks stay where they stand -/
def Same (own own' : List Blk) : Prop := ∀ (i : Nat) (b : Blk), own[i]? = some b → ∃ b' : Blk, own'[i]? = some b' ∧ b'.num = b.num
theorem Same.refl (own : List Blk) : Same own own := fun _ b h => ⟨b, h, rfl⟩
theorem At.wf_same {own own' : List Blk} (h : Same own own') {x : At} (hx : x.wf own) : x.wf own' := by
  cases x with
  | v x => trivial
  | p i b off =>
    simp only [At.wf, Option.map_eq_some_iff] at hx ⊢
    obtain ⟨c, hc, e⟩ := hx
    obtain ⟨c', hc', e'⟩ := h i c hc
    exact ⟨c', hc', e'.trans e⟩
  | s i b n m =>
    simp only [At.wf, Option.map_eq_some_iff] at hx ⊢
    obtain ⟨c, hc, e⟩ := hx
    obtain ⟨c', hc', e'⟩ := h i c hc
    exact ⟨c', hc', e'.trans e⟩
theorem AV.wf_same {own own' : List Blk} (h : Same own own') {x : AV} (hx : x.wf own) : x.wf own' := by
  cases x with
  | a x => exact At.wf_same h hx
  | f fn first cap => exact ⟨fun y hy => At.wf_same h (hx.1 y hy), fun y hy => At.wf_same h (hx.2 y hy)⟩
theorem Same.append (own : List Blk) (b : Blk) : Same own (own ++ [b]) := fun i c h =>
  ⟨c, by rw [List.getElem?_append_left (by rcases Nat.lt_or_ge i own.length with h' | h'; exact h'; simp [List.getElem?_eq_none h'] at h)]; exact h, rfl⟩
theorem Same.set (own : List Blk) (i : Nat) (b b' : Blk) (h : own[i]? = some b) (e : b'.num = b.num) : Same own (own.set i b') := fun j c hj => by
  rw [List.getElem?_set]
  by_cases hij : i = j
  · subst hij
    rw [h] at hj; cases hj
    have hlt : i < own.length := by
      rcases Nat.lt_or_ge i own.length with h' | h'
      · exact h'
      · simp [List.getElem?_eq_none h'] at h
    exact ⟨b', by simp [hlt], e⟩
  · simp only [if_neg hij]; exact ⟨c, hj, rfl⟩

theorem S.ev_evalT {σ : S} {a : Act} (h : RelT σ a) {x : Operand} {av : AV} (e : σ.ev x = some av) : a.eval x = av.g := by
  cases x with
  | tmp t =>
    simp only [S.ev] at e
    have : σ.tm[t]? = some (some av) := by
      cases h' : σ.tm[t]? with
      | none => rw [h'] at e; cases e
      | some y => rw [h'] at e; simp only [Option.join] at e; rw [Option.bind_some] at e; simp only [id] at e; rw [e]
    have := h.tm t av this
    simp [Act.eval, this]
  | const v => simp only [S.ev, Option.some.injEq] at e; subst e; rfl
  | global g => simp only [S.ev, Option.some.injEq] at e; subst e; rfl
  | func f => simp only [S.ev, Option.some.injEq] at e; subst e; rfl
theorem S.ev_wfT {σ : S} {own : List Blk} (h : WfT σ own) {x : Operand} {av : AV} (e : σ.ev x = some av) : av.wf own := by
  cases x with
  | tmp t =>
    simp only [S.ev] at e
    have : σ.tm[t]? = some (some av) := by
      cases h' : σ.tm[t]? with
      | none => rw [h'] at e; cases e
      | some y => rw [h'] at e; simp only [Option.join] at e; rw [Option.bind_some] at e; simp only [id] at e; rw [e]
    exact h t av this
  | const v => simp only [S.ev, Option.some.injEq] at e; subst e; trivial
  | global g => simp only [S.ev, Option.some.injEq] at e; subst e; trivial
  | func f => simp only [S.ev, Option.some.injEq] at e; subst e; exact ⟨by simp, by simp⟩
theorem S.ev_eval {σ : S} {I : Imm} {F : Heap} {a : Act} {w : World} (h : Rel σ I F a w) {x : Operand} {av : AV} (e : σ.ev x = some av) : a.eval x = av.g := S.ev_evalT h.t e
theorem S.ev_wf {σ : S} {I : Imm} {F : Heap} {a : Act} {w : World} (h : Rel σ I F a w) {x : Operand} {av : AV} (e : σ.ev x = some av) : av.wf σ.own := S.ev_wfT h.wft e
theorem S.knows_evalT {σ : S} {a : Act} (h : RelT σ a) : ∀ {l : List Operand}, σ.knows l = true → ∀ x ∈ l, a.eval x = σ.cv x
  | [], _, x, hx => by cases hx
  | y :: l, hk, x, hx => by
    simp only [S.knows, Bool.and_eq_true] at hk
    rcases List.mem_cons.1 hx with rfl | hx
    · obtain ⟨av, hav⟩ := Option.isSome_iff_exists.1 hk.1
      simp only [S.cv, hav]; exact S.ev_evalT h hav
    · exact S.knows_evalT h hk.2 x hx
theorem S.knows_eval {σ : S} {I : Imm} {F : Heap} {a : Act} {w : World} (h : Rel σ I F a w) {l : List Operand} (hk : σ.knows l = true) : ∀ x ∈ l, a.eval x = σ.cv x := S.knows_evalT h.t hk

theorem Rel.put {σ : S} {I : Imm} {F : Heap} {a : Act} {w : World} (h : Rel σ I F a w) (dst : Option Nat) {av : AV} {v : Value} (hg : av.g = v) (hw : av.wf σ.own) :
    Rel (σ.put dst (some av)) I F (a.put dst v) w := by
  cases dst with
  | none => exact h
  | some d =>
    refine ⟨by simp [S.put, Act.put, h.size], ?_, h.defers, ?_, h.wfo, h.sat⟩
    · intro t av' ht
      simp only [S.put, List.getElem?_set] at ht
      simp only [Act.put, Array.getElem?_setIfInBounds]
      by_cases hdt : d = t
      · subst hdt
        simp only [if_true] at ht ⊢
        split at ht
        · rename_i hlt; cases ht; rw [h.size] at hlt; simp [hlt, hg]
        · cases ht
      · simp only [if_neg hdt] at ht ⊢; exact h.tm t av' ht
    · intro t av' ht
      simp only [S.put, List.getElem?_set] at ht ⊢
      by_cases hdt : d = t
      · subst hdt
        simp only [if_true] at ht
        split at ht
        · cases ht; exact hw
        · cases ht
      · simp only [if_neg hdt] at ht; exact h.wft t av' ht
theorem Rel.forget {σ : S} {I : Imm} {F : Heap} {a : Act} {w : World} (h : Rel σ I F a w) (dst : Option Nat) (v : Value) :
    Rel (σ.put dst none) I F (a.put dst v) w := by
  cases dst with
  | none => exact h
  | some d =>
    refine ⟨by simp [S.put, Act.put, h.size], ?_, h.defers, ?_, h.wfo, h.sat⟩
    · intro t av' ht
      simp only [S.put, List.getElem?_set] at ht
      simp only [Act.put, Array.getElem?_setIfInBounds]
      by_cases hdt : d = t
      · subst hdt
        simp only [if_true] at ht
        split at ht <;> cases ht
      · simp only [if_neg hdt] at ht ⊢; exact h.tm t av' ht
    · intro t av' ht
      simp only [S.put, List.getElem?_set] at ht ⊢
      by_cases hdt : d = t
      · subst hdt
        simp only [if_true] at ht
        split at ht <;> cases ht
      · simp only [if_neg hdt] at ht; exact h.wft t av' ht

/-- other heap, same temporaries -/
theorem Rel.heap {σ : S} {I I' : Imm} {F F' : Heap} {a : Act} {w w' : World} (h : Rel σ I F a w) {own' : List Blk} (hs : Same σ.own own')
    (ho : ∀ (i : Nat) (b : Blk), own'[i]? = some b → ∀ c ∈ b.cells, AV.wf own' c) (hsat : Sat I' (blks own' ++ F') w') : Rel { σ with own := own' } I' F' a w' :=
  ⟨h.size, h.tm, h.defers, fun t av ht => AV.wf_same hs (h.wft t av ht), ho, hsat⟩

/-! ### operations that leave the world alone -/
def purify (P : Program) {α : Type} : Sem α → Option α
  | .pure a => some a
  | .program k => purify P (k P)
  | .mark _ k => purify P k
  | _ => none
theorem purify_run {P : Program} {α : Type} {s : Sem α} {x : α} (h : purify P s = some x) (w : World) : s.run P w = .ok x w := by
  induction s with
  | pure a => simp only [purify, Option.some.injEq] at h; subst h; rfl
  | program k ih => simp only [purify] at h; simp only [Sem.run]; exact ih P h
  | mark m k ih => simp only [purify] at h; simp only [Sem.run]; exact ih h
  | _ => simp [purify] at h

theorem map_congr_operands {ρ ρ' : Operand → Value} {l : Array Operand} (h : ∀ x ∈ l.toList, ρ x = ρ' x) : l.map ρ = l.map ρ' :=
  Array.map_congr_left fun x hx => h x (by simpa using hx)
theorem opt_congr_operands {ρ ρ' : Operand → Value} {l : Option Operand} (h : ∀ x ∈ l.toArray.toList, ρ x = ρ' x) : l.map ρ = l.map ρ' := by
  cases l with
  | none => rfl
  | some x => simp [h x (by simp)]

theorem execOp_congr {ρ ρ' : Operand → Value} (o : Oper) (hs : ∀ cs b, o.op ≠ .select cs b) (h : ∀ x ∈ o.op.operands.toList, ρ x = ρ' x) : execOp ρ o = execOp ρ' o := by
  have hc : ∀ c : Call, (∀ x ∈ c.operands.toList, ρ x = ρ' x) → ∀ t, resolve ρ c t = resolve ρ' c t := by
    intro c hc t
    have ha : c.args.map ρ = c.args.map ρ' := map_congr_operands fun x hx => hc x (by simp [Call.operands] at hx ⊢; exact .inr hx)
    unfold resolve
    rw [ha]
    cases hcal : c.callee with
    | value f => simp [hc f (by simp [Call.operands, hcal])]
    | invoke r m => simp [hc r (by simp [Call.operands, hcal])]
    | builtin b => rfl
  unfold execOp
  cases hop : o.op with
  | select cs b => exact absurd hop (hs cs b)
  | call c => rw [hop] at h; simp only [hc c (by simpa [Op.operands] using h)]
  | go c => rw [hop] at h; simp only [hc c (by simpa [Op.operands] using h)]
  | defer c => rw [hop] at h; simp only [hc c (by simpa [Op.operands] using h)]
  | build t ps =>
    rw [hop] at h
    have : (ps.map fun (i, x) => (i, ρ x)) = ps.map fun (i, x) => (i, ρ' x) := Array.map_congr_left fun x hx => by
      show (x.1, ρ x.2) = (x.1, ρ' x.2)
      rw [h x.2 (by simp [Op.operands]; exact ⟨x.1, by simpa using hx⟩)]
    simp only [this]
  | buildSlice t n ps =>
    rw [hop] at h
    have : (ps.map fun (i, x) => (i, ρ x)) = ps.map fun (i, x) => (i, ρ' x) := Array.map_congr_left fun x hx => by
      show (x.1, ρ x.2) = (x.1, ρ' x.2)
      rw [h x.2 (by simp [Op.operands]; exact ⟨x.1, by simpa using hx⟩)]
    simp only [this]
  | makeFunc fn first cap =>
    rw [hop] at h
    have h1 : first.map ρ = first.map ρ' := map_congr_operands fun x hx => h x (by simp [Op.operands] at hx ⊢; exact .inl hx)
    have h2 : cap.map ρ = cap.map ρ' := map_congr_operands fun x hx => h x (by simp [Op.operands] at hx ⊢; exact .inr hx)
    simp only [h1, h2]
  | makeMap t r => rw [hop] at h; simp only [opt_congr_operands (l := r) (by simpa [Op.operands] using h)]
  | slice t x lo hi mx =>
    rw [hop] at h
    simp only [Op.operands] at h
    have h0 := h x (by simp)
    have h1 : lo.map ρ = lo.map ρ' := opt_congr_operands fun x hx => h x (by simp at hx ⊢; simp [hx])
    have h2 : hi.map ρ = hi.map ρ' := opt_congr_operands fun x hx => h x (by simp at hx ⊢; simp [hx])
    have h3 : mx.map ρ = mx.map ρ' := opt_congr_operands fun x hx => h x (by simp at hx ⊢; simp [hx])
    simp only [h0, h1, h2, h3]
  | binOp op t x y ty =>
    rw [hop] at h
    simp only [h x (by simp [Op.operands]), h y (by simp [Op.operands])]
  | _ => first | rfl | (rw [hop] at h; simp_all [Op.operands]; done)

end Go.Vc
