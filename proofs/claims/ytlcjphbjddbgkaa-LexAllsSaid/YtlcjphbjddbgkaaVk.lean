import Derived.Test.YtlcjphbjddbgkaaVf
import Derived.OrdersIn
import Derived.TacticsIn
set_option linter.unusedSimpArgs false
set_option linter.unusedVariables false
namespace Go.Vc

/-! ### a region whose order is drawn: every order comes to what the order of the text comes to -/
def waits (ops : Array Oper) (i j : Nat) : Bool :=
  match ops[i]? with
  | some o => o.after.toList.any fun e => Region.binds .any e && e.on == j
  | none => false
/-- i waits for j, over a few others -/
def waitsT (ops : Array Oper) : Nat → Nat → Nat → Bool
  | 0, i, j => waits ops i j
  | f + 1, i, j => waits ops i j || (match ops[i]? with
    | some o => o.after.toList.any fun e => Region.binds .any e && (decide (j < e.on) && waitsT ops f e.on j)
    | none => false)
def wr (ops : Array Oper) (i j : Nat) : Bool := waitsT ops 3 i j
/-- the temporaries that an operation looks at -/
def tmpsOf : List Operand → List Nat
  | [] => []
  | .tmp t :: r => t :: tmpsOf r
  | _ :: r => tmpsOf r
def looks (ops : Array Oper) (o : Oper) : List Nat :=
  tmpsOf o.op.operands.toList ++ match o.guard with
    | some (j, _) => ((ops[j]?).bind Oper.dst).toList
    | none => []
def noSel : Op → Bool
  | .select .. => false
  | _ => true
def dsts0 (l : List Oper) : List Nat := l.filterMap Oper.dst
/-- who writes what an operation looks at stands ahead of it, or behind it; places are written once; edges lead back -/
def nodupB : List Nat → Bool
  | [] => true
  | x :: r => !r.contains x && nodupB r
def pairB (ops : Array Oper) (i : Nat) (o : Oper) : Nat → List Oper → Bool
  | _, [] => true
  | j, p :: r => (match p.dst with
    | some t => !((looks ops o).contains t) || j == i || cond (decide (j < i)) (waits ops i j) (waits ops j i)
    | none => true) && pairB ops i o (j + 1) r
def allB (ops : Array Oper) (l : List Oper) : Nat → List Oper → Bool
  | _, [] => true
  | i, o :: r => noSel o.op && (o.after.toList.all fun e => !(Region.binds .any e) || decide (e.on < i)) && pairB ops i o 0 l && allB ops l (i + 1) r
def drawB (ops : Array Oper) : Bool := nodupB (dsts0 ops.toList) && allB ops ops.toList 0 ops.toList

theorem nodupB_get : ∀ {l : List Oper}, nodupB (dsts0 l) = true → ∀ {i j : Nat} {o p : Oper} {t : Nat}, l[i]? = some o → l[j]? = some p → o.dst = some t → p.dst = some t → i = j
  | [], _, i, j, o, p, t, hi, _, _, _ => by simp at hi
  | q :: l, h, i, j, o, p, t, hi, hj, ho, hp => by
    have hsub : ∀ {k : Nat} {r : Oper}, l[k]? = some r → r.dst = some t → t ∈ dsts0 l := fun hk hr => List.mem_filterMap.2 ⟨_, List.mem_of_getElem? hk, hr⟩
    have hl : nodupB (dsts0 l) = true := by
      unfold dsts0 at h ⊢; rw [List.filterMap_cons] at h; split at h
      · exact h
      · simp only [nodupB, Bool.and_eq_true] at h; exact h.2
    have hq : q.dst = some t → t ∉ dsts0 l := fun e => by
      unfold dsts0 at h ⊢; rw [List.filterMap_cons, e] at h
      simp only [nodupB, Bool.and_eq_true, Bool.not_eq_true'] at h
      intro hm; have := h.1; simp at this; exact absurd hm (by simpa [dsts0] using this)
    cases i with
    | zero =>
      simp only [List.getElem?_cons_zero, Option.some.injEq] at hi; subst hi
      cases j with
      | zero => rfl
      | succ j => exact absurd (hsub (by simpa using hj) hp) (hq ho)
    | succ i =>
      cases j with
      | zero => simp only [List.getElem?_cons_zero, Option.some.injEq] at hj; subst hj; exact absurd (hsub (by simpa using hi) ho) (hq hp)
      | succ j => exact congrArg (· + 1) (nodupB_get hl (i := i) (j := j) (by simpa using hi) (by simpa using hj) ho hp)
theorem pairB_get {ops : Array Oper} {i : Nat} {o : Oper} : ∀ {l : List Oper} {k : Nat}, pairB ops i o k l = true → ∀ {j : Nat} {p : Oper} {t : Nat}, l[j]? = some p → p.dst = some t → t ∈ looks ops o →
    k + j = i ∨ (k + j < i ∧ waits ops i (k + j) = true) ∨ (i < k + j ∧ waits ops (k + j) i = true)
  | [], k, _, j, p, t, hj, _, _ => by simp at hj
  | q :: l, k, h, j, p, t, hj, hp, ht => by
    simp only [pairB, Bool.and_eq_true] at h
    cases j with
    | zero =>
      simp only [List.getElem?_cons_zero, Option.some.injEq] at hj; subst hj
      have h1 := h.1
      rw [hp] at h1
      simp only [Bool.or_eq_true, Bool.not_eq_true', List.contains_eq_mem, decide_eq_false_iff_not, beq_iff_eq] at h1
      rcases h1 with (h1 | h1) | h1
      · exact absurd ht h1
      · exact .inl (by omega)
      · by_cases hlt : k < i
        · have e : decide (k < i) = true := decide_eq_true hlt
          rw [e] at h1; exact .inr (.inl ⟨by omega, h1⟩)
        · have e : decide (k < i) = false := decide_eq_false hlt
          rw [e] at h1
          by_cases he : k = i
          · exact .inl (by omega)
          · exact .inr (.inr ⟨by omega, h1⟩)
    | succ j =>
      have := pairB_get h.2 (j := j) (by simpa using hj) hp ht
      rwa [show k + 1 + j = k + (j + 1) by omega] at this
theorem allB_get {ops : Array Oper} {l : List Oper} : ∀ {m : List Oper} {k : Nat}, allB ops l k m = true → ∀ {i : Nat} {o : Oper}, m[i]? = some o →
    noSel o.op = true ∧ (∀ e ∈ o.after, Region.binds .any e = true → e.on < k + i) ∧ pairB ops (k + i) o 0 l = true
  | [], k, _, i, o, hi => by simp at hi
  | q :: m, k, h, i, o, hi => by
    simp only [allB, Bool.and_eq_true] at h
    cases i with
    | zero =>
      simp only [List.getElem?_cons_zero, Option.some.injEq] at hi; subst hi
      refine ⟨h.1.1.1, fun e he hb => ?_, h.1.2⟩
      have := List.all_eq_true.1 h.1.1.2 e (by simpa using he)
      simp only [hb, Bool.not_true, Bool.false_or, decide_eq_true_eq] at this
      omega
    | succ i =>
      have := allB_get h.2 (i := i) (by simpa using hi)
      rwa [show k + 1 + i = k + (i + 1) by omega] at this

/-- what an operation's run comes to: this value, and a world of this class -/
def Comes1 (P : Program) (v : Value) (C : World → Prop) : Result Next → Prop
  | .ok (.value u) w' => u = v ∧ C w'
  | .ok .skip w' => v = undef ∧ C w'
  | .ok (.enter f args) w' => Calls P f args w' fun e w'' => e = .returned v ∧ C w''
  | _ => False

/-- the acts in the order of the text -/
def actAt (a : Act) : List Oper → List Value → Nat → Act
  | o :: l, v :: vs, n + 1 => actAt (a.put o.dst v) l vs n
  | _, _, _ => a
theorem put_defers (a : Act) (d : Option Nat) (v : Value) : (a.put d v).defers = a.defers := by cases d <;> rfl
theorem put_size (a : Act) (d : Option Nat) (v : Value) : (a.put d v).tmps.size = a.tmps.size := by cases d <;> simp [Act.put]
theorem actAt_size : ∀ (l : List Oper) (vs : List Value) (n : Nat) (a : Act), (actAt a l vs n).tmps.size = a.tmps.size ∧ (actAt a l vs n).defers = a.defers
  | o :: l, v :: vs, n + 1, a => by
    have := actAt_size l vs n (a.put o.dst v)
    simp only [actAt]; exact ⟨this.1.trans (put_size _ _ _), this.2.trans (put_defers _ _ _)⟩
  | [], vs, n, a => by simp [actAt]
  | o :: l, [], n, a => by simp [actAt]
  | o :: l, v :: vs, 0, a => by simp [actAt]
/-- what stands in a place, in the order of the text -/
theorem actAt_get : ∀ (l : List Oper) (vs : List Value) (n : Nat) (a : Act) (t : Nat), vs.length = l.length → nodupB (dsts0 l) = true →
    (∀ (j : Nat) (o : Oper), l[j]? = some o → o.dst = some t → (actAt a l vs n).tmps[t]? = if j < n then (if t < a.tmps.size then vs[j]? else none) else a.tmps[t]?) ∧
    ((∀ (j : Nat) (o : Oper), l[j]? = some o → o.dst ≠ some t) → (actAt a l vs n).tmps[t]? = a.tmps[t]?)
  | [], vs, n, a, t, hl, _ => by
    have : actAt a [] vs n = a := by cases vs <;> cases n <;> rfl
    exact ⟨fun j o hj => by simp at hj, fun _ => by rw [this]⟩
  | o :: l, [], n, a, t, hl, _ => by simp at hl
  | o :: l, v :: vs, 0, a, t, hl, _ => ⟨fun j p hj hp => by simp [actAt], fun _ => by simp [actAt]⟩
  | o :: l, v :: vs, n + 1, a, t, hl, hd => by
    have hdl : nodupB (dsts0 l) = true := by
      unfold dsts0 at hd ⊢; rw [List.filterMap_cons] at hd; split at hd
      · exact hd
      · simp only [nodupB, Bool.and_eq_true] at hd; exact hd.2
    obtain ⟨h1, h2⟩ := actAt_get l vs n (a.put o.dst v) t (by simpa using hl) hdl
    simp only [actAt]
    constructor
    · intro j p hj hp
      cases j with
      | zero =>
        simp only [List.getElem?_cons_zero, Option.some.injEq] at hj; subst hj
        have hnone : ∀ (k : Nat) (q : Oper), l[k]? = some q → q.dst ≠ some t := fun k q hk hq => by
          have := nodupB_get hd (i := 0) (j := k + 1) (by simp) (by simpa using hk) hp hq
          omega
        rw [h2 hnone, hp]
        by_cases hs : t < a.tmps.size <;> simp [Act.put, Array.getElem?_setIfInBounds, hs]
      | succ j =>
        have := h1 j p (by simpa using hj) hp
        rw [this]
        have hne : o.dst ≠ some t := fun ho => by
          have := nodupB_get hd (i := 0) (j := j + 1) (by simp) hj ho hp
          omega
        have hput : (a.put o.dst v).tmps[t]? = a.tmps[t]? := by
          cases ho : o.dst with
          | none => rfl
          | some d =>
            have : d ≠ t := fun e => hne (by rw [ho, e])
            simp [Act.put, Array.getElem?_setIfInBounds, this]
        simp only [put_size, hput, List.getElem?_cons_succ, Nat.add_lt_add_iff_right]
    · intro hno
      rw [h2 fun k q hk => hno (k + 1) q (by simpa using hk)]
      cases ho : o.dst with
      | none => rfl
      | some d =>
        have : d ≠ t := fun e => hno 0 o (by simp) (by rw [ho, e])
        simp [Act.put, Array.getElem?_setIfInBounds, this]

theorem looks_eval {ops : Array Oper} {o : Oper} {a b : Act} (h : ∀ t ∈ looks ops o, a.tmps[t]? = b.tmps[t]?) : (∀ x ∈ o.op.operands.toList, a.eval x = b.eval x) ∧
    Region.wanted o (yielded ops a.tmps) = Region.wanted o (yielded ops b.tmps) := by
  constructor
  · intro x hx
    cases x with
    | tmp t =>
      have hm : t ∈ tmpsOf o.op.operands.toList := by
        generalize o.op.operands.toList = l at hx
        induction l with
        | nil => cases hx
        | cons y r ih =>
          rcases List.mem_cons.1 hx with rfl | hx2
          · simp [tmpsOf]
          · have h3 := ih hx2
            cases y <;> simp only [tmpsOf] <;> first | exact List.mem_cons_of_mem _ h3 | exact h3
      have := h t (List.mem_append_left _ hm)
      simp [Act.eval, this]
    | _ => rfl
  · unfold Region.wanted
    cases hg : o.guard with
    | none => rfl
    | some jb =>
      obtain ⟨j, b'⟩ := jb
      simp only
      have : yielded ops a.tmps j = yielded ops b.tmps j := by
        unfold yielded
        cases hd : (ops[j]?).bind Oper.dst with
        | none => rfl
        | some d =>
          have := h d (List.mem_append_right _ (by simp [hg, hd]))
          simp [this]
      rw [this]

def cnt : List Bool → Nat
  | [] => 0
  | true :: r => cnt r
  | false :: r => cnt r + 1
theorem cnt_set : ∀ (l : List Bool) (i : Nat), l[i]? = some false → cnt (l.set i true) + 1 = cnt l
  | [], i, h => by simp at h
  | b :: l, 0, h => by simp at h; subst h; simp [cnt]
  | b :: l, i + 1, h => by
    have := cnt_set l i (by simpa using h)
    cases b <;> simp [cnt] <;> omega
theorem cnt_zero : ∀ (l : List Bool), cnt l = 0 → ∀ i, i < l.length → l[i]? = some true
  | [], _, i, h => by simp at h
  | true :: l, h, 0, _ => rfl
  | true :: l, h, i + 1, hi => by simpa using cnt_zero l h i (by simpa using hi)
  | false :: l, h, i, _ => by simp [cnt] at h
theorem cnt_replicate (n : Nat) : cnt (List.replicate n false) = n := by
  induction n with
  | zero => rfl
  | succ n ih => simp [List.replicate_succ, cnt, ih]

/-- rounds of a range over a function, or none -/
def Fw (ro : Option Nat) : Fence := { Fence.wide with round := ro }
theorem upon_fw {P : Program} {o : Oper} {a : Act} {next : Act → World → Prop} {Q : Exit → Act → World → Prop} {res : Result Next} (ro : Option Nat) (h : o.uponIn Fence.wide 0 P a next Q res) : o.uponIn (Fw ro) 0 P a next Q res := by
  cases res with
  | halt x w' => cases x <;> exact h
  | ok n w' => cases n <;> exact h
theorem wpIn_of {P : Program} {o : Oper} {a : Act} {w : World} {next : Act → World → Prop} {Q : Exit → Act → World → Prop} {ro : Option Nat} (ho : ro = none ∨ ∀ c, o.op ≠ .defer c) (h : wpW P o a w next Q) : o.wpIn (Fw ro) 0 P a w next Q := by
  refine ⟨fun _ _ => trivial, ?_⟩
  have e : o.semAt (Fw ro).round a.eval = execOp a.eval o := by
    rcases ho with rfl | ho
    · rfl
    · exact Oper.semAt_eq ro a.eval o ho
  rw [e]
  exact upon_fw ro h
theorem comes_nodefer {P : Program} {v : Value} {C : World → Prop} {ρ : Operand → Value} {o : Oper} {w : World} (h : Comes1 P v C ((execOp ρ o).run P w)) : ∀ c, o.op ≠ .defer c := by
  intro c ho
  have e : execOp ρ o = (do pure (.defer (← resolve ρ c o.type)) : Sem Next) := by simp only [execOp, ho]
  rw [e, Sem.run_bind] at h
  cases hr : (resolve ρ c o.type).run P w with
  | ok d w' => rw [hr] at h; simp only [Result.andThen_ok, Sem.run_pure, Comes1] at h
  | halt x w' => rw [hr] at h; exact h

/-- 'n': the one operation that may turn the world (none, where n is their number); C b: the worlds behind it (b) or ahead of it -/
theorem draw_core {P : Program} {ops : Array Oper} {id n : Nat} {ro : Option Nat} {C : Bool → World → Prop} {Q : Exit → Act → World → Prop} {a : Act} {w : World} (hm : P.follows .mixedOrders = true) (hB : drawB ops = true)
    (vs : List Value) (hvl : vs.length = ops.size)
    (hop : ∀ (i : Nat) (o : Oper) (v : Value), ops[i]? = some o → vs[i]? = some v →
      if Region.wanted o (yielded ops (actAt a ops.toList vs i).tmps) then
        ∀ b w, C b w → (b = true → i ≠ n ∧ wr ops n i = false) → (i = n → b = false) → (b = false → wr ops i n = false) → Comes1 P v (C (b || i == n)) ((execOp (actAt a ops.toList vs i).eval o).run P w)
      else v = undef ∧ i ≠ n)
    (hw : C false { w with drawn := w.drawn + 1 }) (hQ : ∀ w', C (decide (n < ops.size)) w' → Q .normal (actAt a ops.toList vs ops.size) w') : (Code.region id ops true).wpIn (Fw ro) 0 P Q a w := by
  simp only [drawB, Bool.and_eq_true] at hB
  obtain ⟨hnd, hall⟩ := hB
  have key : ∀ (fuel : Nat) (listed : Array Bool) (a' : Act) (w' : World), listed.size = ops.size → cnt listed.toList = fuel →
      (∀ (j : Nat) (o : Oper), ops[j]? = some o → listed[j]? = some true → ∀ e ∈ o.after, Region.binds .any e = true → listed[e.on]? = some true) →
      a'.tmps.size = a.tmps.size → a'.defers = a.defers →
      (∀ (j : Nat) (o : Oper) (t : Nat), ops[j]? = some o → o.dst = some t → a'.tmps[t]? = if listed[j]? = some true then (if t < a.tmps.size then vs[j]? else none) else a.tmps[t]?) →
      (∀ (t : Nat), (∀ (j : Nat) (o : Oper), ops[j]? = some o → o.dst ≠ some t) → a'.tmps[t]? = a.tmps[t]?) →
      C (listed.getD n false) w' → wpAnyIn (Fw ro) 0 P .any ops Q fuel listed a' w' := by
    intro fuel
    induction fuel with
    | zero =>
      intro listed a' w' hsz hc hcl hs hd ht1 ht2 hCw
      have hon : ∀ i, i < ops.size → listed[i]? = some true := fun i hi => by
        have := cnt_zero _ hc i (by simpa [hsz] using hi)
        simpa using this
      have hact : a' = actAt a ops.toList vs ops.size := by
        obtain ⟨e1, e2⟩ := actAt_size ops.toList vs ops.size a
        have : a'.tmps = (actAt a ops.toList vs ops.size).tmps := by
          apply Array.ext_getElem?
          intro t
          obtain ⟨g1, g2⟩ := actAt_get ops.toList vs ops.size a t (by simpa using hvl) hnd
          by_cases hex : ∃ (j : Nat) (o : Oper), ops[j]? = some o ∧ o.dst = some t
          · obtain ⟨j, o, hj, ho⟩ := hex
            have hlt : j < ops.size := by
              rcases Nat.lt_or_ge j ops.size with h | h
              · exact h
              · simp [Array.getElem?_eq_none h] at hj
            rw [ht1 j o t hj ho, if_pos (hon j hlt), g1 j o (by simpa using hj) ho, if_pos hlt]
          · have hno : ∀ (j : Nat) (o : Oper), ops[j]? = some o → o.dst ≠ some t := fun j o hj ho => hex ⟨j, o, hj, ho⟩
            rw [ht2 t hno, g2 fun j o hj => hno j o (by simpa using hj)]
        have h2 : a'.defers = (actAt a ops.toList vs ops.size).defers := hd.trans e2.symm
        cases a'; simp only at this h2; subst this; subst h2; rfl
      refine ⟨?_, ?_⟩
      · cases hr : Region.ready .any ops listed with
        | nil => rfl
        | cons i r =>
          have : i ∈ Region.ready .any ops listed := by rw [hr]; exact List.mem_cons_self ..
          obtain ⟨h1, o, ho, _⟩ := mem_ready.1 this
          have hlt : i < ops.size := by
            rcases Nat.lt_or_ge i ops.size with h | h
            · exact h
            · simp [Array.getElem?_eq_none h] at ho
          have := hon i hlt
          simp [Array.getD_eq_getD_getElem?, this] at h1
      · rw [hact]
        refine hQ w' ?_
        have : listed.getD n false = decide (n < ops.size) := by
          by_cases hn : n < ops.size
          · simp [Array.getD_eq_getD_getElem?, hon n hn, hn]
          · rw [Array.getD_eq_getD_getElem?, Array.getElem?_eq_none (by omega)]; simp [hn]
        rw [← this]; exact hCw
    | succ fuel ih =>
      intro listed a' w' hsz hc hcl hs hd ht1 ht2 hCw
      have hone : ∃ i, i ∈ Region.ready .any ops listed := by
        -- the least that is not listed
        have hex : ∃ i, i < ops.size ∧ listed[i]? = some false := by
          refine Classical.byContradiction fun hno => ?_
          have : ∀ (l : List Bool), (∀ i, i < l.length → l[i]? ≠ some false) → cnt l = 0 := by
            intro l
            induction l with
            | nil => intro _; rfl
            | cons b l ih' =>
              intro h
              cases b with
              | true => exact ih' fun i hi => by simpa using h (i + 1) (by simpa using hi)
              | false => exact absurd rfl (h 0 (by simp))
          have h0 := this listed.toList fun i hi hf => hno ⟨i, by simpa [hsz] using hi, by simpa using hf⟩
          omega
        have hmin : ∀ m i, i ≤ m → i < ops.size → listed[i]? = some false → ∃ k, k < ops.size ∧ listed[k]? = some false ∧ ∀ j, j < k → listed[j]? = some true := by
          intro m
          induction m with
          | zero => intro i h1 h2 h3; exact ⟨i, h2, h3, fun j hj => by omega⟩
          | succ m ihm =>
            intro i h1 h2 h3
            by_cases hall' : ∀ j, j < i → listed[j]? = some true
            · exact ⟨i, h2, h3, hall'⟩
            · obtain ⟨j, hj⟩ := Classical.not_forall.1 hall'
              obtain ⟨hji, hjn⟩ := Classical.not_imp.1 hj
              have hjs : j < listed.size := by omega
              have : listed[j]? = some false := by
                rw [Array.getElem?_eq_getElem hjs] at hjn ⊢
                cases hb : listed[j] with
                | true => rw [hb] at hjn; exact absurd rfl hjn
                | false => rfl
              exact ihm j (by omega) (by omega) this
        obtain ⟨i, hi, hf⟩ := hex
        obtain ⟨k, hk, hkf, hkall⟩ := hmin i i (Nat.le_refl _) hi hf
        refine ⟨k, mem_ready.2 ⟨by simp [Array.getD_eq_getD_getElem?, hkf], ops[k], by simp [hk], fun e he hb => ?_⟩⟩
        have := (allB_get hall (i := k) (o := ops[k]) (by simp [hk])).2.1 e he hb
        have := hkall e.on (by omega)
        simp [Array.getD_eq_getD_getElem?, this]
      refine ⟨fun h0 => (by obtain ⟨i, hi⟩ := hone; rw [h0] at hi; cases hi), fun i hi => ?_⟩
      obtain ⟨hun, o, ho, hall'⟩ := mem_ready.1 hi
      have hlt : i < ops.size := by
        rcases Nat.lt_or_ge i ops.size with h | h
        · exact h
        · simp [Array.getElem?_eq_none h] at ho
      have hun' : listed[i]? = some false := by
        have hjs : i < listed.size := by omega
        rw [Array.getElem?_eq_getElem hjs]
        simp [Array.getD_eq_getD_getElem?, hjs] at hun
        rw [hun]
      obtain ⟨v, hv⟩ : ∃ v, vs[i]? = some v := ⟨vs[i], by simp [hvl, hlt]⟩
      obtain ⟨hsel, hback, hpair⟩ := allB_get hall (i := i) (o := o) (by simpa using ho)
      rw [Nat.zero_add] at hback hpair
      have hwait : ∀ j, waits ops i j = true → listed[j]? = some true := fun j hj => by
        unfold waits at hj
        rw [ho] at hj
        obtain ⟨e, he, hb⟩ := List.any_eq_true.1 hj
        simp only [Bool.and_eq_true, beq_iff_eq] at hb
        have := hall' e (by simpa using he) hb.1
        rw [hb.2] at this
        have hjs : j < listed.size := by
          rcases Nat.lt_or_ge j listed.size with h | h
          · exact h
          · simp [Array.getD_eq_getD_getElem?, Array.getElem?_eq_none h] at this
        simp [Array.getD_eq_getD_getElem?, hjs] at this
        simp [hjs, this]
      have hwait' : ∀ j p, ops[j]? = some p → waits ops j i = true → listed[j]? ≠ some true := fun j p hp hj hon => by
        unfold waits at hj
        rw [hp] at hj
        obtain ⟨e, he, hb⟩ := List.any_eq_true.1 hj
        simp only [Bool.and_eq_true, beq_iff_eq] at hb
        have := hcl j p hp hon e (by simpa using he) hb.1
        rw [hb.2, hun'] at this
        cases this
      have hedge : ∀ (f j k : Nat) (p : Oper), ops[j]? = some p → waitsT ops f j k = true → listed[j]? = some true → listed[k]? = some true := by
        intro f
        induction f with
        | zero =>
          intro j k p hp hw hon
          unfold waitsT waits at hw
          rw [hp] at hw
          obtain ⟨e, he, hb⟩ := List.any_eq_true.1 hw
          simp only [Bool.and_eq_true, beq_iff_eq] at hb
          have := hcl j p hp hon e (by simpa using he) hb.1
          rwa [hb.2] at this
        | succ f ihf =>
          intro j k p hp hw hon
          unfold waitsT at hw
          rw [Bool.or_eq_true] at hw
          rcases hw with hw | hw
          · unfold waits at hw
            rw [hp] at hw
            obtain ⟨e, he, hb⟩ := List.any_eq_true.1 hw
            simp only [Bool.and_eq_true, beq_iff_eq] at hb
            have := hcl j p hp hon e (by simpa using he) hb.1
            rwa [hb.2] at this
          · rw [hp] at hw
            obtain ⟨e, he, hb⟩ := List.any_eq_true.1 hw
            simp only [Bool.and_eq_true] at hb
            have hon' := hcl j p hp hon e (by simpa using he) hb.1
            have hes : e.on < ops.size := by
              rcases Nat.lt_or_ge e.on ops.size with h | h
              · exact h
              · rw [Array.getElem?_eq_none (by omega)] at hon'; cases hon'
            exact ihf e.on k ops[e.on] (by simp [hes]) hb.2.2 hon'
      have hwaitT : ∀ j, wr ops i j = true → listed[j]? = some true := fun j hj => by
        unfold wr waitsT at hj
        rw [Bool.or_eq_true] at hj
        rcases hj with hj | hj
        · exact hwait j hj
        · rw [ho] at hj
          obtain ⟨e, he, hb⟩ := List.any_eq_true.1 hj
          simp only [Bool.and_eq_true] at hb
          have hon : listed[e.on]? = some true := hwait e.on (by
            unfold waits; rw [ho]
            exact List.any_eq_true.2 ⟨e, he, by simp [hb.1]⟩)
          have hes : e.on < ops.size := by
            rcases Nat.lt_or_ge e.on ops.size with h | h
            · exact h
            · rw [Array.getElem?_eq_none (by omega)] at hon; cases hon
          exact hedge 2 e.on j ops[e.on] (by simp [hes]) hb.2.2 hon
      have hwaitT' : ∀ j p, ops[j]? = some p → wr ops j i = true → listed[j]? ≠ some true := fun j p hp hj hon => by
        have := hedge 3 j i p hp hj hon
        rw [hun'] at this; cases this
      have hlook : ∀ t ∈ looks ops o, a'.tmps[t]? = (actAt a ops.toList vs i).tmps[t]? := by
        intro t htl
        obtain ⟨g1, g2⟩ := actAt_get ops.toList vs i a t (by simpa using hvl) hnd
        by_cases hex : ∃ (j : Nat) (p : Oper), ops[j]? = some p ∧ p.dst = some t
        · obtain ⟨j, p, hj, hp⟩ := hex
          rw [ht1 j p t hj hp, g1 j p (by simpa using hj) hp]
          rcases pairB_get hpair (j := j) (p := p) (by simpa using hj) hp htl with h | h | h
          · rw [Nat.zero_add] at h
            subst h
            rw [if_neg (by rw [hun']; simp), if_neg (by omega)]
          · rw [Nat.zero_add] at h
            rw [if_pos (hwait j h.2), if_pos h.1]
          · rw [Nat.zero_add] at h
            rw [if_neg (hwait' j p hj h.2), if_neg (by omega)]
        · have hno : ∀ (j : Nat) (p : Oper), ops[j]? = some p → p.dst ≠ some t := fun j p hj hp => hex ⟨j, p, hj, hp⟩
          rw [ht2 t hno, g2 fun j p hj => hno j p (by simpa using hj)]
      obtain ⟨hev, hwant⟩ := looks_eval hlook
      have hcong : execOp a'.eval o = execOp (actAt a ops.toList vs i).eval o := execOp_congr o (fun cs b e => by rw [e] at hsel; cases hsel) hev
      have hstep := hop i o v ho hv
      rw [← hwant, ← hcong] at hstep
      -- the state behind the operation
      have hnext : ∀ w'', C (listed.getD n false || i == n) w'' → wpAnyIn (Fw ro) 0 P .any ops Q fuel (listed.setIfInBounds i true) (a'.put o.dst v) w'' := by
        intro w'' hC
        have hset : ∀ j, (listed.setIfInBounds i true)[j]? = if i = j then some true else listed[j]? := fun j => by
          rw [Array.getElem?_setIfInBounds]
          by_cases hij : i = j
          · subst hij; simp [show i < listed.size by omega]
          · simp [hij]
        refine ih _ _ _ (by simp [hsz]) ?_ ?_ ((put_size _ _ _).trans hs) ((put_defers _ _ _).trans hd) ?_ ?_ ?_
        · have := cnt_set listed.toList i (by simpa using hun')
          simp only [Array.toList_setIfInBounds]
          omega
        · intro j p hj hon e he hb
          rw [hset] at hon ⊢
          by_cases hij : i = j
          · subst hij
            rw [ho] at hj; cases hj
            have := hall' e he hb
            split
            · rfl
            · have hes : e.on < listed.size := by
                rcases Nat.lt_or_ge e.on listed.size with h | h
                · exact h
                · simp [Array.getD_eq_getD_getElem?, Array.getElem?_eq_none h] at this
              simp [Array.getD_eq_getD_getElem?, hes] at this
              simp [hes, this]
          · rw [if_neg hij] at hon
            split
            · rfl
            · exact hcl j p hj hon e he hb
        · intro j p t hj hp
          rw [hset]
          by_cases hij : i = j
          · subst hij
            rw [ho] at hj; cases hj
            rw [if_pos rfl, if_pos rfl, hp, hv]
            by_cases hts : t < a.tmps.size <;> simp [Act.put, Array.getElem?_setIfInBounds, hs, hts]
          · rw [if_neg hij, ← ht1 j p t hj hp]
            have hne : o.dst ≠ some t := fun h => hij (nodupB_get hnd (by simpa using ho) (by simpa using hj) h hp)
            cases hd' : o.dst with
            | none => rfl
            | some d =>
              have : d ≠ t := fun e => hne (by rw [hd', e])
              simp [Act.put, Array.getElem?_setIfInBounds, this]
        · intro t hno
          rw [← ht2 t hno]
          have hne := hno i o ho
          cases hd' : o.dst with
          | none => rfl
          | some d =>
            have : d ≠ t := fun e => hne (by rw [hd', e])
            simp [Act.put, Array.getElem?_setIfInBounds, this]
        · have : (listed.setIfInBounds i true).getD n false = (listed.getD n false || i == n) := by
            simp only [Array.getD_eq_getD_getElem?, hset]
            by_cases hin : i = n
            · subst hin; simp
            · simp [hin]
          rw [this]; exact hC
      unfold wpOpIn
      simp only [ho]
      split
      · rename_i hw'
        rw [if_pos hw'] at hstep
        have hcom := hstep _ w' hCw (fun hb => by
          refine ⟨fun e => ?_, ?_⟩
          · subst e; simp [Array.getD_eq_getD_getElem?, hun'] at hb
          · cases hwn : wr ops n i with
            | false => rfl
            | true =>
              have hnl : n < listed.size := by
                rcases Nat.lt_or_ge n listed.size with h | h
                · exact h
                · simp [Array.getD_eq_getD_getElem?, Array.getElem?_eq_none h] at hb
              have : ops[n]? = some ops[n] := by simp [show n < ops.size by omega]
              have := hwaitT' n _ this hwn
              simp [Array.getD_eq_getD_getElem?, hnl] at hb
              simp [hnl, hb] at this) (fun e => by subst e; simp [Array.getD_eq_getD_getElem?, hun']) (fun hb => by
            cases hwn : wr ops i n with
            | false => rfl
            | true =>
              have := hwaitT n hwn
              simp [Array.getD_eq_getD_getElem?, this] at hb)
        refine wpIn_of (.inr (comes_nodefer hcom)) (upon_in ?_)
        revert hcom
        generalize (execOp a'.eval o).run P w' = res
        intro hcom
        cases res with
        | ok nx w2 =>
          cases nx <;> simp only [Comes1] at hcom <;> simp only [Oper.upon] <;> first | exact hcom.elim | skip
          · rw [hcom.1]; exact hnext _ hcom.2
          · have := hnext _ hcom.2; rw [hcom.1] at this; exact this
          · exact hcom.mono fun e w3 ⟨he, hC⟩ => by subst he; exact hnext _ hC
        | halt x w2 => simp only [Comes1] at hcom
      · rename_i hw'
        rw [if_neg hw'] at hstep
        refine ⟨fun _ _ => trivial, ?_⟩
        rw [← hstep.1]
        refine hnext w' ?_
        have : (i == n) = false := by simpa using hstep.2
        rw [this, Bool.or_false]; exact hCw
  refine wpIn_region_any hm (key ops.size _ a _ (by simp) (by simp [cnt_replicate]) ?_ rfl rfl ?_ (fun _ _ => rfl) ?_)
  · intro j o hj hon; simp only [Array.getElem?_replicate] at hon; split at hon <;> simp at hon
  · intro j o t hj ho
    rw [if_neg]
    simp only [Array.getElem?_replicate]; split <;> simp
  · have : (Array.replicate ops.size false).getD n false = false := by
      simp only [Array.getD_eq_getD_getElem?, Array.getElem?_replicate]; split <;> rfl
    rw [this]; exact hw

end Go.Vc
