import Derived.Test.YtlcjphbjddbgkaaVc
set_option linter.unusedSimpArgs false
set_option linter.unusedVariables false
namespace Go.Vc

/-! ### blocks of the walk's own -/
def splice {α : Type} : Nat → List α → List α → List α
  | _, _, [] => []
  | n + 1, vs, c :: cs => c :: splice n vs cs
  | 0, [], c :: cs => c :: cs
  | 0, v :: vs, _ :: cs => v :: splice 0 vs cs
theorem splice_map {α β : Type} (f : α → β) : ∀ (n : Nat) (vs cs : List α), (splice n vs cs).map f = splice n (vs.map f) (cs.map f)
  | _, _, [] => by simp [splice]
  | n + 1, vs, c :: cs => by simp [splice, splice_map f n vs cs]
  | 0, [], c :: cs => by simp [splice]
  | 0, v :: vs, c :: cs => by simp [splice, splice_map f 0 vs cs]
theorem splice_nil {α : Type} : ∀ (n : Nat) (cs : List α), splice n [] cs = cs
  | _, [] => by simp [splice]
  | n + 1, c :: cs => by simp [splice, splice_nil n cs]
  | 0, c :: cs => by simp [splice]
theorem splice_set {α : Type} : ∀ (n : Nat) (v : α) (vs cs : List α), n < cs.length → splice n (v :: vs) cs = splice (n + 1) vs (cs.set n v)
  | n, v, vs, [], h => by simp at h
  | n + 1, v, vs, c :: cs, h => by simp only [splice, List.set_cons_succ]; rw [splice_set n v vs cs (by simpa using h)]
  | 0, v, vs, c :: cs, h => by simp [splice]
theorem splice_mem {α : Type} {x : α} : ∀ (n : Nat) (vs cs : List α), x ∈ splice n vs cs → x ∈ vs ∨ x ∈ cs
  | _, _, [], h => by simp [splice] at h
  | n + 1, vs, c :: cs, h => by
    simp only [splice, List.mem_cons] at h
    rcases h with h | h
    · exact .inr (by simp [h])
    · rcases splice_mem n vs cs h with h | h
      · exact .inl h
      · exact .inr (by simp [h])
  | 0, [], c :: cs, h => by simp only [splice] at h; exact .inr h
  | 0, v :: vs, c :: cs, h => by
    simp only [splice, List.mem_cons] at h
    rcases h with h | h
    · exact .inl (by simp [h])
    · rcases splice_mem 0 vs cs h with h | h
      · exact .inl (by simp [h])
      · exact .inr (by simp [h])

theorem Sat.get {I : Imm} {own : List Blk} {F : Heap} {w : World} (h : Sat I (blks own ++ F) w) {i : Nat} {b : Blk} (hi : own[i]? = some b) : w.heap[b.num]? = some b.obj :=
  h.own _ _ (List.mem_append_left _ (List.mem_map.2 ⟨b, List.mem_of_getElem? hi, rfl⟩))

theorem setCell_heap {w : World} {b : Nat} {cs : List Value} {e : Nat} (h : w.heap[b]? = some (.cells cs.toArray e (0, 0))) (n : Nat) (v : Value) :
    (w.setCell ⟨b, n, none⟩ v).heap = w.heap.setIfInBounds b (.cells (cs.set n v).toArray e (0, 0)) := by
  apply Array.ext_getElem?
  intro j
  simp only [World.setCell, Array.getElem?_modify, Array.getElem?_setIfInBounds]
  have hlt : b < w.heap.size := by
    rcases Nat.lt_or_ge b w.heap.size with h' | h'
    · exact h'
    · simp [Array.getElem?_eq_none h'] at h
  by_cases hb : b = j
  · subst hb
    obtain ⟨_, hg⟩ := Array.getElem?_eq_some_iff.1 h
    simp [hlt, hg]
  · simp [hb]

def oneB : Value → Bool
  | .agg _ => false
  | .tuple _ => false
  | _ => true
theorem storeCells_run {P : Program} {b e : Nat} : ∀ (vs : List Value) (i off : Nat) (cs : List Value) (w : World), w.heap[b]? = some (.cells cs.toArray e (0, 0)) →
    off + i + vs.length ≤ cs.length → (∀ v ∈ vs, oneB v = true) →
    ∃ w', (storeCells ⟨b, off, none⟩ vs i).run P w = .ok () w' ∧ w'.heap = w.heap.setIfInBounds b (.cells (splice (off + i) vs cs).toArray e (0, 0)) ∧ SameEnv w' w
  | [], i, off, cs, w, h, _, _ => by
    refine ⟨w, rfl, ?_, rfl, rfl⟩
    rw [splice_nil]
    apply Array.ext_getElem?
    intro j
    rw [Array.getElem?_setIfInBounds]
    by_cases hb : b = j
    · subst hb
      have hlt : b < w.heap.size := by
        rcases Nat.lt_or_ge b w.heap.size with h' | h'
        · exact h'
        · simp [Array.getElem?_eq_none h'] at h
      obtain ⟨_, hg⟩ := Array.getElem?_eq_some_iff.1 h
      simp [hlt, hg]
    · simp [hb]
  | v :: vs, i, off, cs, w, h, hl, hv => by
    have hone := hv v (by simp)
    have ha : (⟨b, off, none⟩ : Addr).add i = ⟨b, off + i, none⟩ := by unfold Addr.add; split <;> simp_all
    have hoi : off + i < cs.length := by simp at hl; omega
    have hc : w.cell? ⟨b, off + i, none⟩ = some cs[off + i] := by
      unfold World.cell?
      simp [h, hoi]
    have hf : w.frozen? ⟨b, off + i, none⟩ = false := by unfold World.frozen?; simp [h]
    have hst : ∀ k : Sem Unit, (Sem.store .plain ⟨b, off + i, none⟩ v k).run P w = k.run P (w.setCell ⟨b, off + i, none⟩ v) := by
      intro k
      cases v <;> simp only [oneB, Bool.false_eq_true] at hone <;> simp [Sem.run, hc, hf]
    have hlen : off + i + 1 + vs.length ≤ cs.length := by simp at hl; omega
    have hs := setCell_heap h (off + i) v
    have hlt : b < w.heap.size := by
      rcases Nat.lt_or_ge b w.heap.size with h' | h'
      · exact h'
      · simp [Array.getElem?_eq_none h'] at h
    obtain ⟨w', hr, hh, he⟩ := storeCells_run (P := P) (b := b) (e := e) vs (i + 1) off (cs.set (off + i) v) (w.setCell ⟨b, off + i, none⟩ v)
      (by rw [hs]; simp [hlt]) (by simp; omega) (fun x hx => hv x (by simp [hx]))
    refine ⟨w', ?_, ?_, he.1, he.2⟩
    · simp only [storeCells, ha, store]
      show ((Sem.store .plain ⟨b, off + i, none⟩ v (.pure ())) >>= fun _ => storeCells ⟨b, off, none⟩ vs (i + 1)).run P w = _
      rw [Sem.run_bind, hst]
      simp only [Sem.run, Result.andThen_ok]
      exact hr
    · rw [hh, hs, splice_set _ _ _ _ (by omega)]
      apply Array.ext_getElem?
      intro j
      simp only [Array.getElem?_setIfInBounds, Array.size_setIfInBounds]
      by_cases hb : b = j
      · subst hb; simp [hlt, Nat.add_assoc]
      · simp [hb]

/-! ### a value out of an own block -/
def wLoadOwn (P : Program) (t : TypeId) (own : List Blk) (i off : Nat) (K : AV → Prop) : Prop :=
  match own[i]? with
  | none => False
  | some blk =>
    match aggB P t with
    | none => False
    | some false =>
      match blk.cells[off]? with
      | some av => K av
      | none => False
    | some true =>
      match szB P t with
      | none => False
      | some n => cond (((blk.cells.drop off).take n).length == n) (K (.a (.v (.agg (((blk.cells.drop off).take n).map AV.g).toArray)))) False
theorem own_cell {w : World} {b : Blk} (h : w.heap[b.num]? = some b.obj) (j : Nat) : w.cell? ⟨b.num, j, none⟩ = (b.cells[j]?).map AV.g := by
  simp [World.cell?, h, Blk.obj]
theorem wLoadOwn_out {P : Program} {t : TypeId} {own : List Blk} {i off : Nat} {K : AV → Prop} (h : wLoadOwn P t own i off K) :
    ∃ av, K av ∧ (∀ own', (∀ blk : Blk, own[i]? = some blk → ∀ c ∈ blk.cells, AV.wf own' c) → av.wf own') ∧
      ∀ (b : Nat), At.wf own (.p i b off) → ∀ w : World, (∀ blk : Blk, own[i]? = some blk → w.heap[blk.num]? = some blk.obj) → (loadVar t ⟨b, off, none⟩).run P w = .ok av.g w := by
  unfold wLoadOwn at h
  cases hi : own[i]? with
  | none => rw [hi] at h; exact h.elim
  | some blk =>
    rw [hi] at h
    have hnum : ∀ b, At.wf own (.p i b off) → blk.num = b := fun b hw => by
      simp only [At.wf, hi, Option.map_some, Option.some.injEq] at hw; exact hw
    simp only at h
    split at h
    · exact h.elim
    · rename_i ha
      split at h
      · rename_i av hc
        refine ⟨av, h, fun own' hc' => hc' blk rfl _ (List.mem_of_getElem? hc), fun b hw w hs => ?_⟩
        rw [← hnum b hw]
        exact loadVar_one ha (by rw [own_cell (hs _ rfl), hc]; rfl)
      · exact h.elim
    · rename_i ha
      split at h
      · exact h.elim
      · rename_i n hn
        cases hl : (((blk.cells.drop off).take n).length == n) with
        | false => rw [hl] at h; exact h.elim
        | true =>
          rw [hl] at h
          refine ⟨_, h, fun _ _ => trivial, fun b hw w hs => ?_⟩
          rw [← hnum b hw]
          refine loadVar_agg ha hn (by simpa using hl) (fun j hj => ?_)
          have : (⟨blk.num, off, none⟩ : Addr).add j = ⟨blk.num, off + j, none⟩ := by unfold Addr.add; split <;> simp_all
          rw [this, own_cell (hs _ rfl)]
          simp [List.getElem?_take, hj, List.getElem?_drop]

/-! ### all operations that only compute and read -/
def S.ats (σ : S) : List Operand → Option (List At)
  | [] => some []
  | x :: r => match σ.ev x, σ.ats r with
    | some (.a y), some l => some (y :: l)
    | _, _ => none
theorem S.ats_eval {σ : S} {a : Act} (h : RelT σ a) : ∀ {l : List Operand} {ys : List At}, σ.ats l = some ys →
    l.map a.eval = ys.map At.g
  | [], ys, e => by simp only [S.ats, Option.some.injEq] at e; subst e; simp
  | x :: r, ys, e => by
    simp only [S.ats] at e
    split at e
    · rename_i y l hx hr
      cases e
      simp [S.ev_evalT h hx, S.ats_eval h hr, AV.g]
    · cases e
theorem S.ats_wf {σ : S} {own : List Blk} (h : WfT σ own) : ∀ {l : List Operand} {ys : List At}, σ.ats l = some ys → ∀ y ∈ ys, y.wf own
  | [], ys, e, y, hy => by simp only [S.ats, Option.some.injEq] at e; subst e; cases hy
  | x :: r, ys, e, z, hz => by
    simp only [S.ats] at e
    split at e
    · rename_i y l hx hr
      cases e
      rcases List.mem_cons.1 hz with rfl | hz
      · exact S.ev_wfT h hx
      · exact S.ats_wf h hr z hz
    · cases e

/-- a comparison that is no comparison of numbers, bools or strings: what it comes to is told beside it -/
def BinRun (P : Program) (op : BinOp) (t : TypeId) (x y : Operand) (v u : Value) (r : Bool) : Prop :=
  ∀ w, (do eqGuard op t x y v u; binOp op t v u : Sem Value).run P w = .ok (.bool r) w
theorem cond_out' {b : Bool} {X : Prop} (h : cond b X False) : b = true ∧ X := by
  cases b with
  | true => exact ⟨rfl, h⟩
  | false => exact h.elim
def isEqOp : BinOp → Bool
  | .eql => true
  | .neq => true
  | _ => false
def wBin (P : Program) (o : Oper) (op : BinOp) (t : TypeId) (x y : Operand) (σ : S) (K : AV → Prop) : Prop :=
  match op, y, σ.ev x, σ.ev y with
  | .add, _, some (.a (.v (.string s))), some (.a (.v (.string u))) => ((s.size + u.size : Nat) : Int) ≤ IntKind.i64.max ∧ K (.a (.v (.string (s ++ u))))
  | .quo, .tmp _, some (.a (.v (.int k a))), some (.a (.v (.int k' b))) => cond (k == k') (b ≠ 0 ∧ K (.a (.v (.int k (k.wrap (a.tdiv b)))))) False
  | .rem, .tmp _, some (.a (.v (.int k a))), some (.a (.v (.int k' b))) => cond (k == k') (b ≠ 0 ∧ K (.a (.v (.int k (a.tmod b))))) False
  | .shl, .tmp _, some (.a (.v (.int k a))), some (.a (.v (.int _ b))) => 0 ≤ b ∧ K (.a (.v (.int k (k.wrap (a * 2 ^ (min b.toNat k.bits))))))
  | .shr, .tmp _, some (.a (.v (.int k a))), some (.a (.v (.int _ b))) => 0 ≤ b ∧ K (.a (.v (.int k (a.fdiv (2 ^ (min b.toNat k.bits))))))
  | _, _, _, _ =>
  match isEqOp op, P.underlying t with
  | true, some (.struct _) => cond (σ.knows [x, y]) (∃ b : Bool, BinRun P op t x y (σ.cv x) (σ.cv y) b ∧ K (.a (.v (.bool b)))) False
  | true, some (.array _ _) => cond (σ.knows [x, y]) (∃ b : Bool, BinRun P op t x y (σ.cv x) (σ.cv y) b ∧ K (.a (.v (.bool b)))) False
  | true, some (.interface _) => cond (σ.knows [x, y]) (∃ b : Bool, BinRun P op t x y (σ.cv x) (σ.cv y) b ∧ K (.a (.v (.bool b)))) False
  | true, some (.pointer _) => cond (σ.knows [x, y]) (∃ b : Bool, BinRun P op t x y (σ.cv x) (σ.cv y) b ∧ K (.a (.v (.bool b)))) False
  | true, some (.slice _) => cond (σ.knows [x, y]) (∃ b : Bool, BinRun P op t x y (σ.cv x) (σ.cv y) b ∧ K (.a (.v (.bool b)))) False
  | true, some (.map _ _) => cond (σ.knows [x, y]) (∃ b : Bool, BinRun P op t x y (σ.cv x) (σ.cv y) b ∧ K (.a (.v (.bool b)))) False
  | true, some (.func _ _ _) => cond (σ.knows [x, y]) (∃ b : Bool, BinRun P op t x y (σ.cv x) (σ.cv y) b ∧ K (.a (.v (.bool b)))) False
  | _, _ => wGen P o σ K
theorem wBin_out {P : Program} {o : Oper} {op : BinOp} {t ty : TypeId} {x y : Operand} (ho : o.op = .binOp op t x y ty) {σ : S} {K : AV → Prop} (h : wBin P o op t x y σ K) :
    Out P o σ K := by
  have key : cond (σ.knows [x, y]) (∃ b : Bool, BinRun P op t x y (σ.cv x) (σ.cv y) b ∧ K (.a (.v (.bool b)))) False →
      Out P o σ K := by
    intro h
    cases hk : σ.knows [x, y] with
    | false => rw [hk] at h; exact h.elim
    | true =>
      rw [hk] at h
      obtain ⟨b, hb, hK⟩ := h
      refine ⟨_, hK, fun _ _ => trivial, fun a w hr => ?_⟩
      have e1 := S.knows_evalT hr hk x (by simp)
      have e2 := S.knows_evalT hr hk y (by simp)
      have := hb w
      simp only [execOp, ho, e1, e2]
      rw [Sem.run_bind, this]
      rfl
  have int2 : ∀ {av : AV} {k k' : IntKind} {p q : Int} {v : Value}, σ.ev x = some (.a (.v (.int k p))) → σ.ev y = some (.a (.v (.int k' q))) → K (.a (.v v)) → 
      (∀ w, (do eqGuard op t x y (.int k p) (.int k' q); binOp op t (.int k p) (.int k' q) : Sem Value).run P w = .ok v w) → Out P o σ K := by
    intro av k k' p q v hx hy hk hrun
    refine ⟨_, hk, fun _ _ => trivial, fun a w hr => ?_⟩
    have e1 := S.ev_evalT hr hx
    have e2 := S.ev_evalT hr hy
    simp only [AV.g, At.g] at e1 e2
    simp only [execOp, ho, e1, e2]
    rw [Sem.run_bind, hrun w]
    rfl
  unfold wBin at h
  split at h
  · rename_i s u hx hy
    obtain ⟨hle, hk⟩ := h
    refine ⟨_, hk, fun _ _ => trivial, fun a w hr => ?_⟩
    have e1 := S.ev_evalT hr hx
    have e2 := S.ev_evalT hr hy
    simp only [AV.g, At.g] at e1 e2
    simp only [execOp, ho, e1, e2]
    have hm : IntKind.i64.max = 9223372036854775807 := by decide
    rw [hm] at hle
    simp [eqGuard, binOp, Op.stringOp, AV.g, At.g]
    omega
  · rename_i k p k' q hx hy
    obtain ⟨hkk, hne, hk⟩ := cond_out' h
    have : k = k' := by simpa using hkk
    subst this
    exact int2 (av := .a (.v undef)) hx hy hk fun w => by simp [eqGuard, binOp, Op.intDiv, hne]
  · rename_i k p k' q hx hy
    obtain ⟨hkk, hne, hk⟩ := cond_out' h
    have : k = k' := by simpa using hkk
    subst this
    exact int2 (av := .a (.v undef)) hx hy hk fun w => by simp [eqGuard, binOp, Op.intDiv, hne]
  · rename_i k p k' q hx hy
    obtain ⟨hne, hk⟩ := h
    exact int2 (av := .a (.v undef)) hx hy hk fun w => by simp [eqGuard, binOp, Op.shift, show ¬ q < 0 by omega]
  · rename_i k p k' q hx hy
    obtain ⟨hne, hk⟩ := h
    exact int2 (av := .a (.v undef)) hx hy hk fun w => by simp [eqGuard, binOp, Op.shift, show ¬ q < 0 by omega]
  · split at h <;> first | exact key h | exact wGen_out h

/-- 'hid': a block that may not be read here; G: what may be read beside the blocks of the walk's own -/
def wPureD (P : Program) (shp : Nat → List Sh) (o : Oper) (σ : S) (I : Imm) (G : Heap) (hid : List Nat) (K : AV → Prop) : Prop :=
  match o.op with
  | .move x => match σ.ev x with
    | some av => K av
    | none => False
  | .assign x => match σ.ev x with
    | some av => K av
    | none => False
  | .index t x i => wIndex P o t x i σ K
  | .slice t x lo hi none => wSlice P o t x lo hi σ K
  | .indexAddr t x i => wIndexAddr P o t x i σ K
  | .fieldAddr t x f => wFieldAddr P t x f σ K
  | .binOp op t x y _ => wBin P o op t x y σ K
  | .nilCheck x => match σ.ev x with
    | some (.a (.p i b off)) => K (.a (.p i b off))
    | some (.a (.v (.pointer oa))) => ∃ ad, oa = some ad ∧ K (.a (.v (.pointer (some ad))))
    | some (.f fn first cap) => K (.f fn first cap)
    | _ => wGen P o σ K
  | .load t x => match σ.ev x with
    | some (.a (.p i _ off)) => cond (hid.contains i) False (wLoadOwn P t σ.own i off K)
    | some (.a (.v (.pointer (some ad)))) => match shp t with
      | [sh] => wLoad P sh t ad I G fun v => K (.a (.v v))
      | _ => False
    | _ => False
  | .makeFunc (.func fn) first cap => match σ.ats first.toList, σ.ats cap.toList with
    | some l, some r => K (.f fn l r)
    | _, _ => False
  | _ => wGen P o σ K
def wPure (P : Program) (shp : Nat → List Sh) (o : Oper) (σ : S) (I : Imm) (F : Heap) (K : AV → Prop) : Prop :=
  wPureD P shp o σ I (blks σ.own ++ F) [] K

/-- what the operation yields, in every world that fits -/
structure YieldsD (P : Program) (o : Oper) (σ : S) (I : Imm) (G : Heap) (hid : List Nat) (av : AV) : Prop where
  wf : ∀ own, WfT σ own → (∀ (i : Nat) (b : Blk), σ.own[i]? = some b → ∀ c ∈ b.cells, AV.wf own c) → av.wf own
  run : ∀ a w, RelT σ a → WfT σ σ.own → (∀ (i : Nat) (b : Blk), σ.own[i]? = some b → hid.contains i = false → w.heap[b.num]? = some b.obj) → Reads I G w →
    (execOp a.eval o).run P w = .ok (.value av.g) w

theorem wPureD_out {P : Program} {shp : Nat → List Sh} {o : Oper} {σ : S} {I : Imm} {G : Heap} {hid : List Nat} {K : AV → Prop} (h : wPureD P shp o σ I G hid K) :
    ∃ av, K av ∧ YieldsD P o σ I G hid av := by
  unfold wPureD at h
  have gen : Out P o σ K → ∃ av, K av ∧ YieldsD P o σ I G hid av := fun ⟨av, hk, hw, hy⟩ => ⟨av, hk, fun own h _ => hw own h, fun a w hr _ _ _ => hy a w hr⟩
  split at h
  · rename_i x ho
    split at h
    · rename_i av hx
      exact ⟨av, h, fun own hw _ => S.ev_wfT hw hx, fun a w hr _ _ _ => by simp [execOp, ho, S.ev_evalT hr hx]⟩
    · exact h.elim
  · rename_i x ho
    split at h
    · rename_i av hx
      exact ⟨av, h, fun own hw _ => S.ev_wfT hw hx, fun a w hr _ _ _ => by simp [execOp, ho, S.ev_evalT hr hx]⟩
    · exact h.elim
  · rename_i t x i ho; exact gen (wIndex_out ho h)
  · rename_i t x lo hi ho; exact gen (wSlice_out ho h)
  · rename_i t x i ho; exact gen (wIndexAddr_out ho h)
  · rename_i t x f ho; exact gen (wFieldAddr_out ho h)
  · rename_i op t x y ty ho; exact gen (wBin_out ho h)
  · rename_i x ho
    split at h
    · rename_i i b off hx
      exact ⟨_, h, fun own hw _ => S.ev_wfT hw hx, fun a w hr _ _ _ => by simp [execOp, ho, S.ev_evalT hr hx, AV.g, At.g]⟩
    · rename_i oa hx
      obtain ⟨ad, rfl, h⟩ := h
      exact ⟨_, h, fun own hw _ => trivial, fun a w hr _ _ _ => by simp [execOp, ho, S.ev_evalT hr hx, AV.g, At.g]⟩
    · rename_i fn first cap hx
      exact ⟨_, h, fun own hw _ => S.ev_wfT hw hx, fun a w hr _ _ _ => by simp [execOp, ho, S.ev_evalT hr hx, AV.g, At.g]⟩
    · exact gen (wGen_out h)
  · rename_i t x ho
    split at h
    · rename_i i b off hx
      cases hc : hid.contains i with
      | true => rw [hc] at h; exact h.elim
      | false =>
        rw [hc] at h
        simp only [cond_false] at h
        obtain ⟨av, hk, hw, hl⟩ := wLoadOwn_out h
        refine ⟨av, hk, fun own hwt hwo => hw own fun blk hb => hwo i blk hb, fun a w hr hwf ho' _ => ?_⟩
        have := hl b (S.ev_wfT hwf hx) w fun blk hb => ho' i blk hb hc
        simp [execOp, ho, S.ev_evalT hr hx, AV.g, At.g, Instr.loadAt, Instr.sureAddr, this]
    · rename_i ad hx
      split at h
      · rename_i sh hsh
        obtain ⟨v, hk, hl⟩ := wLoad_out h
        refine ⟨_, hk, fun own hw _ => trivial, fun a w hr _ _ hrd => ?_⟩
        have := hl w hrd
        simp [execOp, ho, S.ev_evalT hr hx, AV.g, At.g, Instr.loadAt, Instr.sureAddr, this]
      · exact h.elim
    · exact h.elim
  · rename_i fn first cap ho
    split at h
    · rename_i l r hl hr'
      refine ⟨_, h, fun own hw _ => ⟨S.ats_wf hw hl, S.ats_wf hw hr'⟩, fun a w hr _ _ _ => ?_⟩
      have e1 := S.ats_eval hr hl
      have e2 := S.ats_eval hr hr'
      have f1 : first.map a.eval = (l.map At.g).toArray := by rw [← e1]; apply Array.ext'; simp
      have f2 : cap.map a.eval = (r.map At.g).toArray := by rw [← e2]; apply Array.ext'; simp
      simp [execOp, ho, Instr.makeFunc, f1, f2, AV.g]
    · exact h.elim
  · exact gen (wGen_out h)

end Go.Vc
