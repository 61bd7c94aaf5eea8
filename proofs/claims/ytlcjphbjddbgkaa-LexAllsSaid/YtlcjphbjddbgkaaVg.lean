import Derived.Test.YtlcjphbjddbgkaaVk
set_option linter.unusedSimpArgs false
set_option linter.unusedVariables false
namespace Go.Vc

def want (ops : Array Oper) (σ : S) (o : Oper) : Option Bool :=
  match o.guard with
  | none => some true
  | some (j, b) =>
    match (ops[j]?).bind Oper.dst with
    | some d => match σ.tm[d]? with
      | some (some (.a (.v (.bool t)))) => some (t == b)
      | some (some (.a (.v (.tuple _)))) => some false
      | _ => none
    | none => none
theorem want_out {ops : Array Oper} {σ : S} {o : Oper} {b : Bool} (h : want ops σ o = some b) {a : Act} (hr : RelT σ a) :
    Region.wanted o (yielded ops a.tmps) = b := by
  unfold want at h
  unfold Region.wanted
  split at h
  · rename_i hg; simp only [Option.some.injEq] at h; subst h; simp [hg]
  · rename_i j b' hg
    split at h
    · rename_i d hd
      split at h
      · rename_i t ht
        simp only [Option.some.injEq] at h
        have := hr.tm d _ ht
        simp only [AV.g, At.g] at this
        simp only [hg, yielded, hd, Option.bind_some, this]
        rw [← h]; cases t <;> cases b' <;> rfl
      · rename_i ts ht
        simp only [Option.some.injEq] at h
        have := hr.tm d _ ht
        simp only [AV.g, At.g] at this
        simp only [hg, yielded, hd, Option.bind_some, this]
        rw [← h]; cases b' <;> rfl
      · cases h
    · cases h

def wOps (P : Program) (A : Ann) (rid : Nat) (ops : Array Oper) : List Oper → Nat → S → Imm → Heap →
    (S → Imm → Heap → Prop) → (List PanicEntry → S → Imm → Heap → Prop) → Prop
  | [], _, σ, I, F, K, _ => K σ I F
  | o :: r, i, σ, I, F, K, Kp =>
    match want ops σ o with
    | some true => wOp P A rid i o σ I F (fun σ' I' F' => wOps P A rid ops r (i + 1) σ' I' F' K Kp) Kp
    | some false => wOps P A rid ops r (i + 1) (σ.put o.dst (some (.a (.v undef)))) I F K Kp
    | none => False

/-- in a region whose order is drawn: what waits for the one operation that turns the world may read all -/
def fr (ops : Array Oper) (n i : Nat) : Bool := decide (ops.size ≤ n) || wr ops n i
def allWait (ops : Array Oper) (n : Nat) : Bool := (n + 1 == ops.size) && (List.range ops.size).all fun k => k == n || wr ops n k
def wStoreD (P : Program) (ops : Array Oper) (n : Nat) (hid : List Nat) (o : Oper) (σ : S) (F : Heap) (K : S → Heap → Prop) : Prop :=
  match o.op with
  | .store t x y => match σ.ev x, σ.ev y with
    | some (.a (.p j _ off)), some av =>
      match σ.own[j]?, szB P t with
      | some blk, some z =>
        cond (hid.contains j && (!blk.ro && av.cells.length == z && decide (off + z ≤ blk.cells.length)))
          (cond (av.cells.all fun c => oneB c.g)
            (K (({ σ with own := σ.own.set j { blk with cells := splice off av.cells blk.cells } } : S).put o.dst none) F) False) False
      | _, _ => False
    | some (.a (.v (.pointer (some ad)))), some av =>
      cond (allWait ops n && (szB P t == some av.cells.length && av.cells.all fun c => oneB c.g))
        (∃ (cs : List Value) (e : Nat) (F0 : Heap), F.Perm ((ad.block, Obj.cells cs.toArray e (0, 0)) :: F0) ∧ ad.spot = none ∧ ad.off + av.cells.length ≤ cs.length ∧
          K (σ.put o.dst none) ((ad.block, Obj.cells (splice ad.off (av.cells.map AV.g) cs).toArray e (0, 0)) :: F0)) False
    | _, _ => False
  | _ => False
def wOpD (P : Program) (A : Ann) (ops : Array Oper) (n : Nat) (hid : List Nat) (i : Nat) (o : Oper) (σ : S) (I : Imm) (F : Heap) (K : AV → Prop) : Prop :=
  match o.op with
  | .call c => match c.callee with
    | .value f => cond (σ.knows c.args.toList)
      (match σ.ev f with
        | some (.f fn [] []) => cond (A.good fn) (exRes (A.shp o.type) fun v =>
            (∀ X : Heap, Tri P fn (c.args.map σ.cv) I X fun e I' G => e = .returned v ∧ G.Perm X) ∧ K (.a (.v v))) False
        | _ => False) False
    | _ => wPureD P A.shp o σ I (cond (fr ops n i) (blks σ.own ++ F) F) (cond (fr ops n i) [] hid) K
  | _ => wPureD P A.shp o σ I (cond (fr ops n i) (blks σ.own ++ F) F) (cond (fr ops n i) [] hid) K
/-- a region whose order is drawn -/
def wD (P : Program) (A : Ann) (rid : Nat) (ops : Array Oper) (n : Nat) (hid : List Nat) : List Oper → Nat → S → Imm → Heap → (S → Heap → Prop) → Prop
  | [], _, σ, _, F, K => K σ F
  | o :: r, i, σ, I, F, K =>
    match want ops σ o with
    | some true => cond (i == n) (wStoreD P ops n hid o σ F fun σ' F' => wD P A rid ops n hid r (i + 1) σ' I F' K)
        (wOpD P A ops n hid i o σ I F fun av => wFin A rid i o.dst av σ fun σ' => wD P A rid ops n hid r (i + 1) σ' I F K)
    | some false => cond (i == n) False (wD P A rid ops n hid r (i + 1) (σ.put o.dst (some (.a (.v undef)))) I F K)
    | none => False

def dsts (l : List Oper) : List Nat := l.filterMap Oper.dst
structure Keep (l : List Nat) (σ : S) (a : Act) (σ' : S) (a' : Act) : Prop where
  own : KeepO σ σ'
  tm : ∀ t, t ∉ l → a'.tmps[t]? = a.tmps[t]?
  size : a'.tmps.size = a.tmps.size
theorem Keep.refl (l : List Nat) (σ : S) (a : Act) : Keep l σ a σ a := ⟨KeepO.refl _, fun _ _ => rfl, rfl⟩
theorem Keep.trans {l : List Nat} {σ σ' σ'' : S} {a a' a'' : Act} (h : Keep l σ a σ' a') (k : Keep l σ' a' σ'' a'') : Keep l σ a σ'' a'' :=
  ⟨h.own.trans k.own, fun t ht => (k.tm t ht).trans (h.tm t ht), k.size.trans h.size⟩
theorem Keep.mono {l l' : List Nat} {σ σ' : S} {a a' : Act} (h : Keep l σ a σ' a') (hl : ∀ t ∈ l, t ∈ l') : Keep l' σ a σ' a' :=
  ⟨h.own, fun t ht => h.tm t fun hm => ht (hl t hm), h.size⟩
theorem Keep.put' {σ σ' : S} {a a' : Act} (h : KeepO σ σ') (d : Option Nat) (v : Value) (l : List Nat) (hd : ∀ t, d = some t → t ∈ l) (e : a'.tmps = (a.put d v).tmps) : Keep l σ a σ' a' := by
  refine ⟨h, fun t ht => ?_, ?_⟩
  · rw [e]
    cases d with
    | none => rfl
    | some d =>
      have : d ≠ t := fun e => ht (e ▸ hd d rfl)
      simp [Act.put, Array.getElem?_setIfInBounds, this]
  · rw [e]; cases d <;> simp [Act.put]
theorem Keep.put {σ σ' : S} {a : Act} (h : KeepO σ σ') (d : Option Nat) (v : Value) (l : List Nat) (hd : ∀ t, d = some t → t ∈ l) : Keep l σ a σ' (a.put d v) := by
  refine ⟨h, fun t ht => ?_, ?_⟩
  · cases d with
    | none => rfl
    | some d =>
      have : d ≠ t := fun e => ht (e ▸ hd d rfl)
      simp [Act.put, Array.getElem?_setIfInBounds, this]
  · cases d <;> simp [Act.put]

section sound
variable {P : Program} {A : Ann} {rid : Nat} {ops : Array Oper}

def noDef : Op → Bool
  | .defer _ => false
  | _ => true
theorem wOps_sound {ro : Option Nat} (hP : ∀ f, A.good f = true → Enters P f) {K : S → Imm → Heap → Prop} {Kp : List PanicEntry → S → Imm → Heap → Prop} {Q : Exit → Act → World → Prop} :
    ∀ (l : List Oper) (i : Nat) (σ : S) (I : Imm) (F : Heap) (a : Act) (w : World), (ro = none ∨ l.all (fun o => noDef o.op) = true) → wOps P A rid ops l i σ I F K Kp → Rel σ I F a w →
      (∀ σ' I' F' a' w', Rel σ' I' F' a' w' → Imm.le I I' → K σ' I' F' → Keep (dsts l) σ a σ' a' → Q .normal a' w') →
      (∀ ch σ' I' F' a' w', Rel σ' I' F' a' w' → Imm.le I I' → Kp ch σ' I' F' → Keep (dsts l) σ a σ' a' → Q (.panic ch) a' w') →
      wpListIn (Fw ro) 0 P ops Q l a w
  | [], i, σ, I, F, a, w, _, h, hr, hN, _ => hN σ I F a w hr (Imm.le_refl I) h (Keep.refl _ _ _)
  | o :: r, i, σ, I, F, a, w, hnd, h, hr, hN, hX => by
    simp only [wOps] at h
    have hnd1 : ro = none ∨ ∀ c, o.op ≠ .defer c := hnd.imp id fun h c e => by
      simp only [List.all_cons, Bool.and_eq_true] at h
      rw [e] at h; simp [noDef] at h
    have hnd2 : ro = none ∨ r.all (fun o => noDef o.op) = true := hnd.imp id fun h => by
      simp only [List.all_cons, Bool.and_eq_true] at h
      exact h.2
    have hsub : ∀ t ∈ dsts r, t ∈ dsts (o :: r) := fun t ht => by
      unfold dsts at *; rw [List.filterMap_cons]; split
      · exact ht
      · exact List.mem_cons_of_mem _ ht
    have hd : ∀ t, o.dst = some t → t ∈ dsts (o :: r) := fun t ht => by
      unfold dsts; rw [List.filterMap_cons, ht]; exact List.mem_cons_self ..
    split at h
    · rename_i hw
      simp only [wpListIn, want_out hw hr.t, if_true]
      have hh := wOp_sound (Q := Q) hP h hr fun ch w' σ' I' F' h1 h2 h3 h4 =>
        hX ch σ' I' F' a w' h1 h2 h3 ⟨h4, fun _ _ => rfl, rfl⟩
      refine wpIn_of hnd1 ?_
      unfold wpW at hh ⊢
      revert hh
      generalize (execOp a.eval o).run P w = res
      intro hh
      have step : ∀ a' w', Next1 o σ I a (fun σ' I' F' => wOps P A rid ops r (i + 1) σ' I' F' K Kp) a' w' → wpListIn (Fw ro) 0 P ops Q r a' w' := by
        intro a' w' ⟨σ', I', F', h1, h2, h3, h4, v, h5⟩
        have hk : Keep (dsts (o :: r)) σ a σ' a' := Keep.put' h4 _ _ _ hd h5
        exact wOps_sound hP r (i + 1) σ' I' F' _ w' hnd2 h3 h1
          (fun σ2 I2 F2 a2 w2 g1 g2 g3 g4 => hN σ2 I2 F2 a2 w2 g1 (Imm.le_trans h2 g2) g3 (hk.trans (g4.mono hsub)))
          (fun ch σ2 I2 F2 a2 w2 g1 g2 g3 g4 => hX ch σ2 I2 F2 a2 w2 g1 (Imm.le_trans h2 g2) g3 (hk.trans (g4.mono hsub)))
      cases res with
      | ok n w' =>
        cases n <;> simp only [Oper.uponIn] at hh ⊢ <;> first | exact step _ _ hh | exact hh.elim | skip
        · refine ⟨hh.1, hh.2.mono fun e w'' hq => ?_⟩
          cases e with
          | returned v => exact step _ _ hq
          | panicked ch => exact hq
          | outgrown => exact hq
        · refine ⟨hh.1, hh.2.mono fun e w'' hq => ?_⟩
          cases e with
          | returned v => exact step _ _ hq
          | panicked ch => exact hq
          | outgrown => exact hq
        · exact ⟨hh.1, hh.2.mono fun v w'' hq => step _ _ hq⟩
      | halt x w' => cases x <;> simp only [Oper.uponIn] at hh ⊢ <;> first | exact hh | exact hh.elim
    · rename_i hw
      simp only [wpListIn, want_out hw hr.t, Bool.false_eq_true, if_false]
      refine ⟨fun _ _ => trivial, ?_⟩
      have hk : Keep (dsts (o :: r)) σ a (σ.put o.dst (some (.a (.v undef)))) (a.put o.dst undef) := Keep.put (KeepO.put _ _ _) _ _ _ hd
      exact wOps_sound hP r (i + 1) _ I F _ w hnd2 h (hr.put o.dst (av := .a (.v undef)) rfl trivial)
        (fun σ2 I2 F2 a2 w2 g1 g2 g3 g4 => hN σ2 I2 F2 a2 w2 g1 g2 g3 (hk.trans (g4.mono hsub)))
        (fun ch σ2 I2 F2 a2 w2 g1 g2 g3 g4 => hX ch σ2 I2 F2 a2 w2 g1 g2 g3 (hk.trans (g4.mono hsub)))
    · exact h.elim

/-- temporaries, blocks: all that does not hang on the world -/
structure RelS (σ : S) (a : Act) : Prop where
  t : RelT σ a
  defers : a.defers = σ.df.map Df.d
  wft : WfT σ σ.own
  wfo : ∀ (i : Nat) (b : Blk), σ.own[i]? = some b → ∀ c ∈ b.cells, AV.wf σ.own c
theorem Rel.s {σ : S} {I : Imm} {F : Heap} {a : Act} {w : World} (h : Rel σ I F a w) : RelS σ a := ⟨h.t, h.defers, h.wft, h.wfo⟩
theorem RelS.rel {σ : S} {I : Imm} {F : Heap} {a : Act} {w : World} (h : RelS σ a) (hs : Sat I (blks σ.own ++ F) w) : Rel σ I F a w :=
  ⟨h.t.size, h.t.tm, h.defers, h.wft, h.wfo, hs⟩
theorem RelS.put {σ : S} {a : Act} (h : RelS σ a) (d : Option Nat) {av : AV} {v : Value} (hg : av.g = v) (hw : av.wf σ.own) : RelS (σ.put d (some av)) (a.put d v) := by
  cases d with
  | none => exact h
  | some d =>
    refine ⟨⟨by simp [S.put, Act.put, h.t.size], ?_⟩, h.defers, ?_, h.wfo⟩
    · intro t av' ht
      simp only [S.put, List.getElem?_set] at ht
      simp only [Act.put, Array.getElem?_setIfInBounds]
      by_cases hdt : d = t
      · subst hdt
        simp only [if_true] at ht ⊢
        split at ht
        · rename_i hlt; cases ht; rw [h.t.size] at hlt; simp [hlt, hg]
        · cases ht
      · simp only [if_neg hdt] at ht ⊢; exact h.t.tm t av' ht
    · intro t av' ht
      simp only [S.put, List.getElem?_set] at ht ⊢
      by_cases hdt : d = t
      · subst hdt
        simp only [if_true] at ht
        split at ht
        · cases ht; exact hw
        · cases ht
      · simp only [if_neg hdt] at ht; exact h.wft t av' ht
theorem RelS.forget {σ : S} {a : Act} (h : RelS σ a) (d : Option Nat) (v : Value) : RelS (σ.put d none) (a.put d v) := by
  cases d with
  | none => exact h
  | some d =>
    refine ⟨⟨by simp [S.put, Act.put, h.t.size], ?_⟩, h.defers, ?_, h.wfo⟩
    · intro t av' ht
      simp only [S.put, List.getElem?_set] at ht
      simp only [Act.put, Array.getElem?_setIfInBounds]
      by_cases hdt : d = t
      · subst hdt
        simp only [if_true] at ht
        split at ht <;> cases ht
      · simp only [if_neg hdt] at ht ⊢; exact h.t.tm t av' ht
    · intro t av' ht
      simp only [S.put, List.getElem?_set] at ht ⊢
      by_cases hdt : d = t
      · subst hdt
        simp only [if_true] at ht
        split at ht <;> cases ht
      · simp only [if_neg hdt] at ht; exact h.wft t av' ht
theorem RelS.own {σ : S} {a : Act} (h : RelS σ a) {own' : List Blk} (hs : Same σ.own own') (ho : ∀ (i : Nat) (b : Blk), own'[i]? = some b → ∀ c ∈ b.cells, AV.wf own' c) :
    RelS { σ with own := own' } a := ⟨⟨h.t.size, h.t.tm⟩, h.defers, fun t av ht => AV.wf_same hs (h.wft t av ht), ho⟩

/-- one operation but the one that turns the world: what it comes to in the worlds with these blocks, and in those where a hidden block is another -/
structure OpD (P : Program) (ops : Array Oper) (n i : Nat) (hid : List Nat) (o : Oper) (own : List Blk) (I : Imm) (F : Heap) (a : Act) (v : Value) : Prop where
  here : ∀ w, Sat I (blks own ++ F) w → Comes1 P v (fun w' => Sat I (blks own ++ F) w') ((execOp a.eval o).run P w)
  else_ : fr ops n i = false → ∀ (own' : List Blk) w, Sat I (blks own' ++ F) w → (∀ (j : Nat) (b : Blk), own[j]? = some b → hid.contains j = false → own'[j]? = some b) →
    Comes1 P v (fun w' => Sat I (blks own' ++ F) w') ((execOp a.eval o).run P w)
theorem wOpD_out (hP : ∀ f, A.good f = true → Enters P f) {n i : Nat} {hid : List Nat} {o : Oper} {σ : S} {I : Imm} {F : Heap} {K : AV → Prop} (h : wOpD P A ops n hid i o σ I F K) {a : Act} (hr : RelS σ a) :
    ∃ av : AV, K av ∧ av.wf σ.own ∧ OpD P ops n i hid o σ.own I F a av.g := by
  have pure_case : wPureD P A.shp o σ I (cond (fr ops n i) (blks σ.own ++ F) F) (cond (fr ops n i) [] hid) K → ∃ av : AV, K av ∧ av.wf σ.own ∧ OpD P ops n i hid o σ.own I F a av.g := by
    intro h
    obtain ⟨av, hk, hy⟩ := wPureD_out h
    refine ⟨av, hk, hy.wf σ.own hr.wft hr.wfo, fun w hs => ?_, fun hf own' w hs hag => ?_⟩
    · have hread : Reads I (cond (fr ops n i) (blks σ.own ++ F) F) w := by
        cases fr ops n i with
        | true => exact hs.reads
        | false => exact hs.drop.reads
      rw [hy.run a w hr.t hr.wft (fun j b hb _ => hs.get hb) hread]
      exact ⟨rfl, hs⟩
    · have hread : Reads I (cond (fr ops n i) (blks σ.own ++ F) F) w := by rw [hf]; exact hs.drop.reads
      rw [hy.run a w hr.t hr.wft (fun j b hb hh => hs.get (hag j b hb (by rw [hf] at hh; exact hh))) hread]
      exact ⟨rfl, hs⟩
  unfold wOpD at h
  split at h
  · rename_i c ho
    split at h
    · rename_i f hc
      obtain ⟨hk, h⟩ := cond_out h
      split at h
      · rename_i fn hf
        obtain ⟨hg, h⟩ := cond_out h
        obtain ⟨v, htri, hK⟩ := exRes_out h
        have hrun : ∀ w, (execOp a.eval o).run P w = .ok (.enter fn (c.args.map σ.cv)) w := fun w => by
          have ha : c.args.map a.eval = c.args.map σ.cv := map_congr_operands (S.knows_evalT hr.t hk)
          simp only [execOp, ho, resolve, hc, S.ev_evalT hr.t hf, AV.g, Deferred.ofValue, Sem.run_bind, Sem.run_pure, Result.andThen_ok, invoke, ha, List.map_nil]
          simpa using hP fn hg (c.args.map σ.cv) w
        have hX : ∀ X w, Sat I X w → Comes1 P v (fun w' => Sat I X w') ((execOp a.eval o).run P w) := fun X w hs => by
          rw [hrun w]
          exact (htri X w hs).mono fun e w' ⟨I', G, hle, hsat, he, hp⟩ => ⟨he, (hsat.perm hp).weaken hle⟩
        exact ⟨_, hK, trivial, fun w hs => hX _ w hs, fun _ own' w hs _ => hX _ w hs⟩
      · exact h.elim
    · exact pure_case h
  · exact pure_case h

/-- the part of a drawn region that stands behind the one that turns the world (or all of it, where there is none) -/
theorem wD_after (hP : ∀ f, A.good f = true → Enters P f) {n : Nat} {hid : List Nat} {I : Imm} {K : S → Heap → Prop} :
    ∀ (l : List Oper) (i : Nat) (σ : S) (F : Heap) (a : Act), (∀ k, k < l.length → i + k ≠ n) → wD P A rid ops n hid l i σ I F K → RelS σ a →
      ∃ (vs : List Value) (σ' : S), vs.length = l.length ∧ K σ' F ∧ RelS σ' (actAt a l vs l.length) ∧ σ'.own = σ.own ∧ Keep (dsts l) σ a σ' (actAt a l vs l.length) ∧
        ∀ (k : Nat) (o : Oper) (v : Value), l[k]? = some o → vs[k]? = some v →
          if Region.wanted o (yielded ops (actAt a l vs k).tmps) then OpD P ops n (i + k) hid o σ.own I F (actAt a l vs k) v else v = undef
  | [], i, σ, F, a, _, h, hr => ⟨[], σ, rfl, h, hr, rfl, Keep.refl _ _ _, fun k o v hk => by simp at hk⟩
  | o :: r, i, σ, F, a, hn, h, hr => by
    have hin : (i == n) = false := by have := hn 0 (by simp); simpa using this
    have hnext : ∀ k, k < r.length → i + 1 + k ≠ n := fun k hk => by have := hn (k + 1) (by simpa using hk); omega
    have hsub : ∀ t ∈ dsts r, t ∈ dsts (o :: r) := fun t ht => by
      unfold dsts at *; rw [List.filterMap_cons]; split
      · exact ht
      · exact List.mem_cons_of_mem _ ht
    have hd : ∀ t, o.dst = some t → t ∈ dsts (o :: r) := fun t ht => by
      unfold dsts; rw [List.filterMap_cons, ht]; exact List.mem_cons_self ..
    simp only [wD, hin, cond_false] at h
    split at h
    · rename_i hw
      obtain ⟨av, hf, hwf, hall⟩ := wOpD_out hP h hr
      obtain ⟨av', hg, hwf', hk⟩ := wFin_out hf
      obtain ⟨vs, σ', h1, h2, h3, h4, h5, h6⟩ := wD_after hP r (i + 1) _ F _ hnext hk (hr.put o.dst hg (hwf' hwf))
      rw [S.put_own] at h4 h6
      refine ⟨av.g :: vs, σ', by simp [h1], h2, h3, h4, (Keep.put (KeepO.put _ _ _) _ _ _ hd).trans (h5.mono hsub), fun k p v hk hv => ?_⟩
      cases k with
      | zero =>
        simp only [List.getElem?_cons_zero, Option.some.injEq] at hk hv
        subst hk; subst hv
        simp only [actAt, want_out hw hr.t, if_true]
        exact hall
      | succ k =>
        have := h6 k p v (by simpa using hk) (by simpa using hv)
        rwa [show i + 1 + k = i + (k + 1) by omega] at this
    · rename_i hw
      obtain ⟨vs, σ', h1, h2, h3, h4, h5, h6⟩ := wD_after hP r (i + 1) _ F _ hnext h (hr.put o.dst (av := .a (.v undef)) rfl trivial)
      rw [S.put_own] at h4 h6
      refine ⟨undef :: vs, σ', by simp [h1], h2, h3, h4, (Keep.put (KeepO.put _ _ _) _ _ _ hd).trans (h5.mono hsub), fun k p v hk hv => ?_⟩
      cases k with
      | zero =>
        simp only [List.getElem?_cons_zero, Option.some.injEq] at hk hv
        subst hk; subst hv
        simp only [actAt, want_out hw hr.t, Bool.false_eq_true, if_false]
      | succ k =>
        have := h6 k p v (by simpa using hk) (by simpa using hv)
        rwa [show i + 1 + k = i + (k + 1) by omega] at this
    · exact h.elim

/-- the one that turns the world -/
theorem wStoreD_out {n : Nat} {hid : List Nat} {o : Oper} {σ : S} {I : Imm} {F : Heap} {K : S → Heap → Prop} (h : wStoreD P ops n hid o σ F K) {a : Act} (hr : RelS σ a) :
    ∃ (σ' : S) (F' : Heap), K σ' F' ∧ RelS σ' (a.put o.dst undef) ∧ KeepO σ σ' ∧
      ((F' = F ∧ ∀ (j : Nat) (b : Blk), σ.own[j]? = some b → hid.contains j = false → σ'.own[j]? = some b) ∨ allWait ops n = true) ∧
      (allWait ops n = false → ∀ (j : Nat) (b : Blk), σ'.own[j]? = some b → hid.contains j = false → σ.own[j]? = some b) ∧
      ∀ w, Sat I (blks σ.own ++ F) w → Comes1 P undef (fun w' => Sat I (blks σ'.own ++ F') w') ((execOp a.eval o).run P w) := by
  unfold wStoreD at h
  split at h
  · rename_i t x y ho
    split at h
    · rename_i j b off av hx hy
      split at h
      · rename_i blk z hj hz
        obtain ⟨h1, h⟩ := cond_out h
        obtain ⟨h2, h⟩ := cond_out h
        rw [Bool.and_eq_true] at h1
        obtain ⟨hh, h1⟩ := h1
        have hro : blk.ro = false := by simp only [Bool.and_eq_true, Bool.not_eq_true'] at h1; exact h1.1.1
        obtain ⟨s1, s2, s3⟩ := store_own (x := x) (off := off) hr.wft hr.wfo hy hj hro
        have hne : ∀ k, hid.contains k = false → j ≠ k := fun k hk e => by subst e; rw [hh] at hk; cases hk
        refine ⟨_, F, h, (hr.own s1 s2).forget o.dst undef, s3.trans (KeepO.put _ _ _), .inl ⟨rfl, fun k b' hb hk => ?_⟩, fun _ k b' hb hk => ?_, fun w hs => ?_⟩
        · rw [S.put_own]
          show (σ.own.set j _)[k]? = _
          rw [List.getElem?_set_ne (hne k hk)]; exact hb
        · rw [S.put_own] at hb
          have hb' : (σ.own.set j { blk with cells := splice off av.cells blk.cells })[k]? = some b' := hb
          rw [List.getElem?_set_ne (hne k hk)] at hb'; exact hb'
        · obtain ⟨w', hrun, hsat⟩ := store_run ho hx hy hj hz h1 h2 hr.t hr.wft hs
          rw [hrun]
          exact ⟨rfl, by rw [S.put_own]; exact hsat⟩
      · exact h.elim
    · rename_i ad av hx hy
      obtain ⟨h1, cs, e, F0, hp, hsp, hoff, hk⟩ := cond_out h
      rw [Bool.and_eq_true] at h1
      obtain ⟨b, off, sp⟩ := ad
      simp only at hsp hoff hk hp
      subst hsp
      refine ⟨_, _, hk, hr.forget o.dst undef, KeepO.put _ _ _, .inr h1.1, fun hw => by rw [h1.1] at hw; (cases hw), fun w hs => ?_⟩
      obtain ⟨w', hrun, hs1⟩ := raw_run ho hx hy h1.2 hoff hr.t ((hs.perm (List.Perm.append_left _ hp)).perm List.perm_middle)
      rw [hrun]
      exact ⟨rfl, by rw [S.put_own]; exact hs1.perm List.perm_middle.symm⟩
    · exact h.elim
  · exact h.elim

theorem wD_out (hP : ∀ f, A.good f = true → Enters P f) {n : Nat} {hid : List Nat} {I : Imm} {K : S → Heap → Prop} (hn : n < ops.size) (hback : ∀ k, wr ops n k = true → k < n) :
    ∀ (l : List Oper) (i : Nat) (σ : S) (F : Heap) (a : Act), i + l.length = ops.size → i ≤ n → wD P A rid ops n hid l i σ I F K → RelS σ a →
      ∃ (vs : List Value) (σ' : S) (F' : Heap), vs.length = l.length ∧ K σ' F' ∧ RelS σ' (actAt a l vs l.length) ∧ Keep (dsts l) σ a σ' (actAt a l vs l.length) ∧
        ((F' = F ∧ ∀ (j : Nat) (b : Blk), σ.own[j]? = some b → hid.contains j = false → σ'.own[j]? = some b) ∨ allWait ops n = true) ∧
        ∀ (k : Nat) (o : Oper) (v : Value), l[k]? = some o → vs[k]? = some v →
          if Region.wanted o (yielded ops (actAt a l vs k).tmps) then
            ∀ b w, Sat I (blks (cond b σ'.own σ.own) ++ cond b F' F) w → (b = true → i + k ≠ n ∧ wr ops n (i + k) = false) → (i + k = n → b = false) → (b = false → wr ops (i + k) n = false) →
              Comes1 P v (fun w' => Sat I (blks (cond (b || i + k == n) σ'.own σ.own) ++ cond (b || i + k == n) F' F) w') ((execOp (actAt a l vs k).eval o).run P w)
          else v = undef ∧ i + k ≠ n
  | [], i, σ, F, a, hl, hi, h, hr => by simp at hl; omega
  | o :: r, i, σ, F, a, hl, hi, h, hr => by
    have hsub : ∀ t ∈ dsts r, t ∈ dsts (o :: r) := fun t ht => by
      unfold dsts at *; rw [List.filterMap_cons]; split
      · exact ht
      · exact List.mem_cons_of_mem _ ht
    have hd : ∀ t, o.dst = some t → t ∈ dsts (o :: r) := fun t ht => by
      unfold dsts; rw [List.filterMap_cons, ht]; exact List.mem_cons_self ..
    by_cases hin : i = n
    · subst hin
      simp only [wD, beq_self_eq_true, cond_true] at h
      split at h
      · rename_i hw
        obtain ⟨σ1, F1, hk, hr1, hko, hag, hag', hrun⟩ := wStoreD_out h hr
        obtain ⟨vs, σ', h1, h2, h3, h4, h5, h6⟩ := wD_after hP r (i + 1) σ1 F1 _ (fun k _ => by omega) hk hr1
        have haw : allWait ops i = true → r = [] := fun haw => by
          simp only [allWait, Bool.and_eq_true, beq_iff_eq] at haw
          simp only [List.length_cons] at hl
          exact List.length_eq_zero_iff.1 (by omega)
        refine ⟨undef :: vs, σ', F1, by simp [h1], h2, h3, (Keep.put hko _ _ _ hd).trans (h5.mono hsub), by rw [h4]; exact hag, fun k p v hk' hv => ?_⟩
        cases k with
        | zero =>
          simp only [List.getElem?_cons_zero, Option.some.injEq] at hk' hv
          subst hk'; subst hv
          simp only [actAt, want_out hw hr.t, if_true, Nat.add_zero]
          intro b w hs _ hb _
          have := hb (by first | trivial | rfl)
          subst this
          simp only [Bool.false_or, beq_self_eq_true, cond_true, h4]
          exact hrun w hs
        | succ k =>
          have hk2 : r[k]? = some p := by simpa using hk'
          have := h6 k p v hk2 (by simpa using hv)
          rw [show i + 1 + k = i + (k + 1) by omega] at this
          have hne : (i + (k + 1) == i) = false := by simp
          rw [show actAt a (o :: r) (undef :: vs) (k + 1) = actAt (a.put o.dst undef) r vs k from rfl]
          by_cases hwp : Region.wanted p (yielded ops (actAt (a.put o.dst undef) r vs k).tmps) = true
          · rw [if_pos hwp] at this ⊢
            intro b w hs h7 h8 h9
            simp only [hne, Bool.or_false]
            cases b with
            | true =>
              simp only [cond_true, h4] at hs ⊢
              exact this.here w hs
            | false =>
              simp only [cond_false] at hs ⊢
              have hnot : allWait ops i = false := by
                cases hh : allWait ops i with
                | false => rfl
                | true => rw [haw hh] at hk2; simp at hk2
              have hF : F1 = F := by
                rcases hag with hag | hag
                · exact hag.1
                · rw [hnot] at hag; cases hag
              subst hF
              refine this.else_ ?_ σ.own w hs fun j b hb hh => hag' hnot j b hb hh
              unfold fr
              have h10 : decide (ops.size ≤ i) = false := by simp; omega
              rw [h10, Bool.false_or]
              cases hww : wr ops i (i + (k + 1)) with
              | false => rfl
              | true => have := hback _ hww; omega
          · rw [if_neg hwp] at this ⊢
            exact ⟨this, by omega⟩
      · exact h.elim
      · exact h.elim
    · have hinb : (i == n) = false := by simpa using hin
      simp only [wD, hinb, cond_false] at h
      have hlt : i < n := by omega
      split at h
      · rename_i hw
        obtain ⟨av, hf, hwf, hall⟩ := wOpD_out hP h hr
        obtain ⟨av', hg, hwf', hk⟩ := wFin_out hf
        obtain ⟨vs, σ', F', h1, h2, h3, h5, hag, h6⟩ := wD_out hP hn hback r (i + 1) _ F _ (by simp only [List.length_cons] at hl; omega) (by omega) hk (hr.put o.dst hg (hwf' hwf))
        rw [S.put_own] at h6 hag
        refine ⟨av.g :: vs, σ', F', by simp [h1], h2, h3, (Keep.put (KeepO.put _ _ _) _ _ _ hd).trans (h5.mono hsub), hag, fun k p v hk' hv => ?_⟩
        cases k with
        | zero =>
          simp only [List.getElem?_cons_zero, Option.some.injEq] at hk' hv
          subst hk'; subst hv
          simp only [actAt, want_out hw hr.t, if_true, Nat.add_zero, hinb, Bool.or_false]
          intro b w hs h7 _ _
          cases b with
          | false => exact hall.here w hs
          | true =>
            obtain ⟨_, hnw⟩ := h7 rfl
            have haw : allWait ops n = false := by
              cases hh : allWait ops n with
              | false => rfl
              | true =>
                simp only [allWait, Bool.and_eq_true] at hh
                have := List.all_eq_true.1 hh.2 i (by simp; omega)
                rw [hinb, hnw] at this; cases this
            rcases hag with ⟨hF, hag⟩ | hag
            · subst hF
              simp only [cond_true] at hs ⊢
              refine hall.else_ ?_ σ'.own w hs hag
              unfold fr
              have h10 : decide (ops.size ≤ n) = false := by simp; omega
              rw [h10, hnw]; rfl
            · rw [haw] at hag; cases hag
        | succ k =>
          have := h6 k p v (by simpa using hk') (by simpa using hv)
          rwa [show i + 1 + k = i + (k + 1) by omega] at this
      · rename_i hw
        obtain ⟨vs, σ', F', h1, h2, h3, h5, hag, h6⟩ := wD_out hP hn hback r (i + 1) _ F _ (by simp only [List.length_cons] at hl; omega) (by omega) h (hr.put o.dst (av := .a (.v undef)) rfl trivial)
        rw [S.put_own] at h6 hag
        refine ⟨undef :: vs, σ', F', by simp [h1], h2, h3, (Keep.put (KeepO.put _ _ _) _ _ _ hd).trans (h5.mono hsub), hag, fun k p v hk' hv => ?_⟩
        cases k with
        | zero =>
          simp only [List.getElem?_cons_zero, Option.some.injEq] at hk' hv
          subst hk'; subst hv
          simp only [actAt, want_out hw hr.t, Bool.false_eq_true, if_false, Nat.add_zero]
          exact ⟨trivial, by omega⟩
        | succ k =>
          have := h6 k p v (by simpa using hk') (by simpa using hv)
          rwa [show i + 1 + k = i + (k + 1) by omega] at this
      · exact h.elim

theorem region_draw {ro : Option Nat} (hP : ∀ f, A.good f = true → Enters P f) {id n : Nat} {hid : List Nat} {σ : S} {I : Imm} {F : Heap} {K : S → Heap → Prop} {a : Act} {w : World} (hm : P.follows .mixedOrders = true)
    (hB : drawB ops = true) (h : wD P A rid ops n hid ops.toList 0 σ I F K) (hr : Rel σ I F a w) {Q : Exit → Act → World → Prop}
    (hQ : ∀ σ' F' a' w', Rel σ' I F' a' w' → K σ' F' → Keep (dsts ops.toList) σ a σ' a' → Q .normal a' w') : (Code.region id ops true).wpIn (Fw ro) 0 P Q a w := by
  have hb1 : ∀ i k, waits ops i k = true → k < i := fun i k hk => by
    simp only [drawB, Bool.and_eq_true] at hB
    unfold waits at hk
    split at hk
    · rename_i o ho
      obtain ⟨e, he, hb⟩ := List.any_eq_true.1 hk
      simp only [Bool.and_eq_true, beq_iff_eq] at hb
      have := (allB_get hB.2 (i := i) (o := o) (by simpa using ho)).2.1 e (by simpa using he) hb.1
      omega
    · cases hk
  have hbT : ∀ f i k, waitsT ops f i k = true → k < i := by
    intro f
    induction f with
    | zero => exact fun i k h => hb1 i k h
    | succ f ih =>
      intro i k h
      unfold waitsT at h
      rw [Bool.or_eq_true] at h
      rcases h with h | h
      · exact hb1 i k h
      · split at h
        · rename_i o ho
          obtain ⟨e, he, hb⟩ := List.any_eq_true.1 h
          simp only [Bool.and_eq_true] at hb
          have h1 := ih e.on k hb.2.2
          have h2 := hb1 i e.on (by unfold waits; rw [ho]; exact List.any_eq_true.2 ⟨e, he, by simp [hb.1]⟩)
          omega
        · cases h
  have hback : ∀ k, wr ops n k = true → k < n := fun k hk => hbT 3 n k hk
  by_cases hn : n < ops.size
  · obtain ⟨vs, σ', F', h1, h2, h3, h5, _, h6⟩ := wD_out hP hn hback ops.toList 0 σ F a (by simp) (by omega) h hr.s
    refine draw_core (n := n) (C := fun b w => Sat I (blks (cond b σ'.own σ.own) ++ cond b F' F) w) hm hB vs (by simpa using h1) ?_ (hr.sat.of_heap rfl ⟨rfl, rfl⟩) ?_
    · intro i o v ho hv
      have := h6 i o v (by simpa using ho) hv
      rwa [Nat.zero_add] at this
    · intro w' hw'
      rw [decide_eq_true hn] at hw'
      have hlen : ops.toList.length = ops.size := by simp
      rw [hlen] at h3 h5
      exact hQ σ' F' _ w' (h3.rel hw') h2 h5
  · obtain ⟨vs, σ', h1, h2, h3, h4, h5, h6⟩ := wD_after hP ops.toList 0 σ F a (fun k hk => by simp at hk; omega) h hr.s
    refine draw_core (n := n) (C := fun _ w => Sat I (blks σ.own ++ F) w) hm hB vs (by simpa using h1) ?_ (hr.sat.of_heap rfl ⟨rfl, rfl⟩) ?_
    · intro i o v ho hv
      have := h6 i o v (by simpa using ho) hv
      have hlt : i < ops.size := by
        rcases Nat.lt_or_ge i ops.size with h | h
        · exact h
        · simp [Array.getElem?_eq_none h] at ho
      by_cases hw : Region.wanted o (yielded ops (actAt a ops.toList vs i).tmps) = true
      · rw [if_pos hw] at this ⊢
        exact fun b w hs _ _ _ => this.here w hs
      · rw [if_neg hw] at this ⊢
        exact ⟨this, by omega⟩
    · intro w' hw'
      have hlen : ops.toList.length = ops.size := by simp
      rw [hlen] at h3 h5
      exact hQ σ' F _ w' (h3.rel (by rw [h4]; exact hw')) h2 h5
end sound

/-! ### heads of loops, and places where ways meet -/
def asg : Code → List Nat
  | .region _ ops _ => dsts ops.toList
  | .seq a b => asg a ++ asg b
  | .cond _ a b => asg a ++ asg b
  | .block _ c => asg c
  | .loop c => asg c
  | .scope c => asg c
  | .rangeFunc _ ps x y => ps.toList ++ asg x ++ asg y
  | _ => []
def sz : Code → Nat
  | .seq a b => 1 + sz a + sz b
  | .cond _ a b => 1 + sz a + sz b
  | .block _ c => 1 + sz c
  | .loop c => 1 + sz c
  | .scope c => 1 + sz c
  | .rangeFunc _ _ x y => 1 + sz x + sz y
  | _ => 1

def forget : List Nat → List (Option AV) → List (Option AV)
  | [], tm => tm
  | t :: r, tm => forget r (tm.set t none)
def setAll : List Nat → List Value → List (Option AV) → List (Option AV)
  | t :: ts, v :: vs, tm => setAll ts vs (tm.set t (some (.a (.v v))))
  | _, _, tm => tm
def seg : List (Nat × List Lf) → List Value → Nat → Option (List Value)
  | [], _, _ => none
  | (j, ls) :: r, vs, i => cond (j == i) (some (vs.take ls.length)) (seg r (vs.drop ls.length) i)
def layOwn (bks : List (Nat × List Lf)) (vs : List Value) : Nat → List Blk → List Blk
  | _, [] => []
  | i, b :: r => (match seg bks vs i with
    | some cs => { b with cells := cs.map fun v => .a (.v v) }
    | none => { b with ro := true }) :: layOwn bks vs (i + 1) r
def S.lay (c : Cut) (l : List Nat) (vs : List Value) (σ : S) : S :=
  { σ with tm := setAll (c.tms.map Prod.fst) (vs.take c.tms.length) (forget l σ.tm), own := layOwn c.bks (vs.drop c.tms.length) 0 σ.own }
def tmVals (σ : S) : List (Nat × Lf) → List Value
  | [] => []
  | (t, _) :: r => (match σ.tm[t]? with
    | some (some av) => av.g
    | _ => undef) :: tmVals σ r
def bkVals (own : List Blk) : List (Nat × List Lf) → List Value
  | [] => []
  | (j, _) :: r => (match own[j]? with
    | some b => b.cells.map AV.g
    | none => []) ++ bkVals own r
def S.vals (σ : S) (c : Cut) : List Value := tmVals σ c.tms ++ bkVals σ.own c.bks
def tmOk (σ : S) : List (Nat × Lf) → Bool
  | [] => true
  | (t, l) :: r => (match σ.tm[t]? with
    | some (some av) => l.fits av.g
    | _ => false) && tmOk σ r
def bkOk (own : List Blk) : List (Nat × List Lf) → Bool
  | [] => true
  | (j, ls) :: r => (match own[j]? with
    | some b => !b.ro && fitsAll ls (b.cells.map AV.g)
    | none => false) && bkOk own r
def S.okv (σ : S) (c : Cut) : Bool := tmOk σ c.tms && bkOk σ.own c.bks
def Cut.lfs (c : Cut) : List Lf := c.tms.map Prod.snd ++ c.bks.flatMap Prod.snd
def unl (own0 : List Blk) : Nat → List Blk → List Blk
  | _, [] => []
  | i, b :: r => (match own0[i]? with
    | some b0 => { b with ro := b0.ro }
    | none => b) :: unl own0 (i + 1) r
def S.unlock (σ σ0 : S) : S := { σ with own := unl σ0.own 0 σ.own }

theorem forget_get : ∀ (l : List Nat) (tm : List (Option AV)) (t : Nat) (av : AV), (forget l tm)[t]? = some (some av) → t ∉ l ∧ tm[t]? = some (some av)
  | [], tm, t, av, h => ⟨by simp, h⟩
  | s :: r, tm, t, av, h => by
    obtain ⟨h1, h2⟩ := forget_get r (tm.set s none) t av h
    rw [List.getElem?_set] at h2
    by_cases hst : s = t
    · subst hst; simp only [if_true] at h2; split at h2 <;> cases h2
    · simp only [if_neg hst] at h2
      exact ⟨by simp [h1, Ne.symm hst], h2⟩
theorem forget_length : ∀ (l : List Nat) (tm : List (Option AV)), (forget l tm).length = tm.length
  | [], tm => rfl
  | s :: r, tm => by simp [forget, forget_length r]
theorem setAll_length : ∀ (ts : List Nat) (vs : List Value) (tm : List (Option AV)), (setAll ts vs tm).length = tm.length
  | [], vs, tm => by simp [setAll]
  | t :: ts, [], tm => by simp [setAll]
  | t :: ts, v :: vs, tm => by simp [setAll, setAll_length ts vs]
theorem setAll_get : ∀ (ts : List Nat) (vs : List Value) (tm : List (Option AV)) (t : Nat) (av : AV), (setAll ts vs tm)[t]? = some (some av) →
    (∃ (k : Nat) (v : Value), ts[k]? = some t ∧ vs[k]? = some v ∧ av = .a (.v v)) ∨ tm[t]? = some (some av)
  | [], vs, tm, t, av, h => .inr (by simpa [setAll] using h)
  | s :: ts, [], tm, t, av, h => .inr (by simpa [setAll] using h)
  | s :: ts, v :: vs, tm, t, av, h => by
    rcases setAll_get ts vs (tm.set s (some (.a (.v v)))) t av h with ⟨k, u, h1, h2, h3⟩ | h
    · exact .inl ⟨k + 1, u, by simpa using h1, by simpa using h2, h3⟩
    · rw [List.getElem?_set] at h
      by_cases hst : s = t
      · subst hst; simp only [if_true] at h; split at h
        · cases h; exact .inl ⟨0, v, by simp, by simp, rfl⟩
        · cases h
      · simp only [if_neg hst] at h; exact .inr h

theorem layOwn_get (bks : List (Nat × List Lf)) (vs : List Value) : ∀ (i : Nat) (own : List Blk) (j : Nat), (layOwn bks vs i own)[j]? = (own[j]?).map fun b =>
    match seg bks vs (i + j) with
    | some cs => { b with cells := cs.map fun v => .a (.v v) }
    | none => { b with ro := true }
  | i, [], j => by simp [layOwn]
  | i, b :: r, 0 => by simp only [layOwn, List.getElem?_cons_zero, Option.map_some, Nat.add_zero]
  | i, b :: r, j + 1 => by
    simp only [layOwn, List.getElem?_cons_succ]
    rw [layOwn_get bks vs (i + 1) r j, show i + 1 + j = i + (j + 1) by omega]
theorem unl_get (own0 : List Blk) : ∀ (i : Nat) (own : List Blk) (j : Nat), (unl own0 i own)[j]? = (own[j]?).map fun b =>
    match own0[i + j]? with
    | some b0 => { b with ro := b0.ro }
    | none => b
  | i, [], j => by simp [unl]
  | i, b :: r, 0 => by simp only [unl, List.getElem?_cons_zero, Option.map_some, Nat.add_zero]
  | i, b :: r, j + 1 => by
    simp only [unl, List.getElem?_cons_succ]
    rw [unl_get own0 (i + 1) r j, show i + 1 + j = i + (j + 1) by omega]

end Go.Vc
