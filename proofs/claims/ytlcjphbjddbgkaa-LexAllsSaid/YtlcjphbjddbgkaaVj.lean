import Derived.Test.YtlcjphbjddbgkaaVh
import Derived.RangeFuncRecord
import Derived.RangeFuncLeaves
set_option linter.unusedSimpArgs false
set_option linter.unusedVariables false
namespace Go.Vc

theorem allLf_intro {l : Lf} {Q : Value → Prop} (h : ∀ v, Q v) : allLf l Q := by cases l <;> intro <;> first | exact h _ | (intros; exact h _)
theorem allLs_intro : ∀ {l : List Lf} {Q : List Value → Prop}, (∀ vs, vs.length = l.length → Q vs) → allLs l Q
  | [], Q, h => h [] rfl
  | l :: r, Q, h => allLf_intro fun v => allLs_intro fun vs hv => h (v :: vs) (by simp [hv])
theorem allSh_intro {s : Sh} {Q : Value → Prop} (h : ∀ v, Q v) : allSh s Q := by
  cases s with
  | one l => exact allLf_intro h
  | agg ls => exact allLs_intro fun vs _ => h _
theorem allShs_intro : ∀ {l : List Sh} {Q : List Value → Prop}, (∀ vs, vs.length = l.length → Q vs) → allShs l Q
  | [], Q, h => h [] rfl
  | l :: r, Q, h => allSh_intro fun v => allShs_intro fun vs hv => h (v :: vs) (by simp [hv])

/-- where a walk stands: in a function's own activation, or in a round of the loop l -/
def Ctx (ro : Option Nat) : Option Heap → Prop
  | none => ro = none
  | some R => ∃ l r, ro = some l ∧ (l, Obj.loop r) ∈ R
def LdH (rd : Option Heap) (D : Nat) : Heap := match rd with
  | none => [(D, .deferred (some []))]
  | some _ => []
def mkH (rd : Option Heap) (D : Nat) : List Deferred := match rd with
  | none => [(Df.mark D).d]
  | some _ => []
theorem withD_eq (rd : Option Heap) (D : Nat) (F : Heap) : withD rd D F = LdH rd D ++ F := by cases rd <;> rfl

section
variable {P : Program} {A : Ann}

theorem enter_inner {w : World} {l₀ : Nat} {r₀ : Loop} (h : w.heap[l₀]? = some (.loop r₀)) (fn : FuncId) (tmps : Array Value) (ps : Array Tmp) (assign body : Code) :
    (Instr.enterLoop fn tmps ps assign body (some l₀)).run P w =
      .ok (w.heap.size, []) (w.alloc (.loop { state := .ready, pending := none, fn, tmps, params := ps, assign, body, defers := r₀.defers })) := by
  unfold Instr.enterLoop
  simp only [Sem.run_bind, run_getLoop h, run_newObj_alloc, Result.andThen, Sem.run_pure]
theorem inRd_out {rd : Option Heap} {F : Heap} {X : Prop} (h : inRd rd F X) : (∀ R, rd = some R → ∃ F3 : Heap, F.Perm (R ++ F3)) ∧ X := by
  cases rd with
  | none => exact ⟨fun R e => (by cases e), h⟩
  | some R => exact ⟨fun R' e => (by cases e; exact h.1), h.2⟩
theorem enter_run {rd : Option Heap} {ro : Option Nat} {I : Imm} {G : Heap} {w : World} (hctx : Ctx ro rd) (hrd : ∀ R, rd = some R → ∃ F3 : Heap, G.Perm (R ++ F3)) (hs : Sat I G w)
    (fn : FuncId) (tmps : Array Value) (ps : Array Tmp) (x y : Code) :
    ∃ (l D d : Nat) (w1 : World), (Instr.enterLoop fn tmps ps x y ro).run P w = .ok (l, mkH rd D) w1 ∧
      Sat I ((l, Obj.loop { state := .ready, pending := none, fn, tmps, params := ps, assign := x, body := y, defers := d }) :: (LdH rd D ++ G)) w1 := by
  cases rd with
  | none =>
    obtain rfl : ro = none := hctx
    have h1 := hs.alloc (.deferred (some []))
    have h2 := h1.alloc (.loop { state := .ready, pending := none, fn, tmps, params := ps, assign := x, body := y, defers := w.heap.size })
    refine ⟨w.heap.size + 1, w.heap.size, w.heap.size, _, run_enterLoop_outer fn tmps ps x y, ?_⟩
    have : ({ w with heap := w.heap.push (Obj.deferred (some [])) } : World).heap.size = w.heap.size + 1 := by simp
    rw [this] at h2
    exact h2
  | some R =>
    obtain ⟨l0, r0, rfl, hm⟩ := hctx
    obtain ⟨F3, hp⟩ := hrd R rfl
    have hin : w.heap[l0]? = some (.loop r0) := hs.own _ _ (hp.mem_iff.2 (List.mem_append_left _ hm))
    exact ⟨w.heap.size, 0, r0.defers, _, enter_inner hin fn tmps ps x y, hs.alloc _⟩

theorem Sat.at_head {I : Imm} {b : Nat} {o : Obj} {G : Heap} {w : World} (h : Sat I ((b, o) :: G) w) : w.heap[b]? = some o := h.own _ _ (List.mem_cons_self ..)
theorem Sat.put_head {I : Imm} {b : Nat} {o o' : Obj} {G : Heap} {w : World} (h : Sat I ((b, o) :: G) w) : Sat I ((b, o') :: G) (w.putObj b o') := h.set rfl ⟨rfl, rfl⟩

theorem round_tm : ∀ (ts : List Nat) (vs : List Value) (tm : List (Option AV)) (tmps : Array Value), tm.length = tmps.size → (∀ (t : Nat) (av : AV), tm[t]? = some (some av) → tmps[t]? = some av.g) →
    (setAll ts vs tm).length = ((ts.zip vs).foldl (fun (a : Array Value) (x : Nat × Value) => a.setIfInBounds x.1 x.2) tmps).size ∧
    ∀ (t : Nat) (av : AV), (setAll ts vs tm)[t]? = some (some av) → ((ts.zip vs).foldl (fun (a : Array Value) (x : Nat × Value) => a.setIfInBounds x.1 x.2) tmps)[t]? = some av.g
  | [], vs, tm, tmps, hl, h => by simp only [setAll, List.zip_nil_left, List.foldl_nil]; exact ⟨hl, h⟩
  | s :: ts, [], tm, tmps, hl, h => by simp only [setAll, List.zip_nil_right, List.foldl_nil]; exact ⟨hl, h⟩
  | s :: ts, v :: vs, tm, tmps, hl, h => by
    simp only [setAll, List.zip_cons_cons, List.foldl_cons]
    refine round_tm ts vs _ _ (by simp [hl]) fun t av ht => ?_
    rw [List.getElem?_set] at ht
    rw [Array.getElem?_setIfInBounds]
    by_cases hst : s = t
    · subst hst
      simp only [if_true] at ht ⊢
      split at ht
      · rename_i hlt; cases ht; rw [hl] at hlt; simp [hlt, AV.g, At.g]
      · cases ht
    · simp only [if_neg hst] at ht ⊢; exact h t av ht

theorem layOwn_same (bks : List (Nat × List Lf)) (vs : List Value) (own : List Blk) : Same own (layOwn bks vs 0 own) := fun i b hb => by
  refine ⟨match seg bks vs (0 + i) with
    | some cs => { b with cells := cs.map fun v => .a (.v v) }
    | none => { b with ro := true }, by rw [layOwn_get, hb]; rfl, ?_⟩
  split <;> rfl
theorem layOwn_wf {bks : List (Nat × List Lf)} {vs : List Value} {own : List Blk} (h : ∀ (i : Nat) (b : Blk), own[i]? = some b → ∀ c ∈ b.cells, AV.wf own c) :
    ∀ (i : Nat) (b : Blk), (layOwn bks vs 0 own)[i]? = some b → ∀ c ∈ b.cells, AV.wf (layOwn bks vs 0 own) c := by
  intro i b hb c hc
  rw [layOwn_get] at hb
  cases ho : own[i]? with
  | none => rw [ho] at hb; cases hb
  | some b0 =>
    rw [ho] at hb
    simp only [Option.map_some, Option.some.injEq] at hb
    subst hb
    split at hc
    · simp only [List.mem_map] at hc
      obtain ⟨v, _, rfl⟩ := hc
      trivial
    · exact AV.wf_same (layOwn_same _ _ _) (h i b0 ho c hc)

theorem Rel.round {σ : S} {I I' : Imm} {F F' : Heap} {a : Act} {w w' : World} (hr : Rel σ I F a w) (ct : Cut) (ps : Array Nat) (args vs : List Value)
    (hs : Sat I' (blks (layOwn ct.bks vs 0 σ.own) ++ F') w') :
    Rel (σ.round ct ps args vs) I' F' { tmps := (ps.toList.zip args).foldl (fun (a : Array Value) (x : Nat × Value) => a.setIfInBounds x.1 x.2) a.tmps, defers := [] } w' := by
  obtain ⟨h1, h2⟩ := round_tm ps.toList args σ.tm a.tmps hr.size hr.tm
  refine ⟨h1, h2, rfl, fun t av ht => ?_, layOwn_wf hr.wfo, hs⟩
  rcases setAll_get _ _ _ _ _ ht with ⟨k, v, _, _, rfl⟩ | ht
  · trivial
  · exact AV.wf_same (layOwn_same _ _ _) (hr.wft t av ht)

theorem after_get {σ : S} {ct : Cut} {vs : List Value} {i : Nat} : (unl σ.own 0 (layOwn ct.bks vs 0 σ.own))[i]? = (σ.own[i]?).map fun b =>
    match seg ct.bks vs i with
    | some cs => { b with cells := cs.map fun v => .a (.v v) }
    | none => b := by
  rw [unl_get, layOwn_get]
  cases hb : σ.own[i]? with
  | none => rfl
  | some b =>
    simp only [Option.map_some, Nat.zero_add, hb]
    cases seg ct.bks vs i <;> rfl
theorem after_keep {σ : S} {ct : Cut} {vs : List Value} {D : Nat} {rd : Option Heap} (hok : bkOk σ.own ct.bks = true) : KeepO σ (σ.after ct vs D rd) := by
  intro i b hb
  have e : (σ.after ct vs D rd).own[i]? = _ := after_get
  rw [hb] at e
  cases hs : seg ct.bks vs i with
  | none => rw [hs] at e; exact ⟨b, e, rfl, rfl, fun h => ⟨h, rfl⟩⟩
  | some cs =>
    rw [hs] at e
    have hro := bkOk_ro (vs := vs) hok hb (by rw [hs]; rfl)
    exact ⟨_, e, rfl, rfl, fun h => by rw [hro] at h; cases h⟩
theorem Rel.after {σ : S} {I I' : Imm} {F F' : Heap} {a : Act} {w w' : World} (hr : Rel σ I F a w) {ct : Cut} {vs : List Value} {D : Nat} {rd : Option Heap} (hok : bkOk σ.own ct.bks = true)
    (hs : Sat I' (blks (layOwn ct.bks vs 0 σ.own) ++ F') w') : Rel (σ.after ct vs D rd) I' F' { a with defers := mkH rd D ++ a.defers } w' := by
  have hk : Same σ.own (σ.after ct vs D rd).own := (after_keep hok).same
  refine ⟨hr.size, hr.tm, ?_, fun t av ht => AV.wf_same hk (hr.wft t av ht), ?_, ?_⟩
  · show mkH rd D ++ a.defers = _
    rw [hr.defers]; cases rd <;> rfl
  · intro i b hb c hc
    have e : (σ.after ct vs D rd).own[i]? = _ := after_get
    rw [hb] at e
    cases ho : σ.own[i]? with
    | none => rw [ho] at e; cases e
    | some b0 =>
      rw [ho] at e
      simp only [Option.map_some, Option.some.injEq] at e
      subst e
      split at hc
      · simp only [List.mem_map] at hc
        obtain ⟨v, _, rfl⟩ := hc
        trivial
      · exact AV.wf_same hk (hr.wfo i b0 ho c hc)
  · show Sat I' (blks (unl σ.own 0 (layOwn ct.bks vs 0 σ.own)) ++ F') w'
    rw [unl_blks]; exact hs

theorem blks_take (own : List Blk) (n : Nat) : (blks (own.take n)).Sublist (blks own) := (List.take_sublist n own).map _
theorem perm_front {A B C : Heap} : (A ++ (B ++ C)).Perm (B ++ (A ++ C)) := List.perm_append_comm_assoc A B C

theorem wpIn_jump {F : Fence} {n : Nat} {Q : Exit → Act → World → Prop} {a : Act} {w : World} (j : Option Nat) (h : Q (exitOf j) a w) : (codeOf j).wpIn F n P Q a w := by
  cases j with
  | none => exact wpIn_ret h
  | some id => exact wpIn_exit h

theorem range_sound {x y : Code} (ih1 : ∀ (n : Nat) (K : Kt) (rd : Option Heap) (ro : Option Nat) (σ : S) (I : Imm) (F : Heap) (a : Act) (w : World), Ctx ro rd → W P A rd x n K σ I F → Rel σ I F a w → x.wpIn (Fw ro) 0 P (Post (asg x) σ a I K) a w)
    (ih2 : ∀ (n : Nat) (K : Kt) (rd : Option Heap) (ro : Option Nat) (σ : S) (I : Imm) (F : Heap) (a : Act) (w : World), Ctx ro rd → W P A rd y n K σ I F → Rel σ I F a w → y.wpIn (Fw ro) 0 P (Post (asg y) σ a I K) a w)
    {g : Operand} {ps : Array Tmp} {n : Nat} {K : Kt} {rd : Option Heap} {ro : Option Nat} {σ : S} {I : Imm} {F : Heap} {a : Act} {w : World} (hctx : Ctx ro rd)
    (h : W P A rd (.rangeFunc g ps x y) n K σ I F) (hr : Rel σ I F a w) : (Code.rangeFunc g ps x y).wpIn (Fw ro) 0 P (Post (asg (.rangeFunc g ps x y)) σ a I K) a w := by
  simp only [W] at h
  split at h
  case h_2 => exact h.elim
  rename_i ct gv hcut hg
  obtain ⟨hb, h⟩ := cond_out h
  simp only [Bool.and_eq_true, beq_iff_eq] at hb
  obtain ⟨hok, hlen⟩ := hb
  obtain ⟨hrd, h⟩ := inRd_out h
  refine wpIn_rangeFunc fun fn hfn => ?_
  obtain ⟨l, D, d, w1, hrun, hsat⟩ := enter_run (P := P) (rd := rd) (ro := ro) hctx (G := blks σ.own ++ F) (fun R hR => by
    obtain ⟨F3, hp⟩ := hrd R hR
    exact ⟨blks σ.own ++ F3, (List.Perm.append_left _ hp).trans perm_front⟩) hr.sat fn a.tmps ps x y
  generalize hrec : ({ state := .ready, pending := none, fn, tmps := a.tmps, params := ps, assign := x, body := y, defers := d } : Loop) = rec at hsat
  have r1 : rec.fn = fn := by rw [← hrec]
  have r2 : rec.tmps = a.tmps := by rw [← hrec]
  have r3 : rec.params = ps := by rw [← hrec]
  have r4 : rec.assign = x := by rw [← hrec]
  have r5 : rec.body = y := by rw [← hrec]
  have r6 : rec.state = .ready := by rw [← hrec]
  have r7 : rec.pending = none := by rw [← hrec]
  have rback : ({ rec with state := .ready, pending := none } : Loop) = rec := by rw [← hrec]
  let L : Heap := (l, .loop rec) :: LdH rd D
  let Lb : Heap := (l, .loop { rec with state := .busy }) :: LdH rd D
  let Lx : Option Nat → Heap := fun j => (l, .loop { rec with state := .done, pending := some (codeOf j) }) :: LdH rd D
  have hsat' : Sat I (blks σ.own ++ (L ++ F)) w1 := by
    refine hsat.perm ?_
    show (([(l, Obj.loop rec)] ++ LdH rd D) ++ (blks σ.own ++ F)).Perm _
    exact perm_front
  have hTr := h (.yield l) L Lb Lx D (allShs_intro fun args hargs => allLs_intro fun vs hvs I' F' Q hle hW => by
    intro w2 hs2
    refine .inr ⟨l, rfl, ?_⟩
    have hl2 : w2.heap[l]? = some (.loop rec) := hs2.own _ _ (List.mem_append_right _ (List.mem_append_left _ (List.mem_cons_self ..)))
    have hy := run_yield (P := P) (args := args.toArray) hl2 (by rw [r3]; simp [hargs, hlen])
    rw [r1, r2, r3, r4, r5] at hy
    have hz : ((ps.zip args.toArray).foldl (fun (tmps : Array Value) (x : Nat × Value) => tmps.setIfInBounds x.1 x.2) a.tmps) = (ps.toList.zip args).foldl (fun (a : Array Value) (x : Nat × Value) => a.setIfInBounds x.1 x.2) a.tmps := by
      rw [← Array.foldl_toList, Array.toList_zip]
    refine ⟨_, _, _, _, _, hy, roundIn_of_wpIn (F := Fence.wide) trivial ?_⟩
    rw [show ((ps.zip args.toArray).foldl (fun (tmps : Array Value) (x : Nat × Value) => match x with | (t, a) => tmps.setIfInBounds t a) a.tmps) = (ps.toList.zip args).foldl (fun (a : Array Value) (x : Nat × Value) => a.setIfInBounds x.1 x.2) a.tmps from hz]
    have hrel := hr.round ct ps args vs hs2
    refine wpIn_mono (ih1 _ _ (some L) (some l) _ I' _ _ w2 ⟨l, rec, rfl, List.mem_cons_self ..⟩ hW hrel) ?_
    intro e a1 w3 ⟨σ1, I1, F1, g1, g2, g3, g4⟩
    cases e with
    | normal =>
      obtain ⟨F2, hp2, hW2⟩ := g3
      have hs3 : Sat I1 ((l, .loop rec) :: (LdH rd D ++ (blks σ1.own ++ F2))) w3 := g1.sat.perm ((List.Perm.append_left _ hp2).trans (perm_front (A := blks σ1.own) (B := (l, .loop rec) :: LdH rd D)))
      refine ⟨_, run_beginRound hs3.at_head r6, ?_⟩
      have hs4 := hs3.put_head (o' := .loop { rec with state := .busy })
      have hrel2 : Rel σ1 I1 (Lb ++ F2) a1 (w3.putObj l (.loop { rec with state := .busy })) :=
        ⟨g1.size, g1.tm, g1.defers, g1.wft, g1.wfo, hs4.perm (perm_front (A := (l, .loop { rec with state := .busy }) :: LdH rd D) (B := blks σ1.own))⟩
      refine wpIn_mono (ih2 _ _ (some Lb) (some l) _ I1 _ _ _ ⟨l, _, rfl, List.mem_cons_self ..⟩ hW2 hrel2) ?_
      intro e a5 w5 ⟨σ5, I5, F5, k1, k2, k3, k4⟩
      have fin : ∀ (L' : Heap) (o' : Obj) (b : Bool), L' = (l, o') :: LdH rd D → (∃ F3 : Heap, F5.Perm (Lb ++ F3) ∧ Q (.returned (.bool b)) I5 (blks (σ5.own.take σ.own.length) ++ (L' ++ F3))) →
          w5.heap[l]? = some (.loop { rec with state := .busy }) ∧ EndQ I' Q (.returned (.bool b)) (w5.putObj l o') := by
        intro L' o' b hL' ⟨F3, hp3, hq⟩
        subst hL'
        have hs5 : Sat I5 ((l, .loop { rec with state := .busy }) :: (LdH rd D ++ (blks σ5.own ++ F3))) w5 :=
          k1.sat.perm ((List.Perm.append_left _ hp3).trans (perm_front (A := blks σ5.own) (B := (l, .loop { rec with state := .busy }) :: LdH rd D)))
        refine ⟨hs5.at_head, I5, _, Imm.le_trans g2 k2, ?_, hq⟩
        have hs6 := hs5.put_head (o' := o')
        exact (hs6.perm (perm_front (A := (l, o') :: LdH rd D) (B := blks σ5.own))).sub (List.Sublist.append (blks_take _ _) (List.Sublist.refl _))
      cases e with
      | normal =>
        obtain ⟨f1, f2⟩ := fin L (.loop rec) true rfl k3
        refine ⟨_, _, run_endRound none f1, ?_⟩
        have : ({ ({ rec with state := .busy } : Loop) with state := if (none : Option Code).isNone then .ready else .done, pending := none } : Loop) = rec := rback
        rw [this]; exact f2
      | ret =>
        obtain ⟨f1, f2⟩ := fin (Lx none) (.loop { rec with state := .done, pending := some .ret }) false rfl k3
        exact ⟨_, _, run_endRound (some .ret) f1, f2⟩
      | exit id =>
        obtain ⟨f1, f2⟩ := fin (Lx (some id)) (.loop { rec with state := .done, pending := some (.exit id) }) false rfl k3
        exact ⟨_, _, run_endRound (some (.exit id)) f1, f2⟩
      | goto l => exact k3.elim
      | panic ch => exact k3.elim
      | outgrown => exact k3.elim
    | exit id => exact g3.elim
    | goto l => exact g3.elim
    | ret => exact g3.elim
    | panic ch => exact g3.elim
    | outgrown => exact g3.elim)
  obtain ⟨f, first, cap, hgv, hent, hcall⟩ := hTr w1 hsat'
  have hev := S.ev_eval hr hg
  refine ⟨l, mkH rd D, w1, { target := .fn (.func f) cap, args := first ++ #[.func (.yield l) #[] #[]] }, w1, f, first ++ #[.func (.yield l) #[] #[]] ++ cap, w1, hrun, ?_, fun _ _ => trivial, ?_, fun hd => by simp [Fw, Fence.wide] at hd, ?_⟩
  · show (Deferred.ofValue (a.eval g) _).run P w1 = _
    rw [hev, hgv]; simp [Deferred.ofValue, Act.eval]
  · simp only [invoke]; exact hent _ _
  · refine ((callsIn_wide (n := 0)).2 hcall).mono fun e w3 ⟨I3, G, hle, hs3, r, he, hpost⟩ => ?_
    subst he
    have fin : ∀ (o' : Obj) (r' : Loop) (jj : Option Code) (L' : Heap) (vs : List Value) (F' : Heap) (e' : Exit), L' = (l, .loop r') :: LdH rd D → r'.pending = jj → r'.state ≠ .busy → G.Perm (blks (layOwn ct.bks vs 0 σ.own) ++ (L' ++ F')) → K e' (σ.after ct vs D rd) I3 (withD rd D F') →
        ∃ w4, (Instr.endLoop l).run P w3 = .ok jj w4 ∧ Post (asg (.rangeFunc g ps x y)) σ a I K e' { a with defers := mkH rd D ++ a.defers } w4 := by
      intro o' r' jj L' vs F' e' hL' hj hbusy hp hk
      subst hL'; subst hj
      have hs4 : Sat I3 ((l, .loop r') :: (LdH rd D ++ (blks (layOwn ct.bks vs 0 σ.own) ++ F'))) w3 := hs3.perm (hp.trans (perm_front (A := blks (layOwn ct.bks vs 0 σ.own)) (B := (l, .loop r') :: LdH rd D)))
      refine ⟨_, run_endLoop hs4.at_head hbusy, σ.after ct vs D rd, I3, withD rd D F', ?_, hle, hk, after_keep hok, fun _ _ => rfl, rfl⟩
      refine hr.after hok ?_
      rw [withD_eq]
      exact ((hs4.put_head (o' := .loop { r' with state := .exhausted })).sub (List.sublist_cons_self _ _)).perm perm_front
    rcases hpost with hpost | hpost
    · obtain ⟨vs, F', hp, hk⟩ := exLs_out hpost |>.imp fun _ h => h.2
      obtain ⟨w4, h1, h2⟩ := fin (.loop rec) rec none L vs F' .normal rfl r7 (by rw [r6]; decide) hp hk
      exact ⟨none, w4, h1, h2⟩
    · obtain ⟨j, hpost⟩ := orJ_out hpost
      obtain ⟨vs, F', hp, hk⟩ := exLs_out hpost |>.imp fun _ h => h.2
      obtain ⟨w4, h1, h2⟩ := fin (.loop rec) { rec with state := .done, pending := some (codeOf j) } (some (codeOf j)) (Lx j) vs F' (exitOf j) rfl rfl (fun h => by cases h) hp hk
      exact ⟨some (codeOf j), w4, h1, wpIn_jump j h2⟩
end
end Go.Vc
