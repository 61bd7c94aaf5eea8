import Derived.Test.YtlcjphbjddbgkaaVe
set_option linter.unusedSimpArgs false
set_option linter.unusedVariables false
namespace Go.Vc

section sound
variable {P : Program} {A : Ann} {rid i : Nat} {o : Oper} {σ : S} {I : Imm} {F : Heap} {K : S → Imm → Heap → Prop} {Kp : List PanicEntry → S → Imm → Heap → Prop}
  {a : Act} {w : World} {Q : Exit → Act → World → Prop}

theorem cond_out {b : Bool} {X : Prop} (h : cond b X False) : b = true ∧ X := by
  cases b with
  | true => exact ⟨rfl, h⟩
  | false => exact h.elim

theorem knows1 (hr : Rel σ I F a w) {x : Operand} (h : σ.knows [x] = true) : a.eval x = σ.cv x := S.knows_eval hr h x (by simp)

theorem store_run {t : TypeId} {x y : Operand} (ho : o.op = .store t x y) {j b off : Nat} {av : AV} {blk : Blk} {n : Nat} (hx : σ.ev x = some (.a (.p j b off))) (hy : σ.ev y = some av)
    (hj : σ.own[j]? = some blk) (hn : szB P t = some n) (hc : (!blk.ro && av.cells.length == n && decide (off + n ≤ blk.cells.length)) = true) (h1 : (av.cells.all fun c => oneB c.g) = true)
    (hr : RelT σ a) (hwf : WfT σ σ.own) (hs : Sat I (blks σ.own ++ F) w) :
    ∃ w', (execOp a.eval o).run P w = .ok .skip w' ∧ Sat I (blks (σ.own.set j { blk with cells := splice off av.cells blk.cells }) ++ F) w' := by
  simp only [Bool.and_eq_true, Bool.not_eq_true', beq_iff_eq, decide_eq_true_eq] at hc
  obtain ⟨⟨hro, hlen⟩, hoff⟩ := hc
  have ex := S.ev_evalT hr hx
  have ey := S.ev_evalT hr hy
  have wx := S.ev_wfT hwf hx
  simp only [AV.wf, At.wf, hj, Option.map_some, Option.some.injEq] at wx
  have hheap := hs.get hj
  have hcs := av.cells_g
  rw [wx] at hheap
  obtain ⟨w', hrun, hh, henv⟩ := storeCells_run (P := P) (b := b) (e := blk.elem) (av.cells.map AV.g) 0 off (blk.cells.map AV.g) w hheap (by simp; omega) (by
    intro v hv
    obtain ⟨c, hc, rfl⟩ := List.mem_map.1 hv
    exact List.all_eq_true.1 h1 c hc)
  have hrun' : (execOp a.eval o).run P w = .ok .skip w' := by
    have hsz : av.g.cells.size = n := by
      have h2 := congrArg List.length hcs
      simp at h2
      omega
    have ex' : a.eval x = .pointer (some ⟨b, off, none⟩) := ex
    simp only [execOp, ho, ex', ey, Instr.storeAt, Instr.sureAddr, storeVar, Sem.run_bind, Sem.run_pure, Result.andThen_ok, sizeOf_run hn]
    rw [if_neg (by simpa using hsz)]
    have h3 : av.g.cells.toList = av.cells.map AV.g := hcs.symm
    simp only [h3, hrun, Result.andThen_ok]
  refine ⟨w', hrun', ?_⟩
  have hlt : j < σ.own.length := by
    rcases Nat.lt_or_ge j σ.own.length with h' | h'
    · exact h'
    · simp [List.getElem?_eq_none h'] at hj
  have hsplit : σ.own = σ.own.take j ++ blk :: σ.own.drop (j + 1) := by
    conv => lhs; rw [← List.take_append_drop j σ.own]
    rw [List.drop_eq_getElem_cons hlt]
    have : σ.own[j] = blk := by have := hj; rw [List.getElem?_eq_getElem hlt] at this; exact Option.some.inj this
    rw [this]
  have hset : σ.own.set j { blk with cells := splice off av.cells blk.cells } = σ.own.take j ++ { blk with cells := splice off av.cells blk.cells } :: σ.own.drop (j + 1) := by
    rw [List.set_eq_take_append_cons_drop, if_pos hlt]
  have hs0 : Sat I ((blk.num, blk.obj) :: (blks (σ.own.take j) ++ (blks (σ.own.drop (j + 1)) ++ F))) w := by
    have h0 := hs
    rw [hsplit] at h0
    simp only [blks, List.map_append, List.map_cons, List.append_assoc, List.cons_append] at h0 ⊢
    exact h0.perm List.perm_middle
  have hs1 := hs0.set (o' := .cells (splice off (av.cells.map AV.g) (blk.cells.map AV.g)).toArray blk.elem (0, 0)) (w' := w') (by rw [wx]; simpa using hh) henv
  rw [hset]
  simp only [blks, List.map_append, List.map_cons, List.append_assoc, List.cons_append]
  refine hs1.perm ?_
  simp only [blks, Blk.obj, splice_map]
  exact List.perm_middle.symm

theorem store_own (hr : WfT σ σ.own) (hwo : ∀ (i : Nat) (b : Blk), σ.own[i]? = some b → ∀ c ∈ b.cells, AV.wf σ.own c) {x y : Operand} {j : Nat} {av : AV} {blk : Blk} {off : Nat} (hy : σ.ev y = some av) (hj : σ.own[j]? = some blk) (hro : blk.ro = false) :
    Same σ.own (σ.own.set j { blk with cells := splice off av.cells blk.cells }) ∧
    (∀ (i : Nat) (b : Blk), (σ.own.set j { blk with cells := splice off av.cells blk.cells })[i]? = some b → ∀ c ∈ b.cells, AV.wf (σ.own.set j { blk with cells := splice off av.cells blk.cells }) c) ∧
    KeepO σ { σ with own := σ.own.set j { blk with cells := splice off av.cells blk.cells } } := by
  have wy := S.ev_wfT hr hy
  have hlt : j < σ.own.length := by
    rcases Nat.lt_or_ge j σ.own.length with h' | h'
    · exact h'
    · simp [List.getElem?_eq_none h'] at hj
  have hsame : Same σ.own (σ.own.set j { blk with cells := splice off av.cells blk.cells }) := Same.set _ j blk _ hj rfl
  refine ⟨hsame, ?_, ?_⟩
  · intro k b' hk' c hcm
    refine AV.wf_same hsame ?_
    rw [List.getElem?_set] at hk'
    by_cases hjk : j = k
    · subst hjk
      simp only [if_true, hlt, if_pos] at hk'
      cases hk'
      rcases splice_mem _ _ _ hcm with hm | hm
      · exact cells_wf wy c hm
      · exact hwo j blk hj c hm
    · simp only [if_neg hjk] at hk'; exact hwo k b' hk' c hcm
  · intro k b' hb'
    show ∃ b'', (σ.own.set j _)[k]? = some b'' ∧ _
    rw [List.getElem?_set]
    by_cases hjk : j = k
    · subst hjk
      rw [hj] at hb'; cases hb'
      simp only [if_true, hlt, if_pos]
      exact ⟨_, rfl, rfl, rfl, fun hr' => by rw [hro] at hr'; cases hr'⟩
    · simp only [if_neg hjk]; exact ⟨b', hb', rfl, rfl, fun h => ⟨h, rfl⟩⟩

theorem store_sound {t : TypeId} {x y : Operand} (ho : o.op = .store t x y) {j b off : Nat} {av : AV} {blk : Blk} {n : Nat} (hx : σ.ev x = some (.a (.p j b off))) (hy : σ.ev y = some av)
    (hj : σ.own[j]? = some blk) (hn : szB P t = some n) (hc : (!blk.ro && av.cells.length == n && decide (off + n ≤ blk.cells.length)) = true) (h1 : (av.cells.all fun c => oneB c.g) = true)
    (hk : K (({ σ with own := σ.own.set j { blk with cells := splice off av.cells blk.cells } } : S).put o.dst none) I F) (hr : Rel σ I F a w) :
    o.wp P a w (Next1 o σ I a K) Q := by
  obtain ⟨w', hrun, hsat⟩ := store_run ho hx hy hj hn hc h1 hr.t hr.wft hr.sat
  have hro : blk.ro = false := by simp only [Bool.and_eq_true, Bool.not_eq_true'] at hc; exact hc.1.1
  obtain ⟨s1, s2, s3⟩ := store_own (x := x) (off := off) hr.wft hr.wfo hy hj hro
  unfold Oper.wp
  rw [hrun, Oper.upon_skip]
  exact ⟨_, I, F, (hr.heap s1 s2 hsat).forget o.dst undef, Imm.le_refl I, hk, s3.trans (KeepO.put _ _ _), _, rfl⟩

theorem raw_run {t : TypeId} {x y : Operand} (ho : o.op = .store t x y) {b off : Nat} {av : AV} (hx : σ.ev x = some (.a (.v (.pointer (some ⟨b, off, none⟩))))) (hy : σ.ev y = some av)
    (hc : (szB P t == some av.cells.length && av.cells.all fun c => oneB c.g) = true) {cs : List Value} {e : Nat} {G : Heap} (hoff : off + av.cells.length ≤ cs.length)
    (hr : RelT σ a) (hs0 : Sat I ((b, Obj.cells cs.toArray e (0, 0)) :: G) w) :
    ∃ w', (execOp a.eval o).run P w = .ok .skip w' ∧ Sat I ((b, Obj.cells (splice off (av.cells.map AV.g) cs).toArray e (0, 0)) :: G) w' := by
  simp only [Bool.and_eq_true, beq_iff_eq] at hc
  obtain ⟨hsz, h1⟩ := hc
  have ex := S.ev_evalT hr hx
  have ey := S.ev_evalT hr hy
  have hcs := av.cells_g
  have hheap := hs0.own _ _ (List.mem_cons_self ..)
  obtain ⟨w', hrun, hh, henv⟩ := storeCells_run (P := P) (b := b) (e := e) (av.cells.map AV.g) 0 off cs w hheap (by simp; omega) (by
    intro v hv
    obtain ⟨c, hc, rfl⟩ := List.mem_map.1 hv
    exact List.all_eq_true.1 h1 c hc)
  have hrun' : (execOp a.eval o).run P w = .ok .skip w' := by
    have hsz' : av.g.cells.size = av.cells.length := by
      have h2 := congrArg List.length hcs
      simp at h2
      omega
    have ex' : a.eval x = .pointer (some ⟨b, off, none⟩) := ex
    simp only [execOp, ho, ex', ey, Instr.storeAt, Instr.sureAddr, storeVar, Sem.run_bind, Sem.run_pure, Result.andThen_ok, sizeOf_run hsz]
    rw [if_neg (by simpa using hsz')]
    have h3 : av.g.cells.toList = av.cells.map AV.g := hcs.symm
    simp only [h3, hrun, Result.andThen_ok]
  exact ⟨w', hrun', hs0.set (w' := w') (by simpa using hh) henv⟩

theorem raw_sound {t : TypeId} {x y : Operand} (ho : o.op = .store t x y) {ad : Addr} {av : AV} (hx : σ.ev x = some (.a (.v (.pointer (some ad))))) (hy : σ.ev y = some av)
    (hc : (szB P t == some av.cells.length && av.cells.all fun c => oneB c.g) = true)
    (h : ∃ (cs : List Value) (e : Nat) (F0 : Heap), F.Perm ((ad.block, Obj.cells cs.toArray e (0, 0)) :: F0) ∧ ad.spot = none ∧ ad.off + av.cells.length ≤ cs.length ∧
          K (σ.put o.dst none) I ((ad.block, Obj.cells (splice ad.off (av.cells.map AV.g) cs).toArray e (0, 0)) :: F0)) (hr : Rel σ I F a w) :
    o.wp P a w (Next1 o σ I a K) Q := by
  obtain ⟨cs, e, F0, hp, hsp, hoff, hk⟩ := h
  obtain ⟨b, off, sp⟩ := ad
  simp only at hsp hoff hk hp
  subst hsp
  obtain ⟨w', hrun, hs1⟩ := raw_run ho hx hy hc hoff hr.t ((hr.sat.perm (List.Perm.append_left _ hp)).perm List.perm_middle)
  unfold Oper.wp
  rw [hrun, Oper.upon_skip]
  have hrel : Rel σ I ((b, Obj.cells (splice off (av.cells.map AV.g) cs).toArray e (0, 0)) :: F0) a w' :=
    hr.heap (Same.refl _) hr.wfo (hs1.perm List.perm_middle.symm)
  exact ⟨_, I, _, hrel.forget o.dst undef, Imm.le_refl I, hk, KeepO.put _ _ _, _, rfl⟩

theorem build_sound {t : TypeId} {len : Nat} {parts : Array (Nat × Operand)} (ho : o.op = .buildSlice t len parts) {pr rl : Bool} (h : wBuild P o t len parts σ pr rl I F K) (hr : Rel σ I F a w) :
    o.wp P a w (Next1 o σ I a K) Q := by
  unfold wBuild at h
  split at h
  · rename_i e hu
    split at h
    · rename_i z zv hz hzv
      obtain ⟨hb, h⟩ := cond_out h
      simp only [Bool.and_eq_true, decide_eq_true_eq] at hb
      split at h
      · rename_i cells hfill
        have hcong := execOp_congr o (by intro cs b hh; rw [ho] at hh; cases hh) (S.knows_eval hr hb.1)
        have hrun : (execOp a.eval o).run P w = .ok (.value (.slice (some ⟨w.heap.size, 0, none⟩) len len)) { w with heap := w.heap.push (.cells cells e) } := by
          rw [hcong]
          have hl : (Array.map (fun (x : Nat × Operand) => match x with | (i, x) => (i, σ.cv x)) parts).toList = parts.toList.map fun x => (x.1, σ.cv x.2) := by simp
          rw [hl] at hfill
          simp only [execOp, ho, Instr.buildSlice, Sem.run_bind, underlying_run hu, Result.andThen_ok, sizeOf_run hz]
          rw [if_neg (by omega)]
          by_cases h0 : len * z = 0
          · simp only [h0, if_true] at hfill ⊢
            have hr0 : Array.range 0 = (#[] : Array Nat) := rfl
            simp only [hr0, Array.map_empty] at hfill
            simp [Sem.run_bind, hr0, hfill, newRow, newObj, Sem.run]
          · simp only [if_neg h0, Sem.run_bind, zeroValue_run hzv, Result.andThen_ok, Sem.run_pure]
            simp [hfill, newRow, newObj, Sem.run, Sem.run_bind]
        unfold Oper.wp
        rw [hrun, Oper.upon_value]
        cases pr with
        | true =>
          simp only [cond_true] at h
          obtain ⟨hle, hsat⟩ := (hr.sat.alloc (.cells cells e)).promote
          have hk := h w.heap.size _ hle (Imm.put_same _ _ _)
          exact ⟨_, _, F, (hr.heap (Same.refl _) hr.wfo hsat).put o.dst (av := .a (.v (.slice (some ⟨w.heap.size, 0, none⟩) len len))) rfl trivial, hle, hk, KeepO.put _ _ _, _, rfl⟩
        | false =>
        cases rl with
        | true => exact raw_next hr _ (h w.heap.size)
        | false =>
        have hk := h w.heap.size
        exact push_next hr e (cells.toList.map fun c => .a (.v c)) (by intro c hc; obtain ⟨x, _, rfl⟩ := List.mem_map.1 hc; trivial) cells (by simp [Function.comp_def, AV.g, At.g]) (av := .a (.s σ.own.length w.heap.size len len)) rfl
          (wf_lastS σ.own ⟨w.heap.size, e, false, _⟩ len len) hk
      · exact h.elim
    · exact h.elim
  · exact h.elim

theorem args_eval (hr : Rel σ I F a w) {l : Array Operand} (h : σ.knows l.toList = true) : l.map a.eval = l.map σ.cv :=
  map_congr_operands (S.knows_eval hr h)

/-- an operation within the calculus of rounds -/
def wpW (P : Program) (o : Oper) (a : Act) (w : World) (next : Act → World → Prop) (Q : Exit → Act → World → Prop) : Prop :=
  o.uponIn Fence.wide 0 P a next Q ((execOp a.eval o).run P w)
theorem upon_in {next : Act → World → Prop} {res : Result Next} (h : o.upon P a next Q res) : o.uponIn Fence.wide 0 P a next Q res := by
  have hw : (Fence.wide.depth.isSome = true → 1 ≤ 0) := fun h => by simp [Fence.wide] at h
  cases res with
  | halt x w' => cases x <;> exact h
  | ok n w' =>
    cases n <;> first | exact h | exact h.elim | skip
    · exact ⟨hw, callsIn_wide.2 h⟩
    · refine ⟨hw, fun c cs _ => ?_⟩
      obtain ⟨v, w1, r, s⟩ := h c cs
      exact ⟨v, w1, r, stepsIn_wide.2 s⟩
theorem wpW_of {next : Act → World → Prop} (h : o.wp P a w next Q) : wpW P o a w next Q := upon_in h

theorem triU_sound {s : Sem Unit} (h : wTriU P o s σ I F K) (hr : Rel σ I F a w) (he : ∀ w', s.run P w = .ok () w' → (execOp a.eval o).run P w = .ok .skip w') :
    wpW P o a w (Next1 o σ I a K) Q := by
  obtain ⟨w', I', G, hrun, hle, hsat, F', hp, hk⟩ := h w hr.sat
  unfold wpW
  rw [he w' hrun, Oper.uponIn_skip]
  have hrel : Rel σ I' F' a w' := hr.heap (Same.refl _) hr.wfo (hsat.perm hp)
  exact ⟨_, I', F', hrel.forget o.dst undef, hle, hk, KeepO.put _ _ _, _, rfl⟩
theorem callV_sound {c : Call} {f : Operand} {E : List Nat} (ho : o.op = .call c) (hc : c.callee = .value f) (hk : σ.knows c.args.toList = true) (hkf : σ.knows [f] = true)
    (h : wCallV P A rid i o (σ.cv f) (c.args.map σ.cv).toList E σ I F K Kp) (hr : Rel σ I F a w)
    (hQ : ∀ ch w' σ' I' F', Rel σ' I' F' a w' → Imm.le I I' → Kp ch σ' I' F' → KeepO σ σ' → Q (.panic ch) a w') :
    wpW P o a w (Next1 o σ I a K) Q := by
  have ha := args_eval hr hk
  have hf : a.eval f = σ.cv f := knows1 hr hkf
  have hw : (Fence.wide.depth.isSome = true → 1 ≤ 0) := fun h => by simp [Fence.wide] at h
  have conv : ∀ e w', RetQ o σ I a K Q e w' → (match e, w' with
      | .returned v, w'' => Next1 o σ I a K (a.put o.dst v) w''
      | .panicked chain, w'' => Q (.panic chain) a w''
      | .outgrown, _ => LetsOut Q) := fun e w' h => by cases e <;> exact h
  have hl : ((c.args.map σ.cv).toList).toArray = c.args.map σ.cv := Array.toArray_toList ..
  rcases h w hr.sat with ⟨fn, first, cap, hv, hg, ht⟩ | ⟨l, hv, ht⟩
  · rw [hl] at ht
    have hrun : (execOp a.eval o).run P w = .ok (.enter fn (first ++ c.args.map σ.cv ++ cap)) w := by
      simp only [execOp, ho, resolve, hc, hf, hv, Deferred.ofValue, Sem.run_bind, Sem.run_pure, Result.andThen_ok, invoke, ha]
      exact hg _ w
    refine wpW_of ?_
    unfold Oper.wp
    rw [hrun, Oper.upon_enter]
    refine Calls.mono ht fun e w' he => ?_
    exact conv e w' (res_sound (Q := Q) hr hQ he)
  · obtain ⟨f', tmps, asg, body, w1, hy, hround⟩ := ht
    rw [hl] at hy
    have hrun : (execOp a.eval o).run P w = .ok (.round l f' tmps asg body) w1 := by
      simp only [execOp, ho, resolve, hc, hf, hv, Deferred.ofValue, Sem.run_bind, Sem.run_pure, Result.andThen_ok, invoke, ha, Array.empty_append, Array.append_empty]
      exact hy
    unfold wpW
    rw [hrun, Oper.uponIn_round]
    refine ⟨hw, hround.mono fun e w' he => ?_⟩
    exact conv e w' (res_sound (Q := Q) hr hQ he)

theorem wOp_sound (hP : ∀ f, A.good f = true → Enters P f) (h : wOp P A rid i o σ I F K Kp) (hr : Rel σ I F a w)
    (hQ : ∀ ch w' σ' I' F', Rel σ' I' F' a w' → Imm.le I I' → Kp ch σ' I' F' → KeepO σ σ' → Q (.panic ch) a w') :
    wpW P o a w (Next1 o σ I a K) Q := by
  unfold wOp at h
  split at h
  · -- alloc
    rename_i t ho
    split at h
    · rename_i z hz
      have hrun : (execOp a.eval o).run P w = .ok (.value (.pointer (some ⟨w.heap.size, 0, none⟩))) { w with heap := w.heap.push (.cells z.cells t) } := by
        simp [execOp, ho, Instr.alloc, Sem.run_bind, zeroValue_run hz, newVar_run]
      refine wpW_of ?_
      unfold Oper.wp
      rw [hrun, Oper.upon_value]
      cases hrl : A.rl rid i with
      | true => rw [hrl] at h; exact raw_next hr _ (h w.heap.size)
      | false =>
      rw [hrl] at h
      have hk := h w.heap.size
      exact push_next hr t (AV.a (.v z)).cells (cells_wf (by trivial)) z.cells (by rw [AV.cells_g]; rfl) (av := .a (.p σ.own.length w.heap.size 0)) rfl (wf_last _ _) hk
    · exact h.elim
  · -- box
    rename_i t x ho
    split at h
    · rename_i av hx
      have hrun : (execOp a.eval o).run P w = .ok (.value (.pointer (some ⟨w.heap.size, 0, none⟩))) { w with heap := w.heap.push (.cells av.g.cells t) } := by
        simp [execOp, ho, Instr.box, Sem.run_bind, S.ev_eval hr hx, newVar_run]
      refine wpW_of ?_
      unfold Oper.wp
      rw [hrun, Oper.upon_value]
      cases hrl : A.rl rid i with
      | true =>
        rw [hrl] at h
        have hk := h w.heap.size
        have hcl : (av.cells.map AV.g).toArray = av.g.cells := by rw [AV.cells_g]
        rw [hcl] at hk
        exact raw_next hr _ hk
      | false =>
      rw [hrl] at h
      have hk := h w.heap.size
      exact push_next hr t av.cells (cells_wf (S.ev_wf hr hx)) av.g.cells (by rw [AV.cells_g]) (av := .a (.p σ.own.length w.heap.size 0)) rfl (wf_last _ _) hk
    · exact h.elim
  · rename_i t len parts ho; exact wpW_of (build_sound ho h hr)
  · -- store
    rename_i t x y ho
    split at h
    · rename_i j b off av hx hy
      split at h
      · rename_i blk n hj hn
        obtain ⟨h1, h⟩ := cond_out h
        obtain ⟨h2, h⟩ := cond_out h
        exact wpW_of (store_sound ho hx hy hj hn h1 h2 h hr)
      · exact h.elim
    · rename_i ad av hx hy
      obtain ⟨h1, h⟩ := cond_out h
      exact wpW_of (raw_sound ho hx hy h1 h hr)
    · exact h.elim
  · -- panic
    rename_i x ho
    split at h
    · rename_i t v hx
      have hrun : (execOp a.eval o).run P w = .halt (.panic (.iface t v)) w := by
        simp [execOp, ho, S.ev_eval hr hx, AV.g, At.g, Instr.panic, goPanic, Sem.run_bind]
      refine wpW_of ?_
      unfold Oper.wp
      rw [hrun, Oper.upon_panic]
      exact hQ _ _ _ _ _ hr (Imm.le_refl I) h (KeepO.refl σ)
    · exact h.elim
  · -- convert
    rename_i src dst x ho
    split at h
    · obtain ⟨hk, h⟩ := cond_out h
      exact wpW_of (tri_sound h hr fun v w' hv => by simp [execOp, ho, Sem.run_bind, knows1 hr hk, hv])
    · obtain ⟨hk, h⟩ := cond_out h
      exact wpW_of (tri_sound h hr fun v w' hv => by simp [execOp, ho, Sem.run_bind, knows1 hr hk, hv])
    · exact wpW_of (pure_sound h hr)
  · -- makeSlice
    rename_i t l c ho
    obtain ⟨hk, h⟩ := cond_out h
    have e1 := S.knows_eval hr hk l (by simp)
    have e2 := S.knows_eval hr hk c (by simp)
    exact wpW_of (tri_sound h hr fun v w' hv => by simp [execOp, ho, Sem.run_bind, e1, e2, hv])
  · -- makeMap
    rename_i t ho
    exact wpW_of (tri_sound h hr fun v w' hv => by simp [execOp, ho, Sem.run_bind, hv])
  · -- mapUpdate
    rename_i t m k x ho
    obtain ⟨hk, h⟩ := cond_out h
    have e1 := S.knows_eval hr hk m (by simp)
    have e2 := S.knows_eval hr hk k (by simp)
    have e3 := S.knows_eval hr hk x (by simp)
    exact triU_sound h hr fun w' hv => by simp [execOp, ho, Sem.run_bind, e1, e2, e3, hv]
  · -- mapEntry
    rename_i t m k ho
    obtain ⟨hk, h⟩ := cond_out h
    have e1 := S.knows_eval hr hk m (by simp)
    have e2 := S.knows_eval hr hk k (by simp)
    exact wpW_of (tri_sound h hr fun v w' hv => by simp [execOp, ho, Sem.run_bind, e1, e2, hv])
  · -- entryStore
    rename_i t m k x ho
    obtain ⟨hk, h⟩ := cond_out h
    have e1 := S.knows_eval hr hk m (by simp)
    have e2 := S.knows_eval hr hk k (by simp)
    have e3 := S.knows_eval hr hk x (by simp)
    exact triU_sound h hr fun w' hv => by simp [execOp, ho, Sem.run_bind, e1, e2, e3, hv]
  · -- defer
    rename_i c ho
    split at h
    · rename_i f hc
      split at h
      · rename_i fn first cap hf
        obtain ⟨hk, h⟩ := cond_out h
        have hrun : (execOp a.eval o).run P w = .ok (.defer (Df.d (.fn fn first cap (c.args.toList.map σ.cv)))) w := by
          have ha := args_eval hr hk
          simp only [execOp, ho, resolve, hc, S.ev_eval hr hf, AV.g, Deferred.ofValue, Sem.run_bind, Sem.run_pure, Result.andThen_ok, ha, Df.d]
          congr 3
          simp
        refine wpW_of ?_
        unfold Oper.wp
        rw [hrun, Oper.upon_defer]
        have hr2 : Rel { σ with df := .fn fn first cap (c.args.toList.map σ.cv) :: σ.df } I F { a with defers := Df.d (.fn fn first cap (c.args.toList.map σ.cv)) :: a.defers } w :=
          ⟨hr.size, hr.tm, by simp [hr.defers], hr.wft, hr.wfo, hr.sat⟩
        exact ⟨_, I, F, hr2.forget o.dst undef, Imm.le_refl I, h, fun i b hb => ⟨b, by rw [S.put_own]; exact hb, rfl, rfl, fun hro => ⟨hro, rfl⟩⟩, undef, by cases o.dst <;> rfl⟩
      · exact h.elim
    · exact h.elim
  · -- lookup
    rename_i t m k ok ho
    obtain ⟨hk, h⟩ := cond_out h
    have e1 := S.knows_eval hr hk m (by simp)
    have e2 := S.knows_eval hr hk k (by simp)
    exact wpW_of (tri_sound h hr fun v w' hv => by simp [execOp, ho, Sem.run_bind, e1, e2, hv])
  · -- call
    rename_i c ho
    split at h
    · rename_i hb
      obtain ⟨hk, h⟩ := cond_out h
      exact wpW_of (tri_sound h hr fun v w' hv => by simp [execOp, ho, resolve, hb, invoke, builtin, Sem.run_bind, args_eval hr hk, hv])
    · rename_i hb
      obtain ⟨hk, h⟩ := cond_out h
      exact wpW_of (tri_sound h hr fun v w' hv => by simp [execOp, ho, resolve, hb, invoke, builtin, Sem.run_bind, args_eval hr hk, hv])
    · exact wpW_of (pure_sound h hr)
    · exact h.elim
    · rename_i f hc
      obtain ⟨hk, h⟩ := cond_out h
      cases hfv : A.fv rid i with
      | true =>
        rw [hfv] at h
        obtain ⟨hkf, h⟩ := cond_out h
        exact callV_sound ho hc hk hkf h hr hQ
      | false =>
      rw [hfv] at h
      simp only [cond_false] at h
      split at h
      · rename_i fn first cap hf
        obtain ⟨hg, h⟩ := cond_out h
        have hrun : (execOp a.eval o).run P w = .ok (.enter fn ((first.map At.g).toArray ++ c.args.map σ.cv ++ (cap.map At.g).toArray)) w := by
          simp only [execOp, ho, resolve, hc, S.ev_eval hr hf, AV.g, Deferred.ofValue, Sem.run_bind, Sem.run_pure, Result.andThen_ok, invoke, args_eval hr hk]
          exact hP fn hg _ w
        refine wpW_of ?_
        unfold Oper.wp
        rw [hrun, Oper.upon_enter]
        exact call_sound h hr hQ
      · rename_i fn first cap hf
        obtain ⟨hg, h⟩ := h
        have hrun : (execOp a.eval o).run P w = .ok (.enter fn (first ++ c.args.map σ.cv ++ cap)) w := by
          simp only [execOp, ho, resolve, hc, S.ev_eval hr hf, AV.g, At.g, Deferred.ofValue, Sem.run_bind, Sem.run_pure, Result.andThen_ok, invoke, args_eval hr hk]
          exact hg _ w
        refine wpW_of ?_
        unfold Oper.wp
        rw [hrun, Oper.upon_enter]
        exact call_sound h hr hQ
      · exact h.elim
  · exact wpW_of (pure_sound h hr)

end sound
end Go.Vc
