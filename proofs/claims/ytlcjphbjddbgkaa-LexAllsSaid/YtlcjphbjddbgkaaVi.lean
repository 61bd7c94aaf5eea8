import Derived.Test.YtlcjphbjddbgkaaVj
set_option linter.unusedSimpArgs false
set_option linter.unusedVariables false
namespace Go.Vc

section sound
variable {P : Program} {A : Ann}

theorem Post.mono {l l' : List Nat} {σ : S} {a : Act} {I : Imm} {K K' : Kt} {e : Exit} {a' : Act} {w' : World} (h : Post l σ a I K e a' w') (hl : ∀ t ∈ l, t ∈ l')
    (hk : ∀ σ I F, K e σ I F → K' e σ I F) : Post l' σ a I K' e a' w' :=
  let ⟨σ', I', F', h1, h2, h3, h4⟩ := h
  ⟨σ', I', F', h1, h2, hk _ _ _ h3, h4.mono hl⟩

theorem Post.trans {l m n : List Nat} {σ σ' : S} {a a' : Act} {I I' : Imm} {K : Kt} {e : Exit} {a'' : Act} {w'' : World} (hk : Keep l σ a σ' a') (hI : Imm.le I I')
    (h : Post m σ' a' I' K e a'' w'') (hl : ∀ t ∈ l, t ∈ n) (hm : ∀ t ∈ m, t ∈ n) : Post n σ a I K e a'' w'' :=
  let ⟨σ2, I2, F2, h1, h2, h3, h4⟩ := h
  ⟨σ2, I2, F2, h1, Imm.le_trans hI h2, h3, (hk.mono hl).trans (h4.mono hm)⟩

theorem W_sound (hP : ∀ f, A.good f = true → Enters P f) : ∀ (c : Code) (n : Nat) (K : Kt) (rd : Option Heap) (ro : Option Nat) (σ : S) (I : Imm) (F : Heap) (a : Act) (w : World), Ctx ro rd →
    W P A rd c n K σ I F → Rel σ I F a w → c.wpIn (Fw ro) 0 P (Post (asg c) σ a I K) a w := by
  intro c
  induction c with
  | skip => intro n K rd ro σ I F a w hc h hr; exact wpIn_skip ⟨σ, I, F, hr, Imm.le_refl I, h, Keep.refl _ _ _⟩
  | label l => intro n K rd ro σ I F a w hc h hr; exact wpIn_label ⟨σ, I, F, hr, Imm.le_refl I, h, Keep.refl _ _ _⟩
  | exit id => intro n K rd ro σ I F a w hc h hr; exact wpIn_exit ⟨σ, I, F, hr, Imm.le_refl I, h, Keep.refl _ _ _⟩
  | goto l => intro n K rd ro σ I F a w hc h hr; exact wpIn_goto ⟨σ, I, F, hr, Imm.le_refl I, h, Keep.refl _ _ _⟩
  | ret => intro n K rd ro σ I F a w hc h hr; exact wpIn_ret ⟨σ, I, F, hr, Imm.le_refl I, h, Keep.refl _ _ _⟩
  | refuse why => intro n K rd ro σ I F a w hc h hr; exact h.elim
  | scope c ih =>
    intro n K rd ro σ I F a w hc h hr
    refine wpIn_scope_straight (wpIn_mono (ih _ _ rd ro σ I F a w hc h hr) ?_)
    intro e a' w' ⟨σ', I', F', h1, h2, h3, h4⟩
    cases e with
    | goto l => exact h3.elim
    | _ => exact ⟨σ', I', F', h1, h2, h3, h4⟩
  | rangeFunc f ps x y ih1 ih2 => intro n K rd ro σ I F a w hc h hr; exact range_sound ih1 ih2 hc h hr
  | region rid ops draw =>
    intro n K rd ro σ I F a w hc h hr
    cases draw with
    | false =>
      obtain ⟨hnd, h⟩ := cond_out h
      have hnd' : ro = none ∨ ops.toList.all (fun o => noDef o.op) = true := by
        cases rd with
        | none => exact .inl hc
        | some R => exact .inr hnd
      refine wpIn_region_list (wOps_sound hP ops.toList 0 σ I F a w hnd' h hr ?_ ?_)
      · exact fun σ' I' F' a' w' h1 h2 h3 h4 => ⟨σ', I', F', h1, h2, h3, h4⟩
      · exact fun ch σ' I' F' a' w' h1 h2 h3 h4 => ⟨σ', I', F', h1, h2, h3, h4⟩
    | true =>
      obtain ⟨hb, h⟩ := cond_out h
      simp only [Bool.and_eq_true] at hb
      have hd : asg (.region rid ops true) = dsts ops.toList := rfl
      split at h <;> exact region_draw hP hb.1 hb.2 h hr fun σ' F' a' w' h1 h2 h3 => ⟨σ', I, F', h1, Imm.le_refl I, h2, h3⟩
  | cond c x y ih1 ih2 =>
    intro n K rd ro σ I F a w hc h hr
    simp only [W] at h
    split at h
    · rename_i b hcc
      have hev := S.ev_eval hr hcc
      simp only [AV.g, At.g] at hev
      refine wpIn_cond hev ?_
      cases b with
      | true => exact wpIn_mono (ih1 _ K rd ro σ I F a w hc h hr) fun e a' w' hp => hp.mono (fun t ht => List.mem_append_left _ ht) fun _ _ _ h => h
      | false => exact wpIn_mono (ih2 _ K rd ro σ I F a w hc h hr) fun e a' w' hp => hp.mono (fun t ht => List.mem_append_right _ ht) fun _ _ _ h => h
    · exact h.elim
  | block id c ih =>
    intro n K rd ro σ I F a w hc h hr
    refine wpIn_block (wpIn_mono (ih _ _ rd ro σ I F a w hc h hr) ?_)
    intro e a' w' ⟨σ', I', F', h1, h2, h3, h4⟩
    cases e with
    | exit id' =>
      simp only [kBlock] at h3
      simp only [Exit.inBlock]
      by_cases hid : id' = id
      · subst hid
        simp only [beq_self_eq_true, cond_true] at h3
        rw [if_pos rfl]; exact ⟨σ', I', F', h1, h2, h3, h4⟩
      · have : (id' == id) = false := by simpa using hid
        rw [this] at h3
        rw [if_neg hid]; exact ⟨σ', I', F', h1, h2, h3, h4⟩
    | _ => exact ⟨σ', I', F', h1, h2, h3, h4⟩
  | seq x y ih1 ih2 =>
    intro n K rd ro σ I F a w hc h hr
    have hx : ∀ t ∈ asg x, t ∈ asg (.seq x y) := fun t ht => List.mem_append_left _ ht
    have hy : ∀ t ∈ asg y, t ∈ asg (.seq x y) := fun t ht => List.mem_append_right _ ht
    simp only [W] at h
    split at h
    · refine wpIn_seq (wpIn_mono (ih1 _ _ rd ro σ I F a w hc h hr) ?_)
      intro e a' w' ⟨σ', I', F', h1, h2, h3, h4⟩
      cases e with
      | normal => exact wpIn_mono (ih2 _ K rd ro σ' I' F' a' w' hc h3 h1) fun e a2 w2 hp => hp.trans h4 h2 hx hy
      | _ => exact ⟨σ', I', F', h1, h2, h3, h4.mono hx⟩
    · rename_i ct hcut
      obtain ⟨hok, h1, h2⟩ := cond_out h
      refine wpIn_seq (wpIn_mono (ih1 _ _ rd ro _ I F a w hc h1 (hr.lock ct)) ?_)
      intro e a' w' ⟨σ', I', F', g1, g2, g3, g4⟩
      have hother : KeepO σ (σ'.unlock σ) := lock_unlock g4.own
      cases e with
      | normal =>
        obtain ⟨hokv, hInv⟩ := cond_out g3
        obtain ⟨hdf, hInv⟩ := dfOk_out hInv
        have hrel : Rel (σ.lay ct (asg x) (σ'.vals ct)) I' F' a' w' := by
          refine Rel.lay ct (asg x) hr g1 ?_ (fun t ht => g4.tm t ht) g4.size hokv hdf
          intro i b hb
          obtain ⟨b1, e1, e2, e3, e4, e5, e6⟩ := lock_at (c := ct) hb
          obtain ⟨b2, f1, f2, f3, f4⟩ := g4.own i b1 e1
          refine ⟨b2, f1, f2.trans e2, f3.trans e3, fun hs => ?_⟩
          have : seg ct.bks [] i = none := by
            have := seg_some (bks := ct.bks) (vs := (σ'.vals ct).drop ct.tms.length) (us := []) (i := i)
            rw [hs] at this
            cases h0 : seg ct.bks [] i with
            | none => rfl
            | some cs => rw [h0] at this; cases this
          exact (f4 (e6 this)).2.trans e4
        have h5 := allLs_at h2 (okv_fits hokv) I' F' g2 hInv
        have hkeep : Keep (asg x) σ a ((σ.lay ct (asg x) (σ'.vals ct)).unlock σ) a' := by
          refine ⟨?_, g4.tm, g4.size⟩
          exact unlock_keep hok (KeepO.refl _)
        exact wpIn_mono (ih2 _ K rd ro _ I' F' a' w' hc h5 hrel.unlock) fun e a2 w2 hp => hp.trans hkeep g2 hx hy
      | _ => exact ⟨_, I', F', g1.unlock, g2, g3, (⟨hother, g4.tm, g4.size⟩ : Keep (asg x) σ a _ a').mono hx⟩
  | loop c ih =>
    intro n K rd ro σ I F a w hc h hr
    simp only [W] at h
    split at h
    · exact h.elim
    · rename_i ct hcut
      obtain ⟨hokv, ⟨m0, h0⟩, h⟩ := cond_out h
      have hok : bkOk σ.own ct.bks = true := by simp only [S.okv, Bool.and_eq_true] at hokv; exact hokv.2
      refine wp_loop_m (fun m a1 w1 => ∃ vs I1 F1, Rel (σ.lay ct (asg c) vs) I1 F1 a1 w1 ∧ Imm.le I I1 ∧ ct.Inv (σ.fix ct) I F vs m I1 F1 ∧ fitsAll ct.lfs vs = true ∧
        (∀ t, t ∉ asg c → a1.tmps[t]? = a.tmps[t]?) ∧ a1.tmps.size = a.tmps.size) ⟨m0, σ.vals ct, I, F, ?_, Imm.le_refl I, h0, okv_fits hokv, fun _ _ => rfl, rfl⟩ ?_
      · exact Rel.lay ct (asg c) hr hr (fun i b hb => ⟨b, hb, rfl, rfl, fun _ => rfl⟩) (fun _ _ => rfl) rfl hokv rfl
      · intro m a1 w1 ⟨vs, I1, F1, r1, r2, r3, r4, r5, r6⟩
        have hb := allLs_at h r4 m I1 F1 r2 r3
        refine wpIn_mono (ih _ _ rd ro _ I1 F1 a1 w1 hc hb r1) ?_
        intro e a' w' ⟨σ', I', F', g1, g2, g3, g4⟩
        have hkeep : Keep (asg c) σ a (σ'.unlock σ) a' := ⟨unlock_keep hok g4.own, fun t ht => (g4.tm t ht).trans (r5 t ht), g4.size.trans r6⟩
        cases e with
        | normal =>
          obtain ⟨hokv', hInv⟩ := cond_out g3
          obtain ⟨hdf, m', hlt, hInv⟩ := dfOk_out hInv
          refine ⟨m', hlt, σ'.vals ct, I', F', ?_, Imm.le_trans r2 g2, hInv, okv_fits hokv', hkeep.tm, hkeep.size⟩
          refine Rel.lay ct (asg c) hr g1 ?_ hkeep.tm hkeep.size hokv' hdf
          intro i b hb
          have e0 : (σ.lay ct (asg c) vs).own[i]? = some (match seg ct.bks (vs.drop ct.tms.length) (0 + i) with
            | some cs => { b with cells := cs.map fun v => .a (.v v) }
            | none => { b with ro := true }) := by show (layOwn _ _ 0 σ.own)[i]? = _; rw [layOwn_get, hb]; rfl
          obtain ⟨b2, f1, f2, f3, f4⟩ := g4.own i _ e0
          refine ⟨b2, f1, ?_, ?_, fun hs => ?_⟩
          · rw [f2]; split <;> rfl
          · rw [f3]; split <;> rfl
          · have hs' : seg ct.bks (vs.drop ct.tms.length) (0 + i) = none := by
              rw [Nat.zero_add]
              have := seg_some (bks := ct.bks) (vs := (σ'.vals ct).drop ct.tms.length) (us := vs.drop ct.tms.length) (i := i)
              rw [hs] at this
              cases h0 : seg ct.bks (vs.drop ct.tms.length) i with
              | none => rfl
              | some cs => rw [h0] at this; cases this
            rw [hs'] at f4
            exact (f4 rfl).2
        | _ => exact ⟨_, I', F', g1.unlock, Imm.le_trans r2 g2, g3, hkeep⟩

/-! ### a whole function -/
def resOne (P : Program) (σ : S) : ResultVar → Option Value
  | .tmp t => match σ.tm[t]? with
    | some (some av) => some av.g
    | _ => none
  | .cell x t => match σ.tm[x]? with
    | some (some (.a (.p i _ off))) =>
      match σ.own[i]?, aggB P t with
      | some blk, some false => (blk.cells[off]?).map AV.g
      | some blk, some true => match szB P t with
        | some n => cond (((blk.cells.drop off).take n).length == n) (some (.agg (((blk.cells.drop off).take n).map AV.g).toArray)) none
        | none => none
      | _, _ => none
    | _ => none
def resAll (P : Program) (σ : S) : List ResultVar → Option (List Value)
  | [] => some []
  | r :: rs => match resOne P σ r, resAll P σ rs with
    | some v, some vs => some (v :: vs)
    | _, _ => none
def resVal : List Value → Value
  | [v] => v
  | vs => .tuple vs.toArray

def resSem (a : Act) : ResultVar → Sem Value
  | .tmp t => pure (a.tmps.getD t undef)
  | .cell x t => do loadVar t (← asAddr (a.tmps.getD x undef))
theorem resOne_run {σ : S} {I : Imm} {F : Heap} {a : Act} {w : World} (hr : Rel σ I F a w) {r : ResultVar} {v : Value} (h : resOne P σ r = some v) :
    (resSem a r).run P w = .ok v w := by
  cases r with
  | tmp t =>
    simp only [resOne] at h
    split at h
    · rename_i av ht
      have := hr.tm t av ht
      cases h
      simp [resSem, this]
    · cases h
  | cell x t =>
    simp only [resOne] at h
    split at h
    · rename_i i b off hx
      have hv := hr.tm x _ hx
      have hwf := hr.wft x _ hx
      simp only [AV.g, At.g] at hv
      have hl : wLoadOwn P t σ.own i off fun y => y.g = v := by
        unfold wLoadOwn
        split at h
        · rename_i blk hb ha
          simp only [hb, ha]
          cases hc : blk.cells[off]? with
          | none => rw [hc] at h; cases h
          | some av => rw [hc] at h; simp only [Option.map_some, Option.some.injEq] at h; exact h
        · rename_i blk hb ha
          simp only [hb, ha]
          split at h
          · rename_i n hn
            simp only [hn]
            cases hlen : (((blk.cells.drop off).take n).length == n) with
            | false => rw [hlen] at h; cases h
            | true => rw [hlen] at h; simp only [cond_true, Option.some.injEq] at h; exact h
          · cases h
        · cases h
      obtain ⟨av, hg, _, hload⟩ := wLoadOwn_out hl
      have := hload b hwf w fun blk hb => hr.sat.get hb
      rw [hg] at this
      simp [resSem, hv, asAddr, Sem.run_bind, this]
    · cases h

theorem resAll_run {σ : S} {I : Imm} {F : Heap} {a : Act} {w : World} (hr : Rel σ I F a w) : ∀ {rs : List ResultVar} {vs : List Value}, resAll P σ rs = some vs →
    (rs.mapM (resSem a)).run P w = .ok vs w
  | [], vs, h => by simp only [resAll, Option.some.injEq] at h; subst h; rfl
  | r :: rs, vs, h => by
    simp only [resAll] at h
    split at h
    · rename_i v us h1 h2
      cases h
      simp [Sem.run_bind, resOne_run hr h1, resAll_run hr h2]
    · cases h

theorem results_run {fn : Func} {σ : S} {I : Imm} {F : Heap} {a : Act} {w : World} (hr : Rel σ I F a w) {vs : List Value} (h : resAll P σ fn.results.toList = some vs) :
    (results fn a.tmps).run P w = .ok (resVal vs) w := by
  have h1 := resAll_run hr h
  have h2 : results fn a.tmps = (do
      let vs ← fn.results.mapM (resSem a)
      pure (if h : vs.size = 1 then vs[0] else .tuple vs)) := rfl
  rw [h2, Array.mapM_eq_mapM_toList]
  simp only [Sem.run_bind, Sem.run_map, h1, Result.andThen_ok, Sem.run_pure]
  congr 1
  match vs with
  | [] => rfl
  | [v] => rfl
  | _ :: _ :: _ => rfl

/-- what stands behind a function's body: n0 blocks came in, those that 'keep' names go out with the result -/
def pick (own : List Blk) : List Nat → List Blk
  | [] => []
  | i :: r => match own[i]? with
    | some b => b :: pick own r
    | none => pick own r
def modeOf : Option (List PanicEntry) → FrameMode
  | none => .returning
  | some ch => .panicking ch
/-- a closure that stands off till the function's end -/
def TriD (P : Program) (f : FuncId) (args : List Value) (u : FrameMode) (I : Imm) (F : Heap) (Q : Ending → FrameMode → Imm → Heap → Prop) : Prop :=
  ∀ w, Sat I F w → CallsDIn Fence.wide 0 P f args.toArray u w fun e u' w' => ∃ I' F', Imm.le I I' ∧ Sat I' F' w' ∧ Q e u' I' F'
/-- what stands behind a body: the calls that stand off, in order; then the results -/
def kEnd (P : Program) (A : Ann) (rs : List ResultVar) (keep : List Nat) (Q : Ending → Imm → Heap → Prop) : List Df → Option (List PanicEntry) → S → Imm → Heap → Prop
  | [], none, σ, I, F => match resAll P σ rs with
    | some vs => Q (.returned (resVal vs)) I (blks (pick σ.own keep) ++ F)
    | none => False
  | [], some ch, σ, I, F => Q (.panicked ch) I (blks (pick σ.own keep) ++ F)
  | .mark D :: r, u, σ, I, F => ∃ F3 : Heap, F.Perm ((D, .deferred (some [])) :: F3) ∧ kEnd P A rs keep Q r u σ I F3
  | .fn f first cap args :: r, u, σ, I, F => cond (A.good f)
    (TriD P f (first.map At.g ++ args ++ cap.map At.g) (modeOf u) I (blks σ.own ++ F) fun e u' I' G => ∃ v, e = .returned v ∧
      exOwn A.shp (esc σ.own 2 (first.flatMap At.idx ++ cap.flatMap At.idx)) 0 σ.own fun own' => ∃ F', G.Perm (blks own' ++ F') ∧
        ((settle u' = .returning ∧ kEnd P A rs keep Q r none { σ with own := own' } I' F') ∨ (∃ ch, settle u' = .panicking ch ∧ kEnd P A rs keep Q r (some ch) { σ with own := own' } I' F'))) False
def kBody (P : Program) (A : Ann) (rs : List ResultVar) (keep : List Nat) (Q : Ending → Imm → Heap → Prop) : Kt
  | .normal, σ, I, F => kEnd P A rs keep Q σ.df none σ I F
  | .ret, σ, I, F => kEnd P A rs keep Q σ.df none σ I F
  | .panic ch, σ, I, F => kEnd P A rs keep Q σ.df (some ch) σ I F
  | _, _, _, _ => False

def asc : Nat → List Nat → Bool
  | _, [] => true
  | n, i :: r => decide (n ≤ i) && asc (i + 1) r
theorem pick_sub : ∀ (keep : List Nat) (n : Nat) (own : List Blk), asc n keep = true → (pick own keep).Sublist (own.drop n)
  | [], n, own, _ => by simp [pick]
  | i :: r, n, own, h => by
    simp only [asc, Bool.and_eq_true, decide_eq_true_eq] at h
    have ih := pick_sub r (i + 1) own h.2
    simp only [pick]
    have hd : (own.drop (i + 1)).Sublist (own.drop n) := by
      have : own.drop (i + 1) = (own.drop n).drop (i + 1 - n) := by rw [List.drop_drop]; congr 1; omega
      rw [this]; exact List.drop_sublist _ _
    cases hb : own[i]? with
    | none => exact ih.trans hd
    | some b =>
      have hlt : i < own.length := by
        rcases Nat.lt_or_ge i own.length with h' | h'
        · exact h'
        · simp [List.getElem?_eq_none h'] at hb
      have hc : own.drop i = b :: own.drop (i + 1) := by
        rw [List.drop_eq_getElem_cons hlt]
        rw [List.getElem?_eq_getElem hlt] at hb
        rw [Option.some.inj hb]
      have hd' : (own.drop i).Sublist (own.drop n) := by
        have : own.drop i = (own.drop n).drop (i - n) := by rw [List.drop_drop]; congr 1; omega
        rw [this]; exact List.drop_sublist _ _
      exact ((List.Sublist.cons_cons b ih).trans (by rw [hc]; exact List.Sublist.refl _)).trans hd'

/-- the blocks that come in -/
def argTm (args : List AV) (n : Nat) : List (Option AV) := args.map some ++ List.replicate (n - args.length) none

theorem own_sound {shp : Nat → List Sh} {σ : S} {I I' : Imm} {F F' G : Heap} {E : List Nat} {a : Act} {w w' : World} (hr : Rel σ I F a w) {own' : List Blk} (hsat : Sat I' G w')
    (h : own'.length = σ.own.length ∧ ∀ (j : Nat) (b : Blk), σ.own[j]? = some b → ∃ b' : Blk, own'[j]? = some b' ∧ b'.num = b.num ∧ b'.elem = b.elem ∧ b'.ro = b.ro ∧
      ((∃ vs : List Value, b'.cells = vs.map fun v => .a (.v v)) ∨ b'.cells = b.cells) ∧ (b.ro = true → b'.cells = b.cells)) (hp : G.Perm (blks own' ++ F')) : Rel { σ with own := own' } I' F' a w' := by
  obtain ⟨hl, hk⟩ := h
  have hkeep : KeepO σ { σ with own := own' } := fun j b hb => by
    obtain ⟨b', h1, h2, h3, h4, _, h6⟩ := hk j b hb
    exact ⟨b', h1, h2, h3, fun hro => ⟨by rw [h4]; exact hro, h6 hro⟩⟩
  refine hr.heap hkeep.same ?_ (hsat.perm hp)
  intro j b' hj c hc
  have hlt : j < σ.own.length := by
    rcases Nat.lt_or_ge j own'.length with h' | h'
    · omega
    · simp [List.getElem?_eq_none h'] at hj
  obtain ⟨b, hb⟩ : ∃ b, σ.own[j]? = some b := ⟨σ.own[j], by simp [hlt]⟩
  obtain ⟨b'', h1, _, _, _, h5, _⟩ := hk j b hb
  rw [hj] at h1; cases h1
  rcases h5 with ⟨vs, e⟩ | e
  · rw [e] at hc; obtain ⟨v, _, e⟩ := List.mem_map.1 hc; subst e; trivial
  · rw [e] at hc; exact AV.wf_same hkeep.same (hr.wfo j b hb c hc)
theorem leaves_sound (hP : ∀ f, A.good f = true → Enters P f) {fn : Func} {keep : List Nat} (hk : asc 0 keep = true) {Q : Ending → Imm → Heap → Prop} {I0 : Imm} : ∀ (df : List Df) (u : Option (List PanicEntry)) (σ : S) (I : Imm) (F : Heap) (a : Act) (w : World),
    kEnd P A fn.results.toList keep Q df u σ I F → Rel σ I F a w → Imm.le I0 I → LeavesInM Fence.wide 0 P fn a.tmps (EndQ I0 Q) (df.map Df.d) (modeOf u) w := by
  have hsub : ∀ {σ : S} {I : Imm} {F : Heap} {a : Act} {w : World}, Rel σ I F a w → Sat I (blks (pick σ.own keep) ++ F) w := fun {σ I F a w} h1 => by
    have h5 := pick_sub keep 0 σ.own hk
    rw [List.drop_zero] at h5
    exact h1.sat.sub ((h5.map _).append (List.Sublist.refl F))
  intro df
  induction df with
  | nil =>
    intro u σ I F a w h hr hle
    cases u with
    | none =>
      simp only [kEnd] at h
      split at h
      · rename_i vs hvs
        exact ⟨_, results_run hr hvs, I, _, hle, hsub hr, h⟩
      · exact h.elim
    | some ch => exact ⟨I, _, hle, hsub hr, h⟩
  | cons d df ih =>
    intro u σ I F a w h hr hle
    have hrun : modeOf u ≠ .run := by cases u <;> exact fun h => by cases h
    cases d with
    | mark D =>
      obtain ⟨F3, hp, h⟩ := h
      have hs : Sat I ((D, .deferred (some [])) :: (blks σ.own ++ F3)) w := (hr.sat.perm (List.Perm.append_left _ hp)).perm List.perm_middle
      refine ⟨hrun, .inl ⟨D, _, rfl, run_takeDeferred hs.at_head, ih u σ I F3 a _ h ?_ hle⟩⟩
      exact hr.heap (Same.refl _) hr.wfo ((hs.put_head (o' := .deferred none)).sub (List.sublist_cons_self _ _))
    | fn f first cap args =>
      obtain ⟨hg, h⟩ := cond_out h
      refine ⟨hrun, .inr ⟨fun h => by simp [Fence.wide] at h, .func f, (cap.map At.g).toArray, f, (first.map At.g).toArray ++ args.toArray ++ (cap.map At.g).toArray, rfl, ?_, fun _ _ => trivial, ?_⟩⟩
      · simp only [Df.d, invoke]; exact hP f hg _ w
      · have hc := h w hr.sat
        have ha : (first.map At.g ++ args ++ cap.map At.g).toArray = (first.map At.g).toArray ++ args.toArray ++ (cap.map At.g).toArray := by simp
        rw [ha] at hc
        refine hc.mono fun e u' w' ⟨I', G, hle', hs', v, he, hq⟩ => ?_
        subst he
        obtain ⟨own', ⟨F', hp, hor⟩, hown⟩ := exOwn_out hq
        have hrel := own_sound (shp := A.shp) (E := []) hr hs' hown hp
        rcases hor with ⟨hm, hk2⟩ | ⟨ch, hm, hk2⟩
        · have := ih none _ I' F' a w' hk2 hrel (Imm.le_trans hle hle')
          show LeavesInM Fence.wide 0 P fn a.tmps (EndQ I0 Q) (df.map Df.d) (settle u') w'
          rw [hm]; exact this
        · have := ih (some ch) _ I' F' a w' hk2 hrel (Imm.le_trans hle hle')
          show LeavesInM Fence.wide 0 P fn a.tmps (EndQ I0 Q) (df.map Df.d) (settle u') w'
          rw [hm]; exact this

theorem tri_of_W (hP : ∀ f, A.good f = true → Enters P f) {f : FuncId} {fn : Func} {c : Code} (hf : P.funcs[f]? = some fn) (hb : fn.body = some c) {args : List AV} {own : List Blk}
    {I : Imm} {F : Heap} {keep : List Nat} {Q : Ending → Imm → Heap → Prop} (hk : asc 0 keep = true) (hwa : ∀ x ∈ args, AV.wf own x) (hwo : ∀ b ∈ own, ∀ x ∈ b.cells, AV.wf own x)
    (h : W P A none c 0 (kBody P A fn.results.toList keep Q) ⟨argTm args fn.ntmps, own, []⟩ I F) {vs : Array Value} (hv : vs = (args.map AV.g).toArray) : Tri P f vs I (blks own ++ F) Q := by
  subst hv
  intro w hw
  refine callsIn_wide.1 (callsIn_of_wp_marks (n := 0) hf hb trivial ?_)
  have hrel : Rel ⟨argTm args fn.ntmps, own, []⟩ I F { tmps := (args.map AV.g).toArray ++ Array.replicate (fn.ntmps - (args.map AV.g).toArray.size) undef, defers := [] } w := by
    refine ⟨by simp [argTm], ?_, rfl, ?_, ?_, hw⟩
    · intro t av ht
      simp only [argTm, List.getElem?_append] at ht
      split at ht
      · rename_i hlt
        simp only [List.getElem?_map] at ht
        cases ha : args[t]? with
        | none => rw [ha] at ht; simp at ht
        | some x =>
          rw [ha] at ht
          simp only [Option.map_some, Option.some.injEq] at ht
          subst ht
          simp at hlt
          rw [Array.getElem?_append_left (by simpa using hlt)]
          simp [ha]
      · rw [List.getElem?_replicate] at ht; split at ht <;> cases ht
    · intro t av ht
      simp only [argTm, List.getElem?_append] at ht
      split at ht
      · simp only [List.getElem?_map] at ht
        cases ha : args[t]? with
        | none => rw [ha] at ht; simp at ht
        | some x =>
          rw [ha] at ht
          simp only [Option.map_some, Option.some.injEq] at ht
          subst ht
          exact hwa _ (List.mem_of_getElem? ha)
      · rw [List.getElem?_replicate] at ht; split at ht <;> cases ht
    · exact fun i b hb' x hx => hwo b (List.mem_of_getElem? hb') x hx
  refine wpIn_mono (W_sound hP c 0 _ none none _ I F _ w rfl h hrel) ?_
  intro e a' w' ⟨σ', I', F', h1, h2, h3, h4⟩
  cases e with
  | normal =>
    have := leaves_sound hP hk σ'.df none σ' I' F' a' w' h3 h1 h2
    rw [← h1.defers] at this; exact this
  | ret =>
    have := leaves_sound hP hk σ'.df none σ' I' F' a' w' h3 h1 h2
    rw [← h1.defers] at this; exact this
  | panic ch =>
    have := leaves_sound hP hk σ'.df (some ch) σ' I' F' a' w' h3 h1 h2
    rw [← h1.defers] at this; exact this
  | exit id => exact h3.elim
  | goto l => exact h3.elim
  | outgrown => exact h3.elim

end sound
def goodB (P : Program) (f : Nat) : Bool :=
  match P.funcs[f]? with
  | some fn => !(fn.name == "runtime.NumGoroutine") && fn.body.isSome
  | none => false
theorem enters_of_good {P : Program} {f : Nat} (h : goodB P f = true) : Enters P f := by
  intro args w
  unfold goodB at h
  split at h
  · rename_i fn hf
    simp only [Bool.and_eq_true, Bool.not_eq_true'] at h
    have h1 : ¬ fn.name = "runtime.NumGoroutine" := by simpa using h.1
    have h2 : ¬ fn.body = none := fun e => by rw [e] at h; simp at h
    simp [callFunc, program, Sem.run_bind, Sem.run, hf, h1, h2]
  · cases h
def lk (l : List (Nat × List Sh)) (t : Nat) : List Sh :=
  match l with
  | [] => []
  | (s, x) :: r => cond (s == t) x (lk r t)
def memB : List Nat → Nat → Bool
  | [], _ => false
  | x :: r, n => x == n || memB r n
def ckt (l : List (Nat × Cut)) (n : Nat) : Option Cut :=
  match l with
  | [] => none
  | (m, c) :: r => cond (m == n) (some c) (ckt r n)
def dsk (l : List (Nat × Nat × List Nat)) (n : Nat) : Option (Nat × List Nat) :=
  match l with
  | [] => none
  | (m, k, h) :: r => cond (m == n) (some (k, h)) (dsk r n)
theorem hP_of {P : Program} (l : List Nat) (h : l.all (goodB P) = true) : ∀ f, memB l f = true → Enters P f := by
  intro f hf
  have : f ∈ l := by
    clear h
    induction l with
    | nil => simp [memB] at hf
    | cons x r ih =>
      simp only [memB, Bool.or_eq_true, beq_iff_eq] at hf
      rcases hf with hf | hf
      · exact hf ▸ List.mem_cons_self ..
      · exact List.mem_cons_of_mem _ (ih hf)
  exact enters_of_good (List.all_eq_true.1 h f this)
end Go.Vc
