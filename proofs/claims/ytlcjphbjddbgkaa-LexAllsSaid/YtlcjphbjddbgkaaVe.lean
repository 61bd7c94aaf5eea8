import Derived.Test.YtlcjphbjddbgkaaVd
import Derived.RangeFuncIn
set_option linter.unusedSimpArgs false
set_option linter.unusedVariables false
namespace Go.Vc

/-- what is asked of a loop's head, or of a place where ways meet: the temporaries and blocks that may change, and what holds of them -/
structure Cut where
  tms : List (Nat × Lf)
  bks : List (Nat × List Lf)
  Inv : List Value → Imm → Heap → List Value → Nat → Imm → Heap → Prop
  fx : List Nat := []
  ps : List Sh := []
structure Ann where
  sp : Nat → Nat → Bool
  pn : Nat → Bool
  good : Nat → Bool
  shp : Nat → List Sh
  cut : Nat → Option Cut
  pr : Nat → Nat → Bool := fun _ _ => false
  ds : Nat → Option (Nat × List Nat) := fun _ => none
  rl : Nat → Nat → Bool := fun _ _ => false
  fv : Nat → Nat → Bool := fun _ _ => false

def Enters (P : Program) (f : FuncId) : Prop := ∀ args w, (callFunc f args).run P w = .ok (.enter f args) w
/-- what stands behind a call -/
def EndQ (I : Imm) (Q : Ending → Imm → Heap → Prop) (e : Ending) (w : World) : Prop := ∃ I' F', Imm.le I I' ∧ Sat I' F' w ∧ Q e I' F'
/-- a call of a closure -/
def TriC (P : Program) (v : Value) (args : List Value) (I : Imm) (F : Heap) (Q : Ending → Imm → Heap → Prop) : Prop :=
  ∀ w, Sat I F w → ∃ fn first cap, v = .func (.func fn) first cap ∧ Enters P fn ∧ Calls P fn (first ++ args.toArray ++ cap) w (EndQ I Q)
/-- a round of a range over a function -/
def RoundV (P : Program) (l : Nat) (args : List Value) (w : World) (R : Ending → World → Prop) : Prop :=
  ∃ f tmps asg body w1, (Instr.yield l args.toArray).run P w = .ok (.round l f tmps asg body) w1 ∧ RoundIn Fence.wide 0 P l f tmps asg body w1 R
/-- a call of a function value, whatever it is -/
def TriV (P : Program) (v : Value) (args : List Value) (I : Imm) (F : Heap) (Q : Ending → Imm → Heap → Prop) : Prop :=
  ∀ w, Sat I F w → (∃ fn first cap, v = .func (.func fn) first cap ∧ Enters P fn ∧ Calls P fn (first ++ args.toArray ++ cap) w (EndQ I Q)) ∨ ∃ l, v = .func (.yield l) #[] #[] ∧ RoundV P l args w (EndQ I Q)
theorem EndQ.mono {I J : Imm} {Q Q' : Ending → Imm → Heap → Prop} {e : Ending} {w : World} (h : EndQ I Q e w) (hl : Imm.le J I) (k : ∀ e I' F', Imm.le I I' → Q e I' F' → Q' e I' F') : EndQ J Q' e w :=
  let ⟨I', F', h1, h2, h3⟩ := h; ⟨I', F', Imm.le_trans hl h1, h2, k _ _ _ h1 h3⟩
theorem TriC.mono {P : Program} {v : Value} {args : List Value} {I : Imm} {F : Heap} {Q Q' : Ending → Imm → Heap → Prop} (h : TriC P v args I F Q) (k : ∀ e I' F', Imm.le I I' → Q e I' F' → Q' e I' F') : TriC P v args I F Q' := fun w hw =>
  let ⟨fn, a, b, h1, h2, h3⟩ := h w hw; ⟨fn, a, b, h1, h2, h3.mono fun e w' he => he.mono (Imm.le_refl I) k⟩
/-- from any world that fits it may be walked from another state -/
theorem TriV.pre {P : Program} {v : Value} {args : List Value} {I : Imm} {F : Heap} {Q : Ending → Imm → Heap → Prop} (h : ∀ w, Sat I F w → ∃ J G, Imm.le I J ∧ Sat J G w ∧ TriV P v args J G Q) : TriV P v args I F Q := fun w hw => by
  obtain ⟨J, G, hl, hs, ht⟩ := h w hw
  rcases ht w hs with ⟨fn, a, b, h1, h2, h3⟩ | ⟨l, h1, f, tmps, asg, body, w1, h2, h3⟩
  · exact .inl ⟨fn, a, b, h1, h2, h3.mono fun e w' he => he.mono hl fun _ _ _ _ h => h⟩
  · exact .inr ⟨l, h1, f, tmps, asg, body, w1, h2, h3.mono fun e w' he => he.mono hl fun _ _ _ _ h => h⟩
theorem TriV.mono {P : Program} {v : Value} {args : List Value} {I : Imm} {F : Heap} {Q Q' : Ending → Imm → Heap → Prop} (h : TriV P v args I F Q) (k : ∀ e I' F', Imm.le I I' → Q e I' F' → Q' e I' F') : TriV P v args I F Q' := fun w hw => by
  rcases h w hw with ⟨fn, a, b, h1, h2, h3⟩ | ⟨l, h1, f, tmps, asg, body, w1, h2, h3⟩
  · exact .inl ⟨fn, a, b, h1, h2, h3.mono fun e w' he => he.mono (Imm.le_refl I) k⟩
  · exact .inr ⟨l, h1, f, tmps, asg, body, w1, h2, h3.mono fun e w' he => he.mono (Imm.le_refl I) k⟩
theorem TriV.perm {P : Program} {v : Value} {args : List Value} {I : Imm} {F G : Heap} {Q : Ending → Imm → Heap → Prop} (h : TriV P v args I F Q) (p : G.Perm F) : TriV P v args I G Q := fun w hw => h w (hw.perm p)

def S.push (σ : S) (b : Blk) (dst : Option Nat) : S :=
  ({ σ with own := σ.own ++ [b] } : S).put dst (some (.a (.p σ.own.length b.num 0)))
def S.pushS (σ : S) (b : Blk) (len : Nat) (dst : Option Nat) : S :=
  ({ σ with own := σ.own ++ [b] } : S).put dst (some (.a (.s σ.own.length b.num len len)))

/-- the value is laid down; a bool that is asked for later parts the ways here -/
def wFin (A : Ann) (rid i : Nat) (dst : Option Nat) (av : AV) (σ : S) (K : S → Prop) : Prop :=
  cond (A.sp rid i)
    (match av with
      | .a (.v (.bool t)) => (t = true → K (σ.put dst (some (.a (.v (.bool true)))))) ∧ (t = false → K (σ.put dst (some (.a (.v (.bool false))))))
      | _ => False)
    (K (σ.put dst (some av)))

def At.idx : At → List Nat
  | .v _ => []
  | .p i _ _ => [i]
  | .s i _ _ _ => [i]
def AV.idx : AV → List Nat
  | .a x => x.idx
  | .f _ first cap => first.flatMap At.idx ++ cap.flatMap At.idx
def esc (own : List Blk) : Nat → List Nat → List Nat
  | 0, l => l
  | n + 1, l => esc own n (l ++ l.flatMap fun i => match own[i]? with
    | some b => b.cells.flatMap AV.idx
    | none => [])
def S.escs (σ : S) (l : List Operand) : List Nat := esc σ.own 2 (l.flatMap fun x => match σ.ev x with
  | some av => av.idx
  | none => [])
def Blk.leaves (shp : Nat → List Sh) (b : Blk) : List Lf :=
  match shp b.elem with
  | [sh] => (List.replicate (b.cells.length / sh.leaves.length) sh.leaves).flatten
  | _ => []
def exOwn (shp : Nat → List Sh) (E : List Nat) : Nat → List Blk → (List Blk → Prop) → Prop
  | _, [], Q => Q []
  | i, b :: r, Q => cond (!b.ro && E.contains i)
      (exLs (b.leaves shp) fun vs => exOwn shp E (i + 1) r fun own' => Q ({ b with cells := vs.map fun v => .a (.v v) } :: own'))
      (exOwn shp E (i + 1) r fun own' => Q (b :: own'))

def wRes (A : Ann) (rid i : Nat) (o : Oper) (E : List Nat) (pan : Bool) (σ : S) (K : S → Imm → Heap → Prop) (Kp : List PanicEntry → S → Imm → Heap → Prop)
    (e : Ending) (I' : Imm) (G : Heap) : Prop :=
  cond pan
      ((exRes (A.shp o.type) fun v => e = .returned v ∧ exOwn A.shp E 0 σ.own fun own' => ∃ F', G.Perm (blks own' ++ F') ∧
          wFin A rid i o.dst (.a (.v v)) { σ with own := own' } fun σ' => K σ' I' F') ∨
        ∃ ch, e = .panicked ch ∧ exOwn A.shp E 0 σ.own fun own' => ∃ F', G.Perm (blks own' ++ F') ∧ Kp ch { σ with own := own' } I' F')
      (exRes (A.shp o.type) fun v => e = .returned v ∧ exOwn A.shp E 0 σ.own fun own' => ∃ F', G.Perm (blks own' ++ F') ∧
          wFin A rid i o.dst (.a (.v v)) { σ with own := own' } fun σ' => K σ' I' F')
def wCall (P : Program) (A : Ann) (rid i : Nat) (o : Oper) (fn : Nat) (args : Array Value) (E : List Nat) (pan : Bool) (σ : S) (I : Imm) (F : Heap)
    (K : S → Imm → Heap → Prop) (Kp : List PanicEntry → S → Imm → Heap → Prop) : Prop :=
  Tri P fn args I (blks σ.own ++ F) fun e I' G => wRes A rid i o E pan σ K Kp e I' G
def wCallV (P : Program) (A : Ann) (rid i : Nat) (o : Oper) (v : Value) (args : List Value) (E : List Nat) (σ : S) (I : Imm) (F : Heap)
    (K : S → Imm → Heap → Prop) (Kp : List PanicEntry → S → Imm → Heap → Prop) : Prop :=
  TriV P v args I (blks σ.own ++ F) fun e I' G => wRes A rid i o E (A.pn 0) σ K Kp e I' G
def wTriU (P : Program) (o : Oper) (s : Sem Unit) (σ : S) (I : Imm) (F : Heap) (K : S → Imm → Heap → Prop) : Prop :=
  TriU P s I (blks σ.own ++ F) fun I' G => ∃ F', G.Perm (blks σ.own ++ F') ∧ K (σ.put o.dst none) I' F'

def wTri (P : Program) (A : Ann) (rid i : Nat) (o : Oper) (s : Sem Value) (σ : S) (I : Imm) (F : Heap) (K : S → Imm → Heap → Prop) : Prop :=
  TriE P s I (blks σ.own ++ F) fun v I' G => exRes (A.shp o.type) fun x => v = x ∧ ∃ F', G.Perm (blks σ.own ++ F') ∧
    wFin A rid i o.dst (.a (.v x)) σ fun σ' => K σ' I' F'

def wBuild (P : Program) (o : Oper) (t : TypeId) (len : Nat) (parts : Array (Nat × Operand)) (σ : S) (pr rl : Bool) (I : Imm) (F : Heap) (K : S → Imm → Heap → Prop) : Prop :=
  match P.underlying t with
  | some (.slice e) =>
    match szB P e, (P.info? e).bind TypeInfo.zero with
    | some z, some zv =>
      cond (σ.knows o.op.operands.toList && decide (len * z ≤ 2 ^ 24))
        (match Instr.fill (fun i => some (i * z, z)) ((Array.range (len * z)).map (zv.cells[· % zv.cells.size]!)) (parts.map fun (i, x) => (i, σ.cv x)).toList with
          | some cells => cond pr (∀ (b : Nat) (I' : Imm), Imm.le I I' → I' b = some (.cells cells e) → K (σ.put o.dst (some (.a (.v (.slice (some ⟨b, 0, none⟩) len len))))) I' F)
              (cond rl (∀ b : Nat, K (σ.put o.dst (some (.a (.v (.slice (some ⟨b, 0, none⟩) len len))))) I ((b, .cells cells e (0, 0)) :: F))
              (∀ b : Nat, K (σ.pushS ⟨b, e, false, cells.toList.map fun c => .a (.v c)⟩ len o.dst) I F))
          | none => False) False
    | _, _ => False
  | _ => False

def wOp (P : Program) (A : Ann) (rid i : Nat) (o : Oper) (σ : S) (I : Imm) (F : Heap)
    (K : S → Imm → Heap → Prop) (Kp : List PanicEntry → S → Imm → Heap → Prop) : Prop :=
  match o.op with
  | .alloc t => match (P.info? t).bind TypeInfo.zero with
    | some z => cond (A.rl rid i) (∀ b : Nat, K (σ.put o.dst (some (.a (.v (.pointer (some ⟨b, 0, none⟩)))))) I ((b, .cells z.cells t (0, 0)) :: F))
      (∀ b : Nat, K (σ.push ⟨b, t, false, (AV.a (.v z)).cells⟩ o.dst) I F)
    | none => False
  | .box t x => match σ.ev x with
    | some av => cond (A.rl rid i) (∀ b : Nat, K (σ.put o.dst (some (.a (.v (.pointer (some ⟨b, 0, none⟩)))))) I ((b, .cells (av.cells.map AV.g).toArray t (0, 0)) :: F))
      (∀ b : Nat, K (σ.push ⟨b, t, false, av.cells⟩ o.dst) I F)
    | none => False
  | .buildSlice t len parts => wBuild P o t len parts σ (A.pr rid i) (A.rl rid i) I F K
  | .store t x y => match σ.ev x, σ.ev y with
    | some (.a (.p j _ off)), some av =>
      match σ.own[j]?, szB P t with
      | some blk, some n =>
        cond (!blk.ro && av.cells.length == n && decide (off + n ≤ blk.cells.length))
          (cond (av.cells.all fun c => oneB c.g)
            (K (({ σ with own := σ.own.set j { blk with cells := splice off av.cells blk.cells } } : S).put o.dst none) I F) False) False
      | _, _ => False
    | some (.a (.v (.pointer (some ad)))), some av =>
      cond (szB P t == some av.cells.length && av.cells.all fun c => oneB c.g)
        (∃ (cs : List Value) (e : Nat) (F0 : Heap), F.Perm ((ad.block, Obj.cells cs.toArray e (0, 0)) :: F0) ∧ ad.spot = none ∧ ad.off + av.cells.length ≤ cs.length ∧
          K (σ.put o.dst none) I ((ad.block, Obj.cells (splice ad.off (av.cells.map AV.g) cs).toArray e (0, 0)) :: F0)) False
    | _, _ => False
  | .panic x => match σ.ev x with
    | some (.a (.v (.iface t v))) => Kp [{ v := .iface t v, recovered := false }] σ I F
    | _ => False
  | .convert src dst x => match P.underlying src, P.underlying dst with
    | some .string, some (.slice _) => cond (σ.knows [x]) (wTri P A rid i o (convert src dst (σ.cv x)) σ I F K) False
    | some (.slice _), some .string => cond (σ.knows [x]) (wTri P A rid i o (convert src dst (σ.cv x)) σ I F K) False
    | _, _ => wPure P A.shp o σ I F fun av => wFin A rid i o.dst av σ fun σ' => K σ' I F
  | .makeSlice t l c => cond (σ.knows [l, c]) (wTri P A rid i o (Instr.makeSlice t (σ.cv l) (σ.cv c)) σ I F K) False
  | .makeMap t none => wTri P A rid i o (Instr.makeMap t none) σ I F K
  | .mapUpdate t m k x => cond (σ.knows [m, k, x]) (wTriU P o (Instr.mapUpdate t (σ.cv m) (σ.cv k) (σ.cv x)) σ I F K) False
  | .mapEntry t m k => cond (σ.knows [m, k]) (wTri P A rid i o (Instr.mapEntry t (σ.cv m) (σ.cv k)) σ I F K) False
  | .entryStore t m s x => cond (σ.knows [m, s, x]) (wTriU P o (Instr.entryStore t (σ.cv m) (σ.cv s) (σ.cv x)) σ I F K) False
  | .defer c => match c.callee with
    | .value f => match σ.ev f with
      | some (.f fn first cap) => cond (σ.knows c.args.toList) (K ({ σ with df := .fn fn first cap (c.args.toList.map σ.cv) :: σ.df }.put o.dst none) I F) False
      | _ => False
    | _ => False
  | .lookup t m k ok => cond (σ.knows [m, k]) (wTri P A rid i o (Instr.lookup t (σ.cv m) (σ.cv k) ok) σ I F K) False
  | .call c => match c.callee with
    | .builtin .append => cond (σ.knows c.args.toList) (wTri P A rid i o (Builtin.append_ c.argTypes o.type (c.args.map σ.cv)) σ I F K) False
    | .builtin .copy => cond (σ.knows c.args.toList) (wTri P A rid i o (Builtin.copy_ c.argTypes o.type (c.args.map σ.cv)) σ I F K) False
    | .builtin _ => wPure P A.shp o σ I F fun av => wFin A rid i o.dst av σ fun σ' => K σ' I F
    | .invoke _ _ => False
    | .value f => cond (σ.knows c.args.toList)
      (cond (A.fv rid i) (cond (σ.knows [f]) (wCallV P A rid i o (σ.cv f) (c.args.map σ.cv).toList (σ.escs (f :: c.args.toList)) σ I F K Kp) False) (match σ.ev f with
        | some (.f fn first cap) => cond (A.good fn)
            (wCall P A rid i o fn ((first.map At.g).toArray ++ c.args.map σ.cv ++ (cap.map At.g).toArray) (σ.escs (f :: c.args.toList)) (A.pn fn) σ I F K Kp) False
        | some (.a (.v (.func (.func fn) first cap))) => Enters P fn ∧
            wCall P A rid i o fn (first ++ c.args.map σ.cv ++ cap) (σ.escs c.args.toList) false σ I F K Kp
        | _ => False)) False
  | _ => wPure P A.shp o σ I F fun av => wFin A rid i o.dst av σ fun σ' => K σ' I F

/-- blocks stay where they stand; what may not be written stays -/
def KeepO (σ σ' : S) : Prop := ∀ (i : Nat) (b : Blk), σ.own[i]? = some b → ∃ b' : Blk, σ'.own[i]? = some b' ∧ b'.num = b.num ∧ b'.elem = b.elem ∧
  (b.ro = true → b'.ro = true ∧ b'.cells = b.cells)
theorem KeepO.refl (σ : S) : KeepO σ σ := fun _ b h => ⟨b, h, rfl, rfl, fun h => ⟨h, rfl⟩⟩
theorem KeepO.trans {a b c : S} (h : KeepO a b) (k : KeepO b c) : KeepO a c := fun i x hx => by
  obtain ⟨y, hy, e1, e2, e3⟩ := h i x hx
  obtain ⟨z, hz, f1, f2, f3⟩ := k i y hy
  refine ⟨z, hz, f1.trans e1, f2.trans e2, fun hr => ?_⟩
  obtain ⟨g1, g2⟩ := e3 hr
  obtain ⟨g3, g4⟩ := f3 g1
  exact ⟨g3, g4.trans g2⟩
theorem KeepO.same {σ σ' : S} (h : KeepO σ σ') : Same σ.own σ'.own := fun i b hb => let ⟨b', h1, h2, _⟩ := h i b hb; ⟨b', h1, h2⟩
theorem KeepO.put (σ : S) (dst : Option Nat) (av : Option AV) : KeepO σ (σ.put dst av) := by cases dst <;> exact KeepO.refl _
theorem KeepO.append (σ : S) (b : Blk) : KeepO σ { σ with own := σ.own ++ [b] } := fun i c h =>
  ⟨c, by show (σ.own ++ [b])[i]? = _; rw [List.getElem?_append_left (by rcases Nat.lt_or_ge i σ.own.length with h' | h'; exact h'; simp [List.getElem?_eq_none h'] at h)]; exact h, rfl, rfl, fun h => ⟨h, rfl⟩⟩
theorem S.put_own (σ : S) (dst : Option Nat) (av : Option AV) : (σ.put dst av).own = σ.own := by cases dst <;> rfl

theorem wFin_out {A : Ann} {rid i : Nat} {dst : Option Nat} {av : AV} {σ : S} {K : S → Prop} (h : wFin A rid i dst av σ K) :
    ∃ av', av'.g = av.g ∧ (av.wf σ.own → av'.wf σ.own) ∧ K (σ.put dst (some av')) := by
  unfold wFin at h
  cases hs : A.sp rid i with
  | false => rw [hs] at h; exact ⟨av, rfl, id, h⟩
  | true =>
    rw [hs] at h
    simp only [cond_true] at h
    split at h
    · rename_i t
      cases t with
      | true => exact ⟨_, rfl, fun _ => trivial, h.1 rfl⟩
      | false => exact ⟨_, rfl, fun _ => trivial, h.2 rfl⟩
    · exact h.elim

theorem exOwn_out {shp : Nat → List Sh} {E : List Nat} : ∀ {i : Nat} {own : List Blk} {Q : List Blk → Prop}, exOwn shp E i own Q →
    ∃ own', Q own' ∧ own'.length = own.length ∧ ∀ (j : Nat) (b : Blk), own[j]? = some b → ∃ b' : Blk, own'[j]? = some b' ∧ b'.num = b.num ∧ b'.elem = b.elem ∧ b'.ro = b.ro ∧
      ((∃ vs : List Value, b'.cells = vs.map fun v => .a (.v v)) ∨ b'.cells = b.cells) ∧ (b.ro = true → b'.cells = b.cells)
  | _, [], _, h => ⟨[], h, rfl, fun j b hb => by simp at hb⟩
  | i, b :: r, Q, h => by
    simp only [exOwn] at h
    cases hc : (!b.ro && E.contains i) with
    | true =>
      rw [hc] at h
      obtain ⟨vs, _, h⟩ := exLs_out h
      obtain ⟨own', hq, hl, hk⟩ := exOwn_out h
      refine ⟨_, hq, by simp [hl], fun j c hj => ?_⟩
      cases j with
      | zero =>
        simp only [List.getElem?_cons_zero, Option.some.injEq] at hj; subst hj
        simp only [Bool.and_eq_true, Bool.not_eq_true'] at hc
        exact ⟨_, rfl, rfl, rfl, rfl, .inl ⟨vs, rfl⟩, fun hr => by rw [hc.1] at hr; cases hr⟩
      | succ j => simpa using hk j c (by simpa using hj)
    | false =>
      rw [hc] at h
      obtain ⟨own', hq, hl, hk⟩ := exOwn_out h
      refine ⟨_, hq, by simp [hl], fun j c hj => ?_⟩
      cases j with
      | zero =>
        simp only [List.getElem?_cons_zero, Option.some.injEq] at hj; subst hj
        exact ⟨b, rfl, rfl, rfl, rfl, .inr rfl, fun _ => rfl⟩
      | succ j => simpa using hk j c (by simpa using hj)

/-- an operation of the walk: what comes of it -/
def Next1 (o : Oper) (σ : S) (I : Imm) (a : Act) (K : S → Imm → Heap → Prop) (a' : Act) (w' : World) : Prop :=
  ∃ σ' I' F', Rel σ' I' F' a' w' ∧ Imm.le I I' ∧ K σ' I' F' ∧ KeepO σ σ' ∧ ∃ v, a'.tmps = (a.put o.dst v).tmps

section sound
variable {P : Program} {A : Ann} {rid i : Nat} {o : Oper} {σ : S} {I : Imm} {F : Heap} {K : S → Imm → Heap → Prop} {Kp : List PanicEntry → S → Imm → Heap → Prop}
  {a : Act} {w : World} {Q : Exit → Act → World → Prop}

theorem next_put (hr : Rel σ I F a w) {av : AV} (hw : av.wf σ.own) (h : wFin A rid i o.dst av σ fun σ' => K σ' I F) : Next1 o σ I a K (a.put o.dst av.g) w := by
  obtain ⟨av', hg, hwf, hk⟩ := wFin_out h
  exact ⟨_, I, F, hr.put o.dst hg (hwf hw), Imm.le_refl I, hk, KeepO.put _ _ _, _, rfl⟩

theorem pure_sound (h : wPure P A.shp o σ I F fun av => wFin A rid i o.dst av σ fun σ' => K σ' I F) (hr : Rel σ I F a w) :
    o.wp P a w (Next1 o σ I a K) Q := by
  obtain ⟨av, hk, hy⟩ := wPureD_out h
  have hrun := hy.run a w hr.t hr.wft (fun i b hb _ => hr.sat.get hb) hr.sat.reads
  unfold Oper.wp
  rw [hrun, Oper.upon_value]
  exact next_put hr (hy.wf σ.own hr.wft hr.wfo) hk

theorem rel_push (hr : Rel σ I F a w) (e : Nat) (cells : List AV) (hc : ∀ c ∈ cells, c.wf σ.own) :
    Rel { σ with own := σ.own ++ [⟨w.heap.size, e, false, cells⟩] } I F a { w with heap := w.heap.push (.cells (cells.map AV.g).toArray e) } := by
  have hs : Same σ.own (σ.own ++ [⟨w.heap.size, e, false, cells⟩]) := Same.append _ _
  refine hr.heap hs ?_ ?_
  · intro j b hj c hcm
    rcases Nat.lt_or_ge j σ.own.length with hlt | hge
    · rw [List.getElem?_append_left hlt] at hj
      exact AV.wf_same hs (hr.wfo j b hj c hcm)
    · rw [List.getElem?_append_right hge] at hj
      cases hj' : j - σ.own.length with
      | zero => rw [hj'] at hj; simp at hj; subst hj; exact AV.wf_same hs (hc c hcm)
      | succ k => rw [hj'] at hj; simp at hj
  · refine (hr.sat.alloc (.cells (cells.map AV.g).toArray e)).perm ?_
    simp only [blks, List.map_append, List.map_cons, List.map_nil, List.append_assoc]
    exact (List.perm_middle).symm

theorem newVar_run {t : TypeId} (v : Value) (w : World) : (newVar t v).run P w = .ok ⟨w.heap.size, 0, none⟩ { w with heap := w.heap.push (.cells v.cells t) } := by
  simp [newVar, newRow, newObj, Sem.run, Sem.run_bind]

theorem push_next (hr : Rel σ I F a w) (e : Nat) (cells : List AV) (hc : ∀ c ∈ cells, c.wf σ.own) (vs : Array Value) (hv : vs = (cells.map AV.g).toArray) {av : AV} {v : Value} (hav : av.g = v)
    (hwf : av.wf (σ.own ++ [⟨w.heap.size, e, false, cells⟩])) (hk : K (({ σ with own := σ.own ++ [⟨w.heap.size, e, false, cells⟩] } : S).put o.dst (some av)) I F) :
    Next1 o σ I a K (a.put o.dst v) { w with heap := w.heap.push (.cells vs e) } := by
  subst hv
  exact ⟨_, I, F, (rel_push hr e cells hc).put o.dst hav hwf, Imm.le_refl I, hk, (KeepO.append _ _).trans (KeepO.put _ _ _), _, rfl⟩

theorem raw_next (hr : Rel σ I F a w) (ob : Obj) {v : Value} (hk : K (σ.put o.dst (some (.a (.v v)))) I ((w.heap.size, ob) :: F)) :
    Next1 o σ I a K (a.put o.dst v) { w with heap := w.heap.push ob } := by
  have hrel : Rel σ I ((w.heap.size, ob) :: F) a { w with heap := w.heap.push ob } := hr.heap (Same.refl _) hr.wfo ((hr.sat.alloc ob).perm List.perm_middle.symm)
  exact ⟨_, I, _, hrel.put o.dst (av := .a (.v v)) rfl trivial, Imm.le_refl I, hk, KeepO.put _ _ _, _, rfl⟩

theorem wf_last (own : List Blk) (b : Blk) : At.wf (own ++ [b]) (.p own.length b.num 0) := by simp [At.wf]
theorem wf_lastS (own : List Blk) (b : Blk) (n m : Nat) : At.wf (own ++ [b]) (.s own.length b.num n m) := by simp [At.wf]

theorem zeroValue_run {t : TypeId} {z : Value} (h : (P.info? t).bind TypeInfo.zero = some z) (w : World) : (zeroValue t).run P w = .ok z w := by
  cases hi : P.info? t with
  | none => rw [hi] at h; cases h
  | some ti =>
    rw [hi] at h
    simp only [Option.bind_some] at h
    simp [zeroValue, typeInfo, program, Sem.run, hi, Sem.run_bind, h]

theorem cells_wf {own : List Blk} {av : AV} (h : av.wf own) : ∀ c ∈ av.cells, c.wf own := by
  intro c hc
  unfold AV.cells at hc
  split at hc
  · obtain ⟨x, _, e⟩ := List.mem_map.1 hc; subst e; trivial
  · simp at hc; subst hc; exact h

def RetQ (o : Oper) (σ : S) (I : Imm) (a : Act) (K : S → Imm → Heap → Prop) (Q : Exit → Act → World → Prop) : Ending → World → Prop
  | .returned v, w'' => Next1 o σ I a K (a.put o.dst v) w''
  | .panicked chain, w'' => Q (.panic chain) a w''
  | .outgrown, _ => LetsOut Q
theorem res_sound {E : List Nat} {pan : Bool} (hr : Rel σ I F a w)
    (hQ : ∀ ch w' σ' I' F', Rel σ' I' F' a w' → Imm.le I I' → Kp ch σ' I' F' → KeepO σ σ' → Q (.panic ch) a w') {e : Ending} {w' : World}
    (h : EndQ I (wRes A rid i o E pan σ K Kp) e w') : RetQ o σ I a K Q e w' := by
  obtain ⟨I', G, hle, hsat, hq⟩ := h
  have keep : ∀ own', (own'.length = σ.own.length ∧ ∀ (j : Nat) (b : Blk), σ.own[j]? = some b → ∃ b' : Blk, own'[j]? = some b' ∧ b'.num = b.num ∧ b'.elem = b.elem ∧ b'.ro = b.ro ∧
      ((∃ vs : List Value, b'.cells = vs.map fun v => .a (.v v)) ∨ b'.cells = b.cells) ∧ (b.ro = true → b'.cells = b.cells)) → ∀ F', G.Perm (blks own' ++ F') →
      KeepO σ { σ with own := own' } ∧ Rel { σ with own := own' } I' F' a w' := by
    intro own' ⟨hl, hk⟩ F' hp
    have hkeep : KeepO σ { σ with own := own' } := fun j b hb => by
      obtain ⟨b', h1, h2, h3, h4, _, h6⟩ := hk j b hb
      exact ⟨b', h1, h2, h3, fun hro => ⟨by rw [h4]; exact hro, h6 hro⟩⟩
    refine ⟨hkeep, hr.heap hkeep.same ?_ (hsat.perm hp)⟩
    intro j b' hj c hc
    have hlt : j < σ.own.length := by
      rcases Nat.lt_or_ge j own'.length with h' | h'
      · omega
      · simp [List.getElem?_eq_none h'] at hj
    obtain ⟨b, hb⟩ : ∃ b, σ.own[j]? = some b := ⟨σ.own[j], by simp [hlt]⟩
    obtain ⟨b'', h1, _, _, _, h5, _⟩ := hk j b hb
    rw [hj] at h1; cases h1
    rcases h5 with ⟨vs, e⟩ | e
    · rw [e] at hc; obtain ⟨v, _, e⟩ := List.mem_map.1 hc; subst e; trivial
    · rw [e] at hc; exact AV.wf_same hkeep.same (hr.wfo j b hb c hc)
  have good : (exRes (A.shp o.type) fun v => e = .returned v ∧ exOwn A.shp E 0 σ.own fun own' => ∃ F', G.Perm (blks own' ++ F') ∧
          wFin A rid i o.dst (.a (.v v)) { σ with own := own' } fun σ' => K σ' I' F') →
      ∃ v, e = .returned v ∧ Next1 o σ I a K (a.put o.dst v) w' := by
    intro h
    obtain ⟨v, he, h⟩ := exRes_out h
    obtain ⟨own', ⟨F', hp, hf⟩, hown⟩ := exOwn_out h
    obtain ⟨hk, hrel⟩ := keep own' hown F' hp
    obtain ⟨σ', I2, F2, h1, h2, h3, h4, h5⟩ := next_put (o := o) hrel (av := .a (.v v)) trivial hf
    exact ⟨v, he, σ', I2, F2, h1, Imm.le_trans hle h2, h3, hk.trans h4, h5⟩
  cases pan with
  | false =>
    obtain ⟨v, rfl, hn⟩ := good hq
    exact hn
  | true =>
    rcases hq with hq | ⟨ch, rfl, h⟩
    · obtain ⟨v, rfl, hn⟩ := good hq
      exact hn
    · obtain ⟨own', ⟨F', hp, hf⟩, hown⟩ := exOwn_out h
      obtain ⟨hk, hrel⟩ := keep own' hown F' hp
      exact hQ ch w' _ I' F' hrel hle hf hk

theorem call_sound {fn : Nat} {args : Array Value} {E : List Nat} {pan : Bool} (h : wCall P A rid i o fn args E pan σ I F K Kp) (hr : Rel σ I F a w)
    (hQ : ∀ ch w' σ' I' F', Rel σ' I' F' a w' → Imm.le I I' → Kp ch σ' I' F' → KeepO σ σ' → Q (.panic ch) a w') :
    Calls P fn args w fun
      | .returned v, w'' => Next1 o σ I a K (a.put o.dst v) w''
      | .panicked chain, w'' => Q (.panic chain) a w''
      | .outgrown, _ => LetsOut Q :=
  (h w hr.sat).mono fun e w' he => by
    have := res_sound (Q := Q) hr hQ he
    cases e <;> exact this

theorem tri_sound {s : Sem Value} (h : wTri P A rid i o s σ I F K) (hr : Rel σ I F a w) (he : ∀ v w', s.run P w = .ok v w' → (execOp a.eval o).run P w = .ok (.value v) w') :
    o.wp P a w (Next1 o σ I a K) Q := by
  obtain ⟨v, w', I', G, hrun, hle, hsat, hq⟩ := h w hr.sat
  unfold Oper.wp
  rw [he v w' hrun, Oper.upon_value]
  obtain ⟨x, rfl, F', hp, hf⟩ := exRes_out hq
  have hrel : Rel σ I' F' a w' := hr.heap (Same.refl _) hr.wfo (hsat.perm hp)
  obtain ⟨σ', I2, F2, h1, h2, h3, h4, h5⟩ := next_put (o := o) hrel (av := .a (.v v)) trivial hf
  exact ⟨σ', I2, F2, h1, Imm.le_trans hle h2, h3, h4, h5⟩

end sound
end Go.Vc
