import Derived.Test.YtlcjphbjddbgkaaVb
set_option linter.unusedSimpArgs false
set_option linter.unusedVariables false
namespace Go.Vc

/-! ### leaves -/
inductive Lf where
  | int (k : IntKind) | bool | str | ptr | slc | map | fn | any
def exLf : Lf → (Value → Prop) → Prop
  | .int k, Q => ∃ n : Int, Q (.int k n)
  | .bool, Q => ∃ b : Bool, Q (.bool b)
  | .str, Q => ∃ s : ByteArray, Q (.string s)
  | .ptr, Q => ∃ a : Option Addr, Q (.pointer a)
  | .slc, Q => ∃ (a : Option Addr) (n c : Nat), Q (.slice a n c)
  | .map, Q => ∃ r : Option Nat, Q (.map r)
  | .fn, Q => ∃ (f : Fn) (a b : Array Value), Q (.func f a b)
  | .any, Q => ∃ v : Value, Q v
def allLf : Lf → (Value → Prop) → Prop
  | .int k, Q => ∀ n : Int, Q (.int k n)
  | .bool, Q => ∀ b : Bool, Q (.bool b)
  | .str, Q => ∀ s : ByteArray, Q (.string s)
  | .ptr, Q => ∀ a : Option Addr, Q (.pointer a)
  | .slc, Q => ∀ (a : Option Addr) (n c : Nat), Q (.slice a n c)
  | .map, Q => ∀ r : Option Nat, Q (.map r)
  | .fn, Q => ∀ (f : Fn) (a b : Array Value), Q (.func f a b)
  | .any, Q => ∀ v : Value, Q v
def Lf.fits : Lf → Value → Bool
  | .int k, .int k' _ => k == k'
  | .bool, .bool _ => true
  | .str, .string _ => true
  | .ptr, .pointer _ => true
  | .slc, .slice _ _ _ => true
  | .map, .map _ => true
  | .fn, .func _ _ _ => true
  | .any, _ => true
  | _, _ => false
theorem exLf_out {l : Lf} {Q : Value → Prop} (h : exLf l Q) : ∃ v, Q v := by
  cases l <;> simp only [exLf] at h
  case slc => obtain ⟨a, n, c, h⟩ := h; exact ⟨_, h⟩
  case fn => obtain ⟨a, n, c, h⟩ := h; exact ⟨_, h⟩
  all_goals (obtain ⟨x, h⟩ := h; exact ⟨_, h⟩)
theorem allLf_at {l : Lf} {Q : Value → Prop} (h : allLf l Q) {v : Value} (hf : l.fits v = true) : Q v := by
  cases l <;> cases v <;> simp only [Lf.fits, Bool.false_eq_true, beq_iff_eq] at hf <;> simp only [allLf] at h
  all_goals first | (subst hf; exact h _) | exact h _ | exact h _ _ _
def exLs : List Lf → (List Value → Prop) → Prop
  | [], Q => Q []
  | l :: r, Q => exLf l fun v => exLs r fun vs => Q (v :: vs)
def allLs : List Lf → (List Value → Prop) → Prop
  | [], Q => Q []
  | l :: r, Q => allLf l fun v => allLs r fun vs => Q (v :: vs)
def fitsAll : List Lf → List Value → Bool
  | [], [] => true
  | l :: r, v :: vs => l.fits v && fitsAll r vs
  | _, _ => false
theorem exLs_out : ∀ {l : List Lf} {Q : List Value → Prop}, exLs l Q → ∃ vs, vs.length = l.length ∧ Q vs
  | [], _, h => ⟨[], rfl, h⟩
  | _ :: r, _, h => by
    obtain ⟨v, h⟩ := exLf_out h
    obtain ⟨vs, hl, h⟩ := exLs_out h
    exact ⟨v :: vs, by simp [hl], h⟩
theorem allLs_at : ∀ {l : List Lf} {Q : List Value → Prop} {vs : List Value}, allLs l Q → fitsAll l vs = true → Q vs
  | [], _, [], h, _ => h
  | l :: r, Q, v :: vs, h, hf => by
    simp only [fitsAll, Bool.and_eq_true] at hf
    exact allLs_at (Q := fun vs => Q (v :: vs)) (allLf_at h hf.1) hf.2
  | [], _, _ :: _, _, hf => by simp [fitsAll] at hf
  | _ :: _, _, [], _, hf => by simp [fitsAll] at hf

/-- what a type's values look like: one cell, or the cells of a struct -/
inductive Sh where
  | one (l : Lf)
  | agg (ls : List Lf)
def Sh.leaves : Sh → List Lf
  | .one l => [l]
  | .agg ls => ls
def exSh : Sh → (Value → Prop) → Prop
  | .one l, Q => exLf l Q
  | .agg ls, Q => exLs ls fun vs => Q (.agg vs.toArray)
def exShs : List Sh → (List Value → Prop) → Prop
  | [], Q => Q []
  | s :: r, Q => exSh s fun v => exShs r fun vs => Q (v :: vs)
/-- a call's result -/
def exRes : List Sh → (Value → Prop) → Prop
  | [s], Q => exSh s Q
  | l, Q => exShs l fun vs => Q (.tuple vs.toArray)
theorem exSh_out {s : Sh} {Q : Value → Prop} (h : exSh s Q) : ∃ v, Q v := by
  cases s with
  | one l => exact exLf_out h
  | agg ls => obtain ⟨vs, _, h⟩ := exLs_out h; exact ⟨_, h⟩
theorem exShs_out : ∀ {l : List Sh} {Q : List Value → Prop}, exShs l Q → ∃ vs, Q vs
  | [], _, h => ⟨[], h⟩
  | _ :: r, _, h => by
    obtain ⟨v, h⟩ := exSh_out h
    obtain ⟨vs, h⟩ := exShs_out h
    exact ⟨v :: vs, h⟩
theorem exRes_out : ∀ {l : List Sh} {Q : Value → Prop}, exRes l Q → ∃ v, Q v
  | [], _, h => ⟨_, h⟩
  | [_], _, h => exSh_out h
  | a :: b :: c, Q, h => by
    have h' : exShs (a :: b :: c) (fun vs => Q (.tuple vs.toArray)) := h
    obtain ⟨vs, h'⟩ := exShs_out h'
    exact ⟨_, h'⟩

/-! ### reading -/
def Rd (I : Imm) (G : Heap) (ad : Addr) (cs : List Value) : Prop :=
  ad.spot = none ∧ ∃ (cells : Array Value) (e : Nat) (fz : Nat × Nat), (I ad.block = some (.cells cells e fz) ∨ (ad.block, Obj.cells cells e fz) ∈ G) ∧
    ∀ j, j < cs.length → cells[ad.off + j]? = cs[j]?
/-- all that may be read is there -/
def Reads (I : Imm) (G : Heap) (w : World) : Prop := ∀ (ad : Addr) (cs : List Value), Rd I G ad cs → ∀ j, j < cs.length → w.cell? (ad.add j) = cs[j]?
theorem Rd.cell {I : Imm} {G : Heap} {ad : Addr} {cs : List Value} (h : Rd I G ad cs) {w : World} (hs : Sat I G w) (j : Nat) (hj : j < cs.length) : w.cell? (ad.add j) = cs[j]? := by
  obtain ⟨hsp, cells, e, fz, ho, hc⟩ := h
  have hb : w.heap[ad.block]? = some (.cells cells e fz) := ho.elim (hs.imm _ _) (hs.own _ _)
  unfold World.cell? Addr.add
  by_cases h0 : j = 0
  · subst h0; simp [hb, hsp]; have := hc 0 hj; simpa using this
  · simp [h0, hb]; exact hc j hj
theorem Sat.reads {I : Imm} {G : Heap} {w : World} (h : Sat I G w) : Reads I G w := fun _ _ hr j hj => hr.cell h j hj
theorem loadCells_run {P : Program} {w : World} {ad : Addr} : ∀ (n i : Nat) (cs : List Value) (acc : Array Value), cs.length = n → (∀ j, j < n → w.cell? (ad.add (i + j)) = cs[j]?) →
    (loadCellsFrom ad i n acc).run P w = .ok (acc ++ cs.toArray) w
  | 0, i, cs, acc, hl, _ => by
    have : cs = [] := List.length_eq_zero_iff.1 hl
    subst this; simp [loadCellsFrom]
  | n + 1, i, c :: cs, acc, hl, h => by
    have h0 := h 0 (by omega)
    simp only [loadCellsFrom, load, Sem.run_bind, Sem.run]
    simp only [Nat.add_zero, List.getElem?_cons_zero] at h0
    rw [h0]
    simp only [Result.andThen_ok]
    rw [loadCells_run n (i + 1) cs (acc.push c) (by simpa using hl) (fun j hj => by
      have := h (j + 1) (by omega)
      rw [show i + (j + 1) = i + 1 + j by omega] at this
      simpa using this)]
    simp
  | n + 1, i, [], acc, hl, h => by simp at hl

def aggB (P : Program) (t : TypeId) : Option Bool :=
  match P.underlying t with
  | some (.struct _) => some true
  | some (.array _ _) => some true
  | some _ => some false
  | none => none
theorem isAgg_run {P : Program} {t : TypeId} {b : Bool} (h : aggB P t = some b) (w : World) : (isAgg t).run P w = .ok b w := by
  unfold aggB at h
  cases hu : P.underlying t with
  | none => rw [hu] at h; cases h
  | some d =>
    rw [hu] at h
    have : (underlying t).run P w = .ok d w := by simp [underlying, program, Sem.run, hu, Sem.run_bind]
    simp only [isAgg, Sem.run_bind, this, Result.andThen_ok]
    cases d <;> simp_all
def szB (P : Program) (t : TypeId) : Option Nat := (P.info? t).map TypeInfo.size
theorem sizeOf_run {P : Program} {t : TypeId} {n : Nat} (h : szB P t = some n) (w : World) : (Go.sizeOf t).run P w = .ok n w := by
  unfold szB at h
  cases hi : P.info? t with
  | none => rw [hi] at h; cases h
  | some i =>
    rw [hi] at h; simp only [Option.map_some, Option.some.injEq] at h
    simp [Go.sizeOf, typeInfo, program, Sem.run, hi, Sem.run_bind, h]
theorem loadVar_one {P : Program} {t : TypeId} (h : aggB P t = some false) {w : World} {ad : Addr} {v : Value} (hc : w.cell? ad = some v) : (loadVar t ad).run P w = .ok v w := by
  simp [loadVar, Sem.run_bind, isAgg_run h, load, Sem.run, hc]
theorem loadVar_agg {P : Program} {t : TypeId} {n : Nat} (h : aggB P t = some true) (hn : szB P t = some n) {w : World} {ad : Addr} {cs : List Value} (hl : cs.length = n)
    (hc : ∀ j, j < n → w.cell? (ad.add j) = cs[j]?) : (loadVar t ad).run P w = .ok (.agg cs.toArray) w := by
  have := loadCells_run (P := P) n 0 cs #[] hl (fun j hj => by simpa using hc j hj)
  simp [loadVar, Sem.run_bind, isAgg_run h, sizeOf_run hn, loadCells, this]

theorem Addr.add_zero (a : Addr) : a.add 0 = a := rfl

/-- what a variable of type t holds, read as its shape says -/
def wLoad (P : Program) (sh : Sh) (t : TypeId) (ad : Addr) (I : Imm) (G : Heap) (K : Value → Prop) : Prop :=
  match sh with
  | .one l => cond (aggB P t == some false) (exLf l fun v => Rd I G ad [v] ∧ K v) False
  | .agg ls => cond (aggB P t == some true && szB P t == some ls.length) (exLs ls fun vs => Rd I G ad vs ∧ K (.agg vs.toArray)) False
theorem wLoad_out {P : Program} {sh : Sh} {t : TypeId} {ad : Addr} {I : Imm} {G : Heap} {K : Value → Prop} (h : wLoad P sh t ad I G K) :
    ∃ v, K v ∧ ∀ w, Reads I G w → (loadVar t ad).run P w = .ok v w := by
  unfold wLoad at h
  cases sh with
  | one l =>
    simp only at h
    cases hb : (aggB P t == some false) with
    | false => rw [hb] at h; exact h.elim
    | true =>
      rw [hb] at h
      obtain ⟨v, hr, hk⟩ := exLf_out h
      exact ⟨v, hk, fun w hw => loadVar_one (by simpa using hb) (by have := hw _ _ hr 0 (by simp); simpa [Addr.add_zero] using this)⟩
  | agg ls =>
    simp only at h
    cases hb : (aggB P t == some true && szB P t == some ls.length) with
    | false => rw [hb] at h; exact h.elim
    | true =>
      rw [hb] at h
      obtain ⟨vs, hl, hr, hk⟩ := exLs_out h
      simp only [Bool.and_eq_true, beq_iff_eq] at hb
      exact ⟨_, hk, fun w hw => loadVar_agg hb.1 hb.2 hl (fun j hj => hw _ _ hr j (by omega))⟩

/-! ### the operations that only compute and read -/
def bt (s : ByteArray) (n : Int) : Int := (((s[n.toNat]?).getD 0).toNat : Int)

/-- an operation that yields a value whatever the world is -/
def Out (P : Program) (o : Oper) (σ : S) (K : AV → Prop) : Prop :=
  ∃ av, K av ∧ (∀ own, WfT σ own → av.wf own) ∧ ∀ a w, RelT σ a → (execOp a.eval o).run P w = .ok (.value av.g) w
def wGen (P : Program) (o : Oper) (σ : S) (K : AV → Prop) : Prop :=
  match o.op with
  | .select .. => False
  | _ =>
    cond (σ.knows o.op.operands.toList)
      (match purify P (execOp σ.cv o) with
        | some (.value v) => K (.a (.v v))
        | _ => False) False
theorem wGen_out {P : Program} {o : Oper} {σ : S} {K : AV → Prop} (h : wGen P o σ K) :
    Out P o σ K := by
  have hs : ∀ cs b, o.op ≠ .select cs b := fun cs b e => by unfold wGen at h; rw [e] at h; exact h
  have h' : cond (σ.knows o.op.operands.toList) (match purify P (execOp σ.cv o) with | some (.value v) => K (.a (.v v)) | _ => False) False := by
    unfold wGen at h
    cases hop : o.op <;> simp only [hop] at h ⊢ <;> exact h
  cases hk : σ.knows o.op.operands.toList with
  | false => rw [hk] at h'; exact h'.elim
  | true =>
    rw [hk] at h'
    simp only [cond_true] at h'
    split at h'
    · rename_i v hp
      refine ⟨_, h', fun _ _ => trivial, fun a w hr => ?_⟩
      rw [execOp_congr o hs (S.knows_evalT hr hk)]
      exact purify_run hp w
    · exact h'.elim

theorem underlying_run {P : Program} {t : TypeId} {d : TypeDesc} (h : P.underlying t = some d) (w : World) : (underlying t).run P w = .ok d w := by
  simp [underlying, program, Sem.run, h, Sem.run_bind]

def wIndex (P : Program) (o : Oper) (t : TypeId) (x i : Operand) (σ : S) (K : AV → Prop) : Prop :=
  match P.underlying t with
  | some .string =>
    match σ.ev x, σ.ev i with
    | some (.a (.v (.string s))), some (.a (.v (.int _ n))) => (0 ≤ n ∧ n < s.size) ∧ K (.a (.v (.int .u8 (bt s n))))
    | _, _ => False
  | _ => wGen P o σ K
theorem wIndex_out {P : Program} {o : Oper} {t : TypeId} {x i : Operand} (ho : o.op = .index t x i) {σ : S} {K : AV → Prop} (h : wIndex P o t x i σ K) :
    Out P o σ K := by
  unfold wIndex at h
  split at h
  · rename_i hu
    split at h
    · rename_i s k n hx hi
      obtain ⟨⟨h0, h1⟩, hk⟩ := h
      refine ⟨_, hk, fun _ _ => trivial, fun a w hr => ?_⟩
      have ex := S.ev_evalT hr hx
      have ei := S.ev_evalT hr hi
      have hn : n.toNat < s.size := by omega
      simp only [AV.g, At.g] at ex ei
      simp only [execOp, ho, ex, ei, Instr.index, asIntOf, Sem.run_bind, underlying_run hu, Result.andThen_ok, Sem.run_pure, if_pos h0, AV.g, At.g, bt]
      have : s[n.toNat]? = some s[n.toNat] := by simp [hn]
      simp [this]
    · exact h.elim
  · exact wGen_out h

/-- a bound of a slice expression, or what stands for it -/
def bnd (σ : S) (d : Int) : Option Operand → Option Int
  | none => some d
  | some x => match σ.ev x with
    | some (.a (.v (.int _ n))) => some n
    | _ => none
def wSlice (P : Program) (o : Oper) (t : TypeId) (x : Operand) (lo hi : Option Operand) (σ : S) (K : AV → Prop) : Prop :=
  match P.underlying t with
  | some .string =>
    match σ.ev x with
    | some (.a (.v (.string s))) =>
      match bnd σ 0 lo, bnd σ s.size hi with
      | some l, some h => (0 ≤ l ∧ l ≤ h ∧ h ≤ s.size) ∧ K (.a (.v (.string (s.extract l.toNat h.toNat))))
      | _, _ => False
    | _ => False
  | some (.slice e) =>
    match σ.ev x, szB P e with
    | some (.a (.v (.slice a n c))), some z =>
      match bnd σ 0 lo, bnd σ n hi with
      | some l, some h => (0 ≤ l ∧ l ≤ h ∧ h ≤ c) ∧
          K (.a (.v (.slice (if c = l.toNat then a else a.map (·.add (l.toNat * z))) (h.toNat - l.toNat) (c - l.toNat))))
      | _, _ => False
    | _, _ => False
  | _ => wGen P o σ K
theorem bnd_run {P : Program} {σ : S} {a : Act} {w : World} (hr : RelT σ a) {x : Operand} {d n : Int} (h : bnd σ d (some x) = some n) (y : Nat) (c : BoundsCode) (hn : 0 ≤ n ∧ n ≤ y) :
    (Instr.sliceBound (a.eval x) y c).run P w = .ok n.toNat w := by
  unfold bnd at h
  split at h
  · rename_i e; cases e
  · rename_i x' e
    cases e
    split at h
    · rename_i k m hx
      cases h
      have ex := S.ev_evalT hr hx
      simp only [AV.g, At.g] at ex
      simp [Instr.sliceBound, ex, asIntOf, hn]
    · cases h
theorem sliceBounds_run {P : Program} {σ : S} {a : Act} {w : World} (hr : RelT σ a) {lo hi : Option Operand} {l h : Int} {isS : Bool} {n c : Nat}
    (hl : bnd σ 0 lo = some l) (hh : bnd σ n hi = some h) (hb : 0 ≤ l ∧ l ≤ h ∧ h ≤ c) :
    (Instr.sliceBounds isS n c (lo.map a.eval) (hi.map a.eval) none).run P w = .ok (l.toNat, h.toNat, c) w := by
  have hn0 : ∀ k : Nat, (hh : bnd σ k none = some h) → h.toNat = k := fun k hh => by simp only [bnd, Option.some.injEq] at hh; omega
  have hl0 : (hl : bnd σ 0 none = some l) → l.toNat = 0 := fun hl => by simp only [bnd, Option.some.injEq] at hl; omega
  cases hi with
  | none =>
    have := hn0 n hh
    cases lo with
    | none => have h2 := hl0 hl; simp [Instr.sliceBounds, h2, this]
    | some x =>
      have h1 := bnd_run (P := P) (w := w) hr hl h.toNat .sliceB (by omega)
      rw [this] at h1
      simp [Instr.sliceBounds, h1, this]
  | some y =>
    have h3 := bnd_run (P := P) (w := w) hr hh c (if isS = true then .sliceAcap else .sliceAlen) (by omega)
    cases lo with
    | none => have h2 := hl0 hl; simp [Instr.sliceBounds, h2, h3]
    | some x =>
      have h1 := bnd_run (P := P) (w := w) hr hl h.toNat .sliceB (by omega)
      simp [Instr.sliceBounds, h1, h3]
theorem wSlice_out {P : Program} {o : Oper} {t : TypeId} {x : Operand} {lo hi : Option Operand} (ho : o.op = .slice t x lo hi none) {σ : S} {K : AV → Prop} (h : wSlice P o t x lo hi σ K) :
    Out P o σ K := by
  unfold wSlice at h
  split at h
  · rename_i hu
    split at h
    · rename_i s hx
      split at h
      · rename_i l u hl hh
        obtain ⟨hb, hk⟩ := h
        refine ⟨_, hk, fun _ _ => trivial, fun a w hr => ?_⟩
        have ex := S.ev_evalT hr hx
        simp only [AV.g, At.g] at ex
        simp only [execOp, ho, ex, Instr.sliceAt, Instr.slice, Sem.run_bind, underlying_run hu, Result.andThen_ok, Option.map_none, Option.isSome_none, Bool.false_eq_true, if_false, Sem.run_pure]
        rw [sliceBounds_run hr hl hh (by omega)]
        simp [AV.g, At.g]
      · exact h.elim
    · exact h.elim
  · rename_i e hu
    split at h
    · rename_i ad n c z hx hz
      split at h
      · rename_i l u hl hh
        obtain ⟨hb, hk⟩ := h
        refine ⟨_, hk, fun _ _ => trivial, fun a w hr => ?_⟩
        have ex := S.ev_evalT hr hx
        simp only [AV.g, At.g] at ex
        simp only [execOp, ho, ex, Instr.sliceAt, Instr.slice, Sem.run_bind, underlying_run hu, Result.andThen_ok, Option.map_none, Sem.run_pure]
        rw [sliceBounds_run hr hl hh (by omega)]
        simp [AV.g, At.g, sizeOf_run hz]
      · exact h.elim
    · exact h.elim
  · exact wGen_out h

def wIndexAddr (P : Program) (o : Oper) (t : TypeId) (x i : Operand) (σ : S) (K : AV → Prop) : Prop :=
  match P.underlying t with
  | some (.slice e) =>
    match σ.ev x, σ.ev i, szB P e with
    | some (.a (.v (.slice oa len _))), some (.a (.v (.int _ n))), some z =>
      (0 ≤ n ∧ n < len) ∧ ∃ ad, oa = some ad ∧ K (.a (.v (.pointer (some (ad.add (n.toNat * z))))))
    | some (.a (.s j b len _)), some (.a (.v (.int _ n))), some z => (0 ≤ n ∧ n < len) ∧ K (.a (.p j b (n.toNat * z)))
    | _, _, _ => False
  | _ => wGen P o σ K
theorem wIndexAddr_out {P : Program} {o : Oper} {t : TypeId} {x i : Operand} (ho : o.op = .indexAddr t x i) {σ : S} {K : AV → Prop} (h : wIndexAddr P o t x i σ K) :
    Out P o σ K := by
  unfold wIndexAddr at h
  split at h
  · rename_i e hu
    split at h
    · rename_i oa len c k n z hx hi hz
      obtain ⟨hb, ad, rfl, hk⟩ := h
      refine ⟨_, hk, fun _ _ => trivial, fun a w hr => ?_⟩
      have ex := S.ev_evalT hr hx
      have ei := S.ev_evalT hr hi
      simp only [AV.g, At.g] at ex ei
      simp [execOp, ho, ex, ei, Instr.indexAt, asIntOf, Sem.run_bind, underlying_run hu, hb, sizeOf_run hz, AV.g, At.g]
    · rename_i j b len c k n z hx hi hz
      obtain ⟨hb, hk⟩ := h
      refine ⟨_, hk, fun own hw => S.ev_wfT (av := .a (.s j b len c)) hw hx, fun a w hr => ?_⟩
      have ex := S.ev_evalT hr hx
      have ei := S.ev_evalT hr hi
      simp only [AV.g, At.g] at ex ei
      have : (⟨b, 0, none⟩ : Addr).add (n.toNat * z) = ⟨b, n.toNat * z, none⟩ := by unfold Addr.add; split <;> simp_all
      simp [execOp, ho, ex, ei, Instr.indexAt, asIntOf, Sem.run_bind, underlying_run hu, hb, sizeOf_run hz, AV.g, At.g, this]
    · exact h.elim
  · exact wGen_out h

def fieldAtB (P : Program) (t : TypeId) (f : Nat) : Option Nat :=
  match P.underlying t with
  | some (.struct fields) =>
    match fields[f]? with
    | some fd => match szB P fd.type with
      | some 0 => none
      | some _ => some fd.offset
      | none => none
    | none => none
  | _ => none
def wFieldAddr (P : Program) (t : TypeId) (x : Operand) (f : Nat) (σ : S) (K : AV → Prop) : Prop :=
  match fieldAtB P t f with
  | some off =>
    match σ.ev x with
    | some (.a (.p i b k)) => K (.a (.p i b (k + off)))
    | some (.a (.v (.pointer (some ad)))) => K (.a (.v (.pointer (some (ad.add off)))))
    | _ => False
  | none => False
theorem fieldAt_run {P : Program} {t : TypeId} {f off : Nat} (h : fieldAtB P t f = some off) (ad : Addr) (w : World) :
    (Instr.fieldAt t (.pointer (some ad)) f).run P w = .ok (.pointer (some (ad.add off))) w := by
  unfold fieldAtB at h
  split at h
  · rename_i fields hu
    split at h
    · rename_i fd hf
      split at h
      · cases h
      · rename_i z hz0 hz
        cases h
        simp [Instr.fieldAt, Sem.run_bind, underlying_run hu, hf, Instr.sureAddr, fieldPlace, sizeOf_run hz]
        exact fun e => absurd e hz0
      · cases h
    · cases h
  · cases h
theorem wFieldAddr_out {P : Program} {o : Oper} {t : TypeId} {x : Operand} {f : Nat} (ho : o.op = .fieldAddr t x f) {σ : S} {K : AV → Prop} (h : wFieldAddr P t x f σ K) :
    Out P o σ K := by
  unfold wFieldAddr at h
  split at h
  · rename_i off hf
    split at h
    · rename_i i b k hx
      refine ⟨_, h, fun own hw => S.ev_wfT (av := .a (.p i b k)) hw hx, fun a w hr => ?_⟩
      have ex := S.ev_evalT hr hx
      simp only [AV.g, At.g] at ex
      have : (⟨b, k, none⟩ : Addr).add off = ⟨b, k + off, none⟩ := by unfold Addr.add; split <;> simp_all
      simp [execOp, ho, ex, Sem.run_bind, fieldAt_run hf, AV.g, At.g, this]
    · rename_i ad hx
      refine ⟨_, h, fun _ _ => trivial, fun a w hr => ?_⟩
      have ex := S.ev_evalT hr hx
      simp only [AV.g, At.g] at ex
      simp [execOp, ho, ex, Sem.run_bind, fieldAt_run hf, AV.g, At.g]
    · exact h.elim
  · exact h.elim

end Go.Vc
