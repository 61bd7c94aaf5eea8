import Derived.Tactics
import Derived.Deep.Quiet
import Derived.KernelRfl
namespace Go.Vc

/-- what is held still: some blocks, what is outside, and what was written out -/
structure Imm where
  at' : Nat → Option Obj
  os : Os
  out : Array (Nat × ByteArray)
instance : CoeFun Imm fun _ => Nat → Option Obj := ⟨Imm.at'⟩
abbrev Heap := List (Nat × Obj)

def Imm.le (I J : Imm) : Prop := (∀ b o, I b = some o → J b = some o) ∧ J.os = I.os ∧ J.out = I.out
theorem Imm.le_refl (I : Imm) : Imm.le I I := ⟨fun _ _ h => h, rfl, rfl⟩
theorem Imm.le_trans {I J K : Imm} (h : Imm.le I J) (k : Imm.le J K) : Imm.le I K := ⟨fun _ _ x => k.1 _ _ (h.1 _ _ x), k.2.1.trans h.2.1, k.2.2.trans h.2.2⟩
theorem Imm.le.at {I J : Imm} (h : Imm.le I J) {b : Nat} {o : Obj} (hb : I b = some o) : J b = some o := h.1 b o hb
def SameEnv (w' w : World) : Prop := w'.os = w.os ∧ w'.output = w.output

structure Sat (I : Imm) (F : Heap) (w : World) : Prop where
  imm : ∀ b o, I b = some o → w.heap[b]? = some o
  own : ∀ b o, (b, o) ∈ F → w.heap[b]? = some o
  off : ∀ b o, (b, o) ∈ F → I b = none
  nd : (F.map Prod.fst).Nodup
  env : w.os = I.os ∧ w.output = I.out

theorem Sat.perm {I : Imm} {F G : Heap} {w : World} (h : Sat I F w) (p : F.Perm G) : Sat I G w :=
  ⟨h.imm, fun b o hm => h.own b o (p.mem_iff.2 hm), fun b o hm => h.off b o (p.mem_iff.2 hm), (p.map Prod.fst).nodup_iff.1 h.nd, h.env⟩

theorem Sat.of_heap {I : Imm} {F : Heap} {w w' : World} (h : Sat I F w) (e : w'.heap = w.heap) (e2 : SameEnv w' w) : Sat I F w' :=
  ⟨by rw [e]; exact h.imm, by rw [e]; exact h.own, h.off, h.nd, e2.1.trans h.env.1, e2.2.trans h.env.2⟩

theorem Sat.sub {I : Imm} {F G : Heap} {w : World} (h : Sat I F w) (s : G.Sublist F) : Sat I G w :=
  ⟨h.imm, fun b o hm => h.own b o (s.subset hm), fun b o hm => h.off b o (s.subset hm), (s.map Prod.fst).nodup h.nd, h.env⟩

theorem Sat.drop {I : Imm} {A F : Heap} {w : World} (h : Sat I (A ++ F) w) : Sat I F w := h.sub (List.sublist_append_right A F)

theorem Sat.fresh {I : Imm} {F : Heap} {w : World} (h : Sat I F w) : I w.heap.size = none ∧ ∀ o, (w.heap.size, o) ∉ F := by
  constructor
  · cases e : I w.heap.size with
    | none => rfl
    | some o => have := h.imm _ _ e; simp at this
  · intro o hm; have := h.own _ _ hm; simp at this

theorem Sat.alloc {I : Imm} {F : Heap} {w : World} (h : Sat I F w) (o : Obj) :
    Sat I ((w.heap.size, o) :: F) { w with heap := w.heap.push o } := by
  have hf := h.fresh
  refine ⟨?_, ?_, ?_, ?_, h.env⟩
  · intro b o' hb
    have := h.imm b o' hb
    have hlt : b < w.heap.size := by
      rcases Nat.lt_or_ge b w.heap.size with h | h
      · exact h
      · simp [Array.getElem?_eq_none h] at this
    simp only [Array.getElem?_push, this]
    split
    · omega
    · rfl
  · intro b o' hb
    rcases List.mem_cons.1 hb with hb | hb
    · cases hb; simp
    · have := h.own b o' hb
      have hlt : b < w.heap.size := by
        rcases Nat.lt_or_ge b w.heap.size with h | h
        · exact h
        · simp [Array.getElem?_eq_none h] at this
      simp only [Array.getElem?_push, this]
      split
      · omega
      · rfl
  · intro b o' hb
    rcases List.mem_cons.1 hb with hb | hb
    · cases hb; exact hf.1
    · exact h.off b o' hb
  · rw [List.map_cons, List.nodup_cons]
    refine ⟨?_, h.nd⟩
    intro hm
    obtain ⟨⟨b, o'⟩, hm, e⟩ := List.mem_map.1 hm
    cases e
    exact hf.2 _ hm

theorem Sat.set {I : Imm} {F : Heap} {w : World} {b : Nat} {o o' : Obj} (h : Sat I ((b, o) :: F) w) {w' : World} (e : w'.heap = w.heap.setIfInBounds b o') (e2 : SameEnv w' w) :
    Sat I ((b, o') :: F) w' := by
  have hb := h.own b o (List.mem_cons_self ..)
  have hI := h.off b o (List.mem_cons_self ..)
  have hn := h.nd
  rw [List.map_cons, List.nodup_cons] at hn
  have hlt : b < w.heap.size := by
    rcases Nat.lt_or_ge b w.heap.size with h | h
    · exact h
    · simp [Array.getElem?_eq_none h] at hb
  refine ⟨?_, ?_, ?_, ?_, e2.1.trans h.env.1, e2.2.trans h.env.2⟩
  · intro c x hc
    have hne : b ≠ c := fun hh => by subst hh; rw [hI] at hc; cases hc
    rw [e, Array.getElem?_setIfInBounds_ne hne]; exact h.imm c x hc
  · intro c x hc
    rcases List.mem_cons.1 hc with hc | hc
    · cases hc; rw [e]; simp [hlt]
    · have hne : b ≠ c := fun hh => by subst hh; exact hn.1 (List.mem_map.2 ⟨_, hc, rfl⟩)
      rw [e, Array.getElem?_setIfInBounds_ne hne]; exact h.own c x (List.mem_cons_of_mem _ hc)
  · intro c x hc
    rcases List.mem_cons.1 hc with hc | hc
    · cases hc; exact hI
    · exact h.off c x (List.mem_cons_of_mem _ hc)
  · rw [List.map_cons, List.nodup_cons]; exact hn

/-- a block that is written no more is held still -/
def Imm.put (I : Imm) (b : Nat) (o : Obj) : Imm := ⟨fun c => if c = b then some o else I c, I.os, I.out⟩
theorem Imm.put_same (I : Imm) (b : Nat) (o : Obj) : I.put b o b = some o := by simp [Imm.put]
theorem Sat.promote {I : Imm} {F : Heap} {w : World} {b : Nat} {o : Obj} (h : Sat I ((b, o) :: F) w) : Imm.le I (I.put b o) ∧ Sat (I.put b o) F w := by
  have hb := h.own b o (List.mem_cons_self ..)
  have hI := h.off b o (List.mem_cons_self ..)
  have hn := h.nd
  rw [List.map_cons, List.nodup_cons] at hn
  refine ⟨⟨?_, rfl, rfl⟩, ?_, ?_, ?_, hn.2, h.env⟩
  · intro c x hc
    show (if c = b then some o else I c) = _; split
    · rename_i e; subst e; rw [hI] at hc; cases hc
    · exact hc
  · intro c x hc
    have hc : (if c = b then some o else I c) = some x := hc
    by_cases e : c = b
    · subst e; rw [if_pos rfl] at hc; cases hc; exact hb
    · rw [if_neg e] at hc; exact h.imm c x hc
  · exact fun c x hc => h.own c x (List.mem_cons_of_mem _ hc)
  · intro c x hc
    show (if c = b then some o else I c) = _; split
    · rename_i e; subst e; exact absurd (List.mem_map.2 ⟨_, hc, rfl⟩) hn.1
    · exact h.off c x (List.mem_cons_of_mem _ hc)

theorem Sat.weaken {I J : Imm} {F : Heap} {w : World} (h : Sat J F w) (hl : Imm.le I J) : Sat I F w := by
  refine ⟨fun b o hb => h.imm b o (hl.at hb), h.own, fun b o hm => ?_, h.nd, h.env.1.trans hl.2.1, h.env.2.trans hl.2.2⟩
  cases hI : I b with
  | none => rfl
  | some x =>
    have := h.off b o hm
    rw [hl.at hI] at this; cases this

/-- a call from any world that fits: it ends, what is held still stays, the heap that is ours has become another -/
def Tri (P : Program) (f : FuncId) (args : Array Value) (I : Imm) (F : Heap) (Q : Ending → Imm → Heap → Prop) : Prop :=
  ∀ w, Sat I F w → Calls P f args w fun e w' => ∃ I' F', Imm.le I I' ∧ Sat I' F' w' ∧ Q e I' F'

theorem Tri.mono {P : Program} {f : FuncId} {args : Array Value} {I : Imm} {F : Heap} {Q Q' : Ending → Imm → Heap → Prop}
    (h : Tri P f args I F Q) (k : ∀ e I' F', Imm.le I I' → Q e I' F' → Q' e I' F') : Tri P f args I F Q' :=
  fun w hw => (h w hw).mono fun _ _ ⟨I', F', hl, hs, hq⟩ => ⟨I', F', hl, hs, k _ _ _ hl hq⟩

/-- an operation's run from any world that fits -/
def TriE (P : Program) (s : Sem Value) (I : Imm) (F : Heap) (Q : Value → Imm → Heap → Prop) : Prop :=
  ∀ w, Sat I F w → ∃ v w' I' F', s.run P w = .ok v w' ∧ Imm.le I I' ∧ Sat I' F' w' ∧ Q v I' F'
def TriU (P : Program) (s : Sem Unit) (I : Imm) (F : Heap) (Q : Imm → Heap → Prop) : Prop :=
  ∀ w, Sat I F w → ∃ w' I' F', s.run P w = .ok () w' ∧ Imm.le I I' ∧ Sat I' F' w' ∧ Q I' F'

theorem TriE.mono {P : Program} {s : Sem Value} {I : Imm} {F : Heap} {Q Q' : Value → Imm → Heap → Prop}
    (h : TriE P s I F Q) (k : ∀ v I' F', Imm.le I I' → Q v I' F' → Q' v I' F') : TriE P s I F Q' :=
  fun w hw => let ⟨v, w', I', F', hr, hl, hs, hq⟩ := h w hw; ⟨v, w', I', F', hr, hl, hs, k _ _ _ hl hq⟩

end Go.Vc
