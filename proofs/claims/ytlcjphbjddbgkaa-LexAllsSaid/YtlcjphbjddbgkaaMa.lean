import Derived.Test.YtlcjphbjddbgkaaLk
import Derived.Test.YtlcjphbjddbgkaaVw
import Derived.Test.YtlcjphbjddbgkaaVx11
set_option linter.unusedVariables false
set_option linter.unusedSimpArgs false
namespace Go.Vc

/-! ### heaps up to order -/
section
open Classical
noncomputable def cn (a : Nat × Obj) (l : Heap) : Nat := l.countP fun x => decide (x = a)
noncomputable def on (a x : Nat × Obj) : Nat := if x = a then 1 else 0
theorem cn_app (a : Nat × Obj) (l m : Heap) : cn a (l ++ m) = cn a l + cn a m := List.countP_append
theorem cn_cons (a x : Nat × Obj) (l : Heap) : cn a (x :: l) = on a x + cn a l := by
  unfold cn on; rw [List.countP_cons]; simp only [decide_eq_true_eq]; omega
theorem cn_nil (a : Nat × Obj) : cn a [] = 0 := rfl
theorem cn_perm {l m : Heap} (h : l.Perm m) (a : Nat × Obj) : cn a l = cn a m := h.countP_eq _
noncomputable def decP : DecidableEq (Nat × Obj) := fun x y => propDecidable (x = y)
theorem perm_of {l m : Heap} (h : ∀ a, cn a l = cn a m) : l.Perm m := by
  refine (@List.perm_iff_count (Nat × Obj) (@instBEqOfDecidableEq _ decP) (@instLawfulBEq _ decP) l m).2 fun a => ?_
  have h1 : ∀ l : Heap, @List.count _ (@instBEqOfDecidableEq _ decP) a l = cn a l := fun l => by
    unfold List.count cn
    congr 1
    funext x
    show @decide (x = a) (decP x a) = decide (x = a)
    congr
  rw [h1, h1]; exact h a
theorem out1 {x0 : Nat × Obj} {L A F : Heap} : (x0 :: (L ++ (A ++ F))).Perm (A ++ (x0 :: (L ++ F))) := perm_of fun x => by simp only [cn_app, cn_cons]; omega
theorem ahead1 {x0 : Nat × Obj} {A F : Heap} : (x0 :: (A ++ F)).Perm (A ++ (x0 :: F)) := perm_of fun x => by simp only [cn_app, cn_cons]; omega
theorem out2 {x0 x1 : Nat × Obj} {L A F : Heap} : (x0 :: x1 :: (L ++ (A ++ F))).Perm (A ++ (x0 :: x1 :: (L ++ F))) := perm_of fun x => by simp only [cn_app, cn_cons]; omega
theorem ahead2 {x0 x1 : Nat × Obj} {A F : Heap} : (x0 :: x1 :: (A ++ F)).Perm (A ++ (x0 :: x1 :: F)) := perm_of fun x => by simp only [cn_app, cn_cons]; omega
theorem out3 {x0 x1 x2 : Nat × Obj} {L A F : Heap} : (x0 :: x1 :: x2 :: (L ++ (A ++ F))).Perm (A ++ (x0 :: x1 :: x2 :: (L ++ F))) := perm_of fun x => by simp only [cn_app, cn_cons]; omega
theorem ahead3 {x0 x1 x2 : Nat × Obj} {A F : Heap} : (x0 :: x1 :: x2 :: (A ++ F)).Perm (A ++ (x0 :: x1 :: x2 :: F)) := perm_of fun x => by simp only [cn_app, cn_cons]; omega
theorem out4 {x0 x1 x2 x3 : Nat × Obj} {L A F : Heap} : (x0 :: x1 :: x2 :: x3 :: (L ++ (A ++ F))).Perm (A ++ (x0 :: x1 :: x2 :: x3 :: (L ++ F))) := perm_of fun x => by simp only [cn_app, cn_cons]; omega
theorem ahead4 {x0 x1 x2 x3 : Nat × Obj} {A F : Heap} : (x0 :: x1 :: x2 :: x3 :: (A ++ F)).Perm (A ++ (x0 :: x1 :: x2 :: x3 :: F)) := perm_of fun x => by simp only [cn_app, cn_cons]; omega
theorem out5 {x0 x1 x2 x3 x4 : Nat × Obj} {L A F : Heap} : (x0 :: x1 :: x2 :: x3 :: x4 :: (L ++ (A ++ F))).Perm (A ++ (x0 :: x1 :: x2 :: x3 :: x4 :: (L ++ F))) := perm_of fun x => by simp only [cn_app, cn_cons]; omega
theorem ahead5 {x0 x1 x2 x3 x4 : Nat × Obj} {A F : Heap} : (x0 :: x1 :: x2 :: x3 :: x4 :: (A ++ F)).Perm (A ++ (x0 :: x1 :: x2 :: x3 :: x4 :: F)) := perm_of fun x => by simp only [cn_app, cn_cons]; omega
theorem out6 {x0 x1 x2 x3 x4 x5 : Nat × Obj} {L A F : Heap} : (x0 :: x1 :: x2 :: x3 :: x4 :: x5 :: (L ++ (A ++ F))).Perm (A ++ (x0 :: x1 :: x2 :: x3 :: x4 :: x5 :: (L ++ F))) := perm_of fun x => by simp only [cn_app, cn_cons]; omega
theorem ahead6 {x0 x1 x2 x3 x4 x5 : Nat × Obj} {A F : Heap} : (x0 :: x1 :: x2 :: x3 :: x4 :: x5 :: (A ++ F)).Perm (A ++ (x0 :: x1 :: x2 :: x3 :: x4 :: x5 :: F)) := perm_of fun x => by simp only [cn_app, cn_cons]; omega
theorem out7 {x0 x1 x2 x3 x4 x5 x6 : Nat × Obj} {L A F : Heap} : (x0 :: x1 :: x2 :: x3 :: x4 :: x5 :: x6 :: (L ++ (A ++ F))).Perm (A ++ (x0 :: x1 :: x2 :: x3 :: x4 :: x5 :: x6 :: (L ++ F))) := perm_of fun x => by simp only [cn_app, cn_cons]; omega
theorem ahead7 {x0 x1 x2 x3 x4 x5 x6 : Nat × Obj} {A F : Heap} : (x0 :: x1 :: x2 :: x3 :: x4 :: x5 :: x6 :: (A ++ F)).Perm (A ++ (x0 :: x1 :: x2 :: x3 :: x4 :: x5 :: x6 :: F)) := perm_of fun x => by simp only [cn_app, cn_cons]; omega
theorem out8 {x0 x1 x2 x3 x4 x5 x6 x7 : Nat × Obj} {L A F : Heap} : (x0 :: x1 :: x2 :: x3 :: x4 :: x5 :: x6 :: x7 :: (L ++ (A ++ F))).Perm (A ++ (x0 :: x1 :: x2 :: x3 :: x4 :: x5 :: x6 :: x7 :: (L ++ F))) := perm_of fun x => by simp only [cn_app, cn_cons]; omega
theorem ahead8 {x0 x1 x2 x3 x4 x5 x6 x7 : Nat × Obj} {A F : Heap} : (x0 :: x1 :: x2 :: x3 :: x4 :: x5 :: x6 :: x7 :: (A ++ F)).Perm (A ++ (x0 :: x1 :: x2 :: x3 :: x4 :: x5 :: x6 :: x7 :: F)) := perm_of fun x => by simp only [cn_app, cn_cons]; omega
theorem out9 {x0 x1 x2 x3 x4 x5 x6 x7 x8 : Nat × Obj} {L A F : Heap} : (x0 :: x1 :: x2 :: x3 :: x4 :: x5 :: x6 :: x7 :: x8 :: (L ++ (A ++ F))).Perm (A ++ (x0 :: x1 :: x2 :: x3 :: x4 :: x5 :: x6 :: x7 :: x8 :: (L ++ F))) := perm_of fun x => by simp only [cn_app, cn_cons]; omega
theorem ahead9 {x0 x1 x2 x3 x4 x5 x6 x7 x8 : Nat × Obj} {A F : Heap} : (x0 :: x1 :: x2 :: x3 :: x4 :: x5 :: x6 :: x7 :: x8 :: (A ++ F)).Perm (A ++ (x0 :: x1 :: x2 :: x3 :: x4 :: x5 :: x6 :: x7 :: x8 :: F)) := perm_of fun x => by simp only [cn_app, cn_cons]; omega
theorem out10 {x0 x1 x2 x3 x4 x5 x6 x7 x8 x9 : Nat × Obj} {L A F : Heap} : (x0 :: x1 :: x2 :: x3 :: x4 :: x5 :: x6 :: x7 :: x8 :: x9 :: (L ++ (A ++ F))).Perm (A ++ (x0 :: x1 :: x2 :: x3 :: x4 :: x5 :: x6 :: x7 :: x8 :: x9 :: (L ++ F))) := perm_of fun x => by simp only [cn_app, cn_cons]; omega
theorem ahead10 {x0 x1 x2 x3 x4 x5 x6 x7 x8 x9 : Nat × Obj} {A F : Heap} : (x0 :: x1 :: x2 :: x3 :: x4 :: x5 :: x6 :: x7 :: x8 :: x9 :: (A ++ F)).Perm (A ++ (x0 :: x1 :: x2 :: x3 :: x4 :: x5 :: x6 :: x7 :: x8 :: x9 :: F)) := perm_of fun x => by simp only [cn_app, cn_cons]; omega
theorem out11 {x0 x1 x2 x3 x4 x5 x6 x7 x8 x9 x10 : Nat × Obj} {L A F : Heap} : (x0 :: x1 :: x2 :: x3 :: x4 :: x5 :: x6 :: x7 :: x8 :: x9 :: x10 :: (L ++ (A ++ F))).Perm (A ++ (x0 :: x1 :: x2 :: x3 :: x4 :: x5 :: x6 :: x7 :: x8 :: x9 :: x10 :: (L ++ F))) := perm_of fun x => by simp only [cn_app, cn_cons]; omega
theorem ahead11 {x0 x1 x2 x3 x4 x5 x6 x7 x8 x9 x10 : Nat × Obj} {A F : Heap} : (x0 :: x1 :: x2 :: x3 :: x4 :: x5 :: x6 :: x7 :: x8 :: x9 :: x10 :: (A ++ F)).Perm (A ++ (x0 :: x1 :: x2 :: x3 :: x4 :: x5 :: x6 :: x7 :: x8 :: x9 :: x10 :: F)) := perm_of fun x => by simp only [cn_app, cn_cons]; omega
theorem out12 {x0 x1 x2 x3 x4 x5 x6 x7 x8 x9 x10 x11 : Nat × Obj} {L A F : Heap} : (x0 :: x1 :: x2 :: x3 :: x4 :: x5 :: x6 :: x7 :: x8 :: x9 :: x10 :: x11 :: (L ++ (A ++ F))).Perm (A ++ (x0 :: x1 :: x2 :: x3 :: x4 :: x5 :: x6 :: x7 :: x8 :: x9 :: x10 :: x11 :: (L ++ F))) := perm_of fun x => by simp only [cn_app, cn_cons]; omega
theorem ahead12 {x0 x1 x2 x3 x4 x5 x6 x7 x8 x9 x10 x11 : Nat × Obj} {A F : Heap} : (x0 :: x1 :: x2 :: x3 :: x4 :: x5 :: x6 :: x7 :: x8 :: x9 :: x10 :: x11 :: (A ++ F)).Perm (A ++ (x0 :: x1 :: x2 :: x3 :: x4 :: x5 :: x6 :: x7 :: x8 :: x9 :: x10 :: x11 :: F)) := perm_of fun x => by simp only [cn_app, cn_cons]; omega
end
/-! ### iterators -/
/-- the iterator v hands out xs, one by one, till it is told to stop -/
def IterC {α : Type} (P : Program) (v : Value) (enc : α → Value) (I : Imm) (xs : List α) : Prop :=
  ∀ (y : Fn) (ya yb : Array Value) (S : Nat → Imm → Heap → Prop) (X : Imm → Heap → Prop) (I1 : Imm) (F1 : Heap), Imm.le I I1 →
    (∀ k I2 I3 F F', S k I2 F → Imm.le I2 I3 → F.Perm F' → S k I3 F') → (∀ I2 I3 F F', X I2 F → Imm.le I2 I3 → F.Perm F' → X I3 F') →
    (∀ k x I2 F2, xs[k]? = some x → Imm.le I1 I2 → S k I2 F2 → TriV P (.func y ya yb) [enc x] I2 F2 fun e I3 G => (e = .returned (.bool true) ∧ S (k + 1) I3 G) ∨ (e = .returned (.bool false) ∧ X I3 G)) →
    S 0 I1 F1 → TriC P v [.func y ya yb] I1 F1 fun e I2 G => ∃ r, e = .returned r ∧ (S xs.length I2 G ∨ X I2 G)
theorem TriV.promote {P : Program} {v : Value} {args : List Value} {I : Imm} {b : Nat} {o : Obj} {F : Heap} {Q : Ending → Imm → Heap → Prop} (h : Imm.le I (I.put b o) → TriV P v args (I.put b o) F Q) : TriV P v args I ((b, o) :: F) Q :=
  TriV.pre fun w hw => let ⟨hl, hs⟩ := hw.promote; ⟨_, _, hl, hs, h hl⟩
theorem Tri.promote {P : Program} {f : FuncId} {args : Array Value} {I : Imm} {b : Nat} {o : Obj} {F : Heap} {Q : Ending → Imm → Heap → Prop} (h : Tri P f args (I.put b o) F Q) : Tri P f args I ((b, o) :: F) Q := fun w hw => by
  obtain ⟨hl, hs⟩ := hw.promote
  exact (h w hs).mono fun e w' ⟨I', F', g1, g2, g3⟩ => ⟨I', F', Imm.le_trans hl g1, g2, g3⟩
theorem Rd.of_imm {I : Imm} {b t : Nat} {fz : Nat × Nat} {cells : Array Value} (h : I b = some (.cells cells t fz)) (G : Heap) (o : Nat) {cs : List Value} (hc : ∀ j, j < cs.length → cells[o + j]? = cs[j]?) : Rd I G (⟨b, o, none⟩ : Addr) cs := ⟨rfl, cells, t, fz, .inl h, hc⟩
theorem Rd.of_own {I : Imm} {b t : Nat} {fz : Nat × Nat} {cells : Array Value} {G : Heap} (h : (b, Obj.cells cells t fz) ∈ G) (o : Nat) {cs : List Value} (hc : ∀ j, j < cs.length → cells[o + j]? = cs[j]?) : Rd I G (⟨b, o, none⟩ : Addr) cs := ⟨rfl, cells, t, fz, .inr h, hc⟩
/-- a function value is not nil -/
theorem func_nil {P : Program} {t : TypeId} {ps rs : Array TypeId} {va : Bool} (ht : P.underlying t = some (.func ps rs va)) {x : Operand} {f : Fn} {a b : Array Value} : BinRun P .eql t x (.const .nilFunc) (.func f a b) .nilFunc false := by
  intro w
  have he : (Op.equal t (.func f a b) .nilFunc).run P w = .ok false w := by
    show (Op.equalIn (9999 + 1) t (.func f a b) .nilFunc).run P w = _
    unfold Op.equalIn
    simp [Sem.run_bind, underlying_run ht]
  simp [eqGuard, binOp, Sem.run_bind, he]
def funcT (P : Program) (t : TypeId) : Bool := match P.underlying t with
  | some (.func _ _ _) => true
  | _ => false
theorem func_nil' {P : Program} {t : TypeId} (h : funcT P t = true) {x : Operand} {f : Fn} {a b : Array Value} : BinRun P .eql t x (.const .nilFunc) (.func f a b) .nilFunc false := by
  unfold funcT at h
  split at h
  · rename_i ht; exact func_nil ht
  · cases h
/-- what is left over is let go -/
def Left (Q : Ending → Imm → Heap → Prop) (e : Ending) (I : Imm) (G : Heap) : Prop := ∃ A G', G.Perm (A ++ G') ∧ Q e I G'
theorem Tri.left {P : Program} {f : FuncId} {args : Array Value} {I : Imm} {F : Heap} {Q : Ending → Imm → Heap → Prop} (h : Tri P f args I F (Left Q)) : Tri P f args I F Q :=
  h.keep fun e I' G w hl hs ⟨A, G', hp, hq⟩ => ⟨I', G', Imm.le_refl _, (hs.perm hp).drop, hq⟩
theorem Left.of {Q : Ending → Imm → Heap → Prop} {e : Ending} {I : Imm} {G : Heap} (h : Q e I G) : Left Q e I G := ⟨[], G, .refl _, h⟩
theorem Left.one {Q : Ending → Imm → Heap → Prop} {e : Ending} {I : Imm} {x : Nat × Obj} {G : Heap} (h : Q e I G) : Left Q e I (x :: G) := ⟨[x], G, .refl _, h⟩
end Go.Vc
namespace Go.Lx
open Go.Vc

/-- the tokens from a place on, ahead of the end and of what is none -/
def goT (s : ByteArray) (f : Int) : List Tok := (toks s f).1.takeWhile fun t => t.kind != 0
def walkT (s : ByteArray) : List Tok := if (s.size : Int) > 4096 then [] else goT s 0
theorem goT_step {s : ByteArray} {f : Int} (h0 : 0 ≤ f) (h1 : f ≤ s.size) : goT s f = match tokR s f with
    | .bad e p => []
    | .ok t => if t.kind = 0 then [] else t :: goT s (t.pos + t.text.size) := by
  unfold goT
  rw [toks_step h0 h1]
  cases ht : tokR s f with
  | bad e p => rfl
  | ok t =>
    by_cases hk : t.kind = 0
    · simp [hk]
    · simp [hk]
theorem All_spec (s : ByteArray) (I : Imm) (F : Heap) : Tri P 29 #[.string s] I F fun e I' G => ∃ b, e = .returned (.func (.func 60) #[] #[.pointer (some ⟨b, 0, none⟩)]) ∧ I' b = some (.cells #[.string s] 9 (0, 0)) ∧ G = F := by
  refine Tri.keep (Q := fun e I' G => ∃ b, e = .returned (.func (.func 60) #[] #[.pointer (some ⟨b, 0, none⟩)]) ∧ G = (b, .cells #[.string s] 9 (0, 0)) :: F) (lex_All.vc fun b => ⟨b, rfl, rfl⟩) fun e I' G w hl hs ⟨b, he, hG⟩ => ?_
  subst hG
  obtain ⟨h1, h2⟩ := hs.promote
  exact ⟨_, _, h1, h2, b, he, Imm.put_same _ _ _, rfl⟩
theorem enters60 : Enters P 60 := enters_of_good (by kernel_rfl)
theorem All_iter {s : ByteArray} (hs : Short s) {I : Imm} {b : Nat} (hb : I b = some (.cells #[.string s] 9 (0, 0))) : IterC P (.func (.func 60) #[] #[.pointer (some ⟨b, 0, none⟩)]) Tok.v I (walkT s) := by
  intro y ya yb S X I1 F1 hI1 hS hX hround h0
  intro w hw
  refine ⟨60, #[], #[.pointer (some ⟨b, 0, none⟩)], rfl, enters60, ?_⟩
  have hb1 := hI1.at hb
  have hbr : ∀ {J : Imm}, Imm.le I1 J → ∀ G, Rd J G (⟨b, 0, none⟩ : Addr) [.string s] := fun {J} hJ G => Rd.of_imm (hJ.at hb1) G 0 fun j hj => by
    have : j = 0 := by simpa using hj
    subst this; rfl
  revert w
  refine Tri.left (lex_All_1.vc (fun f m I' F' => 0 ≤ f ∧ f ≤ s.size ∧ m = (s.size - f).toNat ∧ ∃ l, walkT s = l ++ goT s f ∧ S l.length I' F') ?_)
  unfold lex_All_1.V
  refine ⟨s, hbr (Imm.le_refl _) _, fun h => .of ⟨_, rfl, .inl ?_⟩, fun h => ?_⟩
  · have : walkT s = [] := by unfold walkT; rw [if_pos (of_decide_eq_true h)]
    rw [this]; exact h0
  have h := of_decide_eq_false h
  have hw : walkT s = goT s 0 := by unfold walkT; rw [if_neg h]
  refine ⟨⟨_, by omega, by omega, rfl, [], by rw [hw]; rfl, h0⟩, ?_⟩
  intro f m I2 F2 hI2 ⟨f0, f1, fm, l, hgo, hk⟩
  refine ⟨s, hbr hI2 _, ?_⟩
  have hend : ∀ {I' : Imm}, goT s f = [] → Imm.le I2 I' → S (walkT s).length I' F2 := fun {I'} he hl => by
    rw [hgo, he, List.append_nil]; exact hS _ _ _ _ _ hk hl (.refl _)
  have hstep := goT_step (s := s) f0 f1
  refine Tri.ret (token_spec hs f0 f1 I2 _) fun I3 hI3 => ?_
  rcases tokR_cases f0 f1 with ⟨t, htok, htat⟩ | ⟨e, htok, he⟩
  · rw [htok] at hstep ⊢
    have hnx := tok_next f0 f1 htok
    refine ⟨_, _, _, _, _, _, rfl, _, .refl _, fun b_t => ⟨_, 49, F2, .refl _, rfl, (by decide : 0 + 5 ≤ 5), fun h => absurd h (by decide), fun _ => ?_⟩⟩
    have hmem : ∀ (o : Obj) (G : Heap), (b_t, o) ∈ (b_t, o) :: G := fun o G => List.mem_cons_self ..
    refine ⟨t.kind, ?_, fun hk0 => ?_, fun hk0 => ?_⟩
    · rw [add_lit0]
      exact Rd.of_own (hmem _ _) 0 fun j hj => by
        have : j = 0 := by simpa using hj
        subst this; rfl
    · have hk0 : t.kind = 0 := by simpa using hk0
      simp only [hk0, if_true] at hstep
      exact .one ⟨_, rfl, .inl (hend hstep hI3)⟩
    · have hk0 : t.kind ≠ 0 := by simpa using hk0
      simp only [hk0, if_false] at hstep
      have hnx2 := hnx.2.2 hk0
      have hget : (walkT s)[l.length]? = some t := by rw [hgo, hstep, List.getElem?_append_right (Nat.le_refl _), Nat.sub_self]; rfl
      refine ⟨t.kind, t.text, t.typ, t.n, t.pos, Rd.of_own (hmem _ _) 0 fun j hj => by rw [Nat.zero_add]; exact (List.getElem?_toArray ..).trans rfl, TriV.promote fun hp => ?_⟩
      have hin : (I3.put b_t (.cells t.enc.toArray 49 (0, 0))) b_t = some (.cells t.enc.toArray 49 (0, 0)) := Imm.put_same _ _ _
      refine (hround l.length t _ F2 hget (Imm.le_trans hI2 (Imm.le_trans hI3 hp)) (hS _ _ _ _ _ hk (Imm.le_trans hI3 hp) (.refl _))).mono fun e I4 G hI4 hq => ?_
      have hin4 := hI4.at hin
      rcases hq with ⟨he, hq⟩ | ⟨he, hq⟩
      · refine ⟨true, he, G, .refl _, fun h => by (cases h), fun _ => ⟨t.pos, ?_, t.text, ?_, (s.size - (t.pos + t.text.size)).toNat, by omega, ?_⟩⟩
        · rw [add_lit0]
          exact Rd.of_imm hin4 _ 4 fun j hj => by
            have : j = 0 := by simpa using hj
            subst this; rfl
        · rw [add_lit0]
          exact Rd.of_imm hin4 _ 1 fun j hj => by
            have : j = 0 := by simpa using hj
            subst this; rfl
        · rw [w64 (by omega)]
          exact ⟨by omega, by omega, rfl, l ++ [t], by rw [hgo, hstep, List.append_assoc]; rfl, by rw [List.length_append]; exact hq⟩
      · exact ⟨false, he, G, .refl _, fun _ => .of ⟨_, rfl, .inr hq⟩, fun h => by (cases h)⟩
  · rw [htok] at hstep ⊢
    refine ⟨_, _, _, _, _, _, rfl, _, .refl _, fun b_t => ⟨_, 49, F2, .refl _, rfl, (by decide : 0 + 5 ≤ 5), fun _ => .one ⟨_, rfl, .inl (hend hstep hI3)⟩, fun h => ?_⟩⟩
    rcases he with rfl | rfl | rfl <;> exact absurd h (by decide)
end Go.Lx
