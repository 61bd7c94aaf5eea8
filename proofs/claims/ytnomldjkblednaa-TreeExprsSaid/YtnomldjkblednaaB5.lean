import Derived.Test.YtnomldjkblednaaB4
set_option linter.unusedVariables false
set_option linter.unusedSimpArgs false
namespace Go.Lx
open Go.Vc
def Small (l : List Px) : Prop := ∀ x ∈ l, x.size ≤ 1048576
theorem str_empty (s : ByteArray) : (s.toList == (⟨#[]⟩ : ByteArray).toList) = (s.toList == []) := by rw [empty_list]
theorem do_spec (d : DoN) (hs : Small d.p.nds) (I : Imm) (F : Heap) (hd : d.Ok I F) : Tri P 93 #[d.v] I F (Errs d.p.check F) := by
  have hs1 := hs d.side.px (by simp [DoP.nds, DoN.p])
  have hs2 := hs d.qty.px (by simp [DoP.nds, DoN.p])
  have hs3 := hs d.price.px (by simp [DoP.nds, DoN.p])
  have hs4 := hs d.value.px (by simp [DoP.nds, DoN.p])
  have hn : d.p.check = thenE (errB d.p.kindB 120) (thenE (errB d.p.orderB 120) (thenE (errB d.p.nameB 120) (thenE (partE (decide (d.kind = 1)) d.side.px) (thenE (partE (decide (d.kind = 1 ∨ d.kind = 2)) d.qty.px)
    (thenE (partE (decide (d.kind = 1 ∧ d.order ≠ 2 ∨ d.kind = 2)) d.price.px) (partE (decide (d.kind = 4)) d.value.px)))))) := rfl
  refine tree_do.vc (fun I' F' => Imm.le I I' ∧ F' = F ∧ d.p.check = thenE (errB d.p.orderB 120) (thenE (errB d.p.nameB 120) (thenE (partE (decide (d.kind = 1)) d.side.px) (thenE (partE (decide (d.kind = 1 ∨ d.kind = 2)) d.qty.px)
    (thenE (partE (decide (d.kind = 1 ∧ d.order ≠ 2 ∨ d.kind = 2)) d.price.px) (partE (decide (d.kind = 4)) d.value.px))))))
    (fun I' F' => Imm.le I I' ∧ F' = F ∧ d.p.check = thenE (errB d.p.nameB 120) (thenE (partE (decide (d.kind = 1)) d.side.px) (thenE (partE (decide (d.kind = 1 ∨ d.kind = 2)) d.qty.px)
    (thenE (partE (decide (d.kind = 1 ∧ d.order ≠ 2 ∨ d.kind = 2)) d.price.px) (partE (decide (d.kind = 4)) d.value.px)))))
    (fun I' F' => Imm.le I I' ∧ F' = F ∧ d.p.check = (thenE (partE (decide (d.kind = 1)) d.side.px) (thenE (partE (decide (d.kind = 1 ∨ d.kind = 2)) d.qty.px)
    (thenE (partE (decide (d.kind = 1 ∧ d.order ≠ 2 ∨ d.kind = 2)) d.price.px) (partE (decide (d.kind = 4)) d.value.px)))))
    (fun I' F' => Imm.le I I' ∧ F' = F ∧ d.p.check = ((thenE (partE (decide (d.kind = 1 ∨ d.kind = 2)) d.qty.px)
    (thenE (partE (decide (d.kind = 1 ∧ d.order ≠ 2 ∨ d.kind = 2)) d.price.px) (partE (decide (d.kind = 4)) d.value.px)))))
    (fun I' F' => Imm.le I I' ∧ F' = F ∧ d.p.check = ((thenE (partE (decide (d.kind = 1 ∧ d.order ≠ 2 ∨ d.kind = 2)) d.price.px) (partE (decide (d.kind = 4)) d.value.px))))
    (fun I' F' => Imm.le I I' ∧ F' = F ∧ d.p.check = partE (decide (d.kind = 4)) d.value.px) ?_
  unfold tree_do.V
  intro b_d
  have k1 : (d.kind == 1) = decide (d.kind = 1) := rfl
  have k2 : (d.kind == 2) = decide (d.kind = 2) := rfl
  have k4 : (d.kind == 4) = decide (d.kind = 4) := rfl
  refine ⟨⟨fun h => ?_, fun h => ?_⟩, fun I1 F1 hI1 ⟨hl1, hF1, hc1⟩ => ?_⟩
  · have e : d.p.kindB = decide (d.kind ≤ 6) := by
      have h := of_decide_eq_true h
      unfold DoP.kindB; rw [Bool.eq_iff_iff]; simp only [decide_eq_true_eq]; exact ⟨fun h => h.2, fun h' => ⟨h, h'⟩⟩
    rw [e] at hn
    refine Errs.use (must_errs _ (by decide) I _) (fun q2 I2 hI2 => .inl ⟨rfl, _, .refl _, ?_⟩) (fun q2 I2 hI2 => .inr ⟨_, rfl, _, .refl _, ?_⟩)
    · rw [q2, thenE_zero] at hn
      exact ⟨hI2, rfl, hn⟩
    · exact .fail hn q2
  · have e : d.p.kindB = false := by
      have h := of_decide_eq_false h
      exact decide_eq_false fun h' => h h'.1
    rw [e] at hn
    refine Errs.use (must_errs _ (by decide) I _) (fun q2 I2 hI2 => .inl ⟨rfl, _, .refl _, ?_⟩) (fun q2 I2 hI2 => .inr ⟨_, rfl, _, .refl _, ?_⟩)
    · cases q2
    · exact .fail hn q2
  subst hF1
  clear hn
  refine ⟨?_, fun I2 F2 hI2 ⟨hl2, hF2, hc2⟩ => ?_⟩
  · have key : ∀ b : Bool, b = d.p.orderB → Tri P 81 #[.bool b, .int .i64 120] I1 ((b_d, Obj.cells #[.int .u8 d.kind, .int .u8 d.order, .string d.name, .int .u8 d.side.kind, .int .u8 d.side.oper, .int .u8 d.side.typ, .int .i64 d.side.n, .int .u8 d.side.field, .string d.side.name, .slice d.side.a d.side.kids.length d.side.c, .int .i64 d.side.pos, .int .u8 d.qty.kind, .int .u8 d.qty.oper, .int .u8 d.qty.typ, .int .i64 d.qty.n, .int .u8 d.qty.field, .string d.qty.name, .slice d.qty.a d.qty.kids.length d.qty.c, .int .i64 d.qty.pos, .int .u8 d.price.kind, .int .u8 d.price.oper, .int .u8 d.price.typ, .int .i64 d.price.n, .int .u8 d.price.field, .string d.price.name, .slice d.price.a d.price.kids.length d.price.c, .int .i64 d.price.pos, .int .u8 d.value.kind, .int .u8 d.value.oper, .int .u8 d.value.typ, .int .i64 d.value.n, .int .u8 d.value.field, .string d.value.name, .slice d.value.a d.value.kids.length d.value.c, .int .i64 d.value.pos, .int .i64 d.pos] 135 (0, 0)) :: F1) fun e1 I2 G1 => (e1 = .returned (.tuple #[]) ∧ ∃ F1' : Heap, List.Perm G1 ((b_d, Obj.cells #[.int .u8 d.kind, .int .u8 d.order, .string d.name, .int .u8 d.side.kind, .int .u8 d.side.oper, .int .u8 d.side.typ, .int .i64 d.side.n, .int .u8 d.side.field, .string d.side.name, .slice d.side.a d.side.kids.length d.side.c, .int .i64 d.side.pos, .int .u8 d.qty.kind, .int .u8 d.qty.oper, .int .u8 d.qty.typ, .int .i64 d.qty.n, .int .u8 d.qty.field, .string d.qty.name, .slice d.qty.a d.qty.kids.length d.qty.c, .int .i64 d.qty.pos, .int .u8 d.price.kind, .int .u8 d.price.oper, .int .u8 d.price.typ, .int .i64 d.price.n, .int .u8 d.price.field, .string d.price.name, .slice d.price.a d.price.kids.length d.price.c, .int .i64 d.price.pos, .int .u8 d.value.kind, .int .u8 d.value.oper, .int .u8 d.value.typ, .int .i64 d.value.n, .int .u8 d.value.field, .string d.value.name, .slice d.value.a d.value.kids.length d.value.c, .int .i64 d.value.pos, .int .i64 d.pos] 135 (0, 0)) :: F1') ∧ (Imm.le I I2 ∧ F1' = F1 ∧ d.p.check = thenE (errB d.p.nameB 120) (thenE (partE (decide (d.kind = 1)) d.side.px) (thenE (partE (decide (d.kind = 1 ∨ d.kind = 2)) d.qty.px)
        (thenE (partE (decide (d.kind = 1 ∧ d.order ≠ 2 ∨ d.kind = 2)) d.price.px) (partE (decide (d.kind = 4)) d.value.px)))))) ∨ (∃ ch : List PanicEntry, e1 = .panicked ch ∧ ∃ F2 : Heap, List.Perm G1 ((b_d, Obj.cells #[.int .u8 d.kind, .int .u8 d.order, .string d.name, .int .u8 d.side.kind, .int .u8 d.side.oper, .int .u8 d.side.typ, .int .i64 d.side.n, .int .u8 d.side.field, .string d.side.name, .slice d.side.a d.side.kids.length d.side.c, .int .i64 d.side.pos, .int .u8 d.qty.kind, .int .u8 d.qty.oper, .int .u8 d.qty.typ, .int .i64 d.qty.n, .int .u8 d.qty.field, .string d.qty.name, .slice d.qty.a d.qty.kids.length d.qty.c, .int .i64 d.qty.pos, .int .u8 d.price.kind, .int .u8 d.price.oper, .int .u8 d.price.typ, .int .i64 d.price.n, .int .u8 d.price.field, .string d.price.name, .slice d.price.a d.price.kids.length d.price.c, .int .i64 d.price.pos, .int .u8 d.value.kind, .int .u8 d.value.oper, .int .u8 d.value.typ, .int .i64 d.value.n, .int .u8 d.value.field, .string d.value.name, .slice d.value.a d.value.kids.length d.value.c, .int .i64 d.value.pos, .int .i64 d.pos] 135 (0, 0)) :: F2) ∧ Errs d.p.check F1 (.panicked ch) I2 F2) := fun b hb => by
      subst hb
      refine Errs.use (must_errs _ (by decide) I1 _) (fun q2 I2 hI2 => .inl ⟨rfl, _, .refl _, ?_⟩) (fun q2 I2 hI2 => .inr ⟨_, rfl, _, .refl _, ?_⟩)
      · rw [q2, thenE_zero] at hc1
        exact ⟨Imm.le_trans hl1 hI2, rfl, hc1⟩
      · exact .fail hc1 q2
    have eo : d.p.orderB = decide (d.kind = 1 ∧ 1 ≤ d.order ∧ d.order ≤ 5 ∨ d.kind ≠ 1 ∧ d.order = 0) := rfl
    refine ⟨fun h => ⟨fun h2 => ⟨fun h3 => key _ ?_, fun h3 => ⟨fun h4 => key _ ?_, fun h4 => key _ ?_⟩⟩, fun h2 => ⟨fun h4 => key _ ?_, fun h4 => key _ ?_⟩⟩, fun h => ⟨fun h4 => key _ ?_, fun h4 => key _ ?_⟩⟩
    all_goals
      rw [eo, Bool.eq_iff_iff]
      simp only [decide_eq_true_eq, decide_eq_false_iff_not, beq_iff_eq, beq_eq_false_iff_ne, Bool.not_eq_true', Bool.not_eq_false', iff_true, true_iff, false_iff, Bool.false_eq_true] at *
      omega
  subst hF2
  clear hc1
  have en : d.p.nameB = if d.kind = 6 then d.name.toList == [] else if d.kind ≠ 1 ∨ d.name.toList ≠ [] then Lx.nameB d.name else true := rfl
  refine ⟨⟨fun h => ?_, fun h => ⟨fun h2 => ?_, fun h2 => ⟨fun h3 => ?_, fun h3 => ?_⟩⟩⟩, fun I3 F3 hI3 ⟨hl3, hF3, hc3⟩ => ?_⟩
  · have h : d.kind = 6 := by simpa using h
    rw [if_pos h] at en
    rw [str_empty, ← en]
    refine Errs.use (must_errs _ (by decide) I2 _) (fun q3 I3 hI3 => .inl ⟨rfl, _, .refl _, ?_⟩) (fun q3 I3 hI3 => .inr ⟨_, rfl, _, .refl _, ?_⟩)
    · rw [q3, thenE_zero] at hc2; exact ⟨Imm.le_trans hl2 hI3, rfl, hc2⟩
    · exact .fail hc2 q3
  · have h : d.kind ≠ 6 := by simpa using h
    have h2 : d.kind ≠ 1 := by simpa using h2
    rw [if_neg h, if_pos (.inl h2)] at en
    refine Errs.use (named_spec d.name I2 _) (fun q3 I3 hI3 => .inl ⟨rfl, _, .refl _, ?_⟩) (fun q3 I3 hI3 => .inr ⟨_, rfl, _, .refl _, ?_⟩)
    · rw [en, q3, thenE_zero] at hc2; exact ⟨Imm.le_trans hl2 hI3, rfl, hc2⟩
    · rw [en] at hc2; exact .fail hc2 q3
  · have h : d.kind ≠ 6 := by simpa using h
    rw [str_empty] at h3
    rw [if_neg h, if_pos (.inr (by simpa using h3))] at en
    refine Errs.use (named_spec d.name I2 _) (fun q3 I3 hI3 => .inl ⟨rfl, _, .refl _, ?_⟩) (fun q3 I3 hI3 => .inr ⟨_, rfl, _, .refl _, ?_⟩)
    · rw [en, q3, thenE_zero] at hc2; exact ⟨Imm.le_trans hl2 hI3, rfl, hc2⟩
    · rw [en] at hc2; exact .fail hc2 q3
  · have h : d.kind ≠ 6 := by simpa using h
    have h2 : d.kind = 1 := by simpa using h2
    rw [str_empty] at h3
    have h3 : d.name.toList = [] := by simpa using h3
    rw [if_neg h, if_neg (by simp [h2, h3])] at en
    rw [en] at hc2
    exact ⟨hl2, rfl, hc2⟩
  subst hF3
  clear hc2 en
  have ok : ∀ {J : Imm}, Imm.le I J → d.Ok J ((b_d, Obj.cells #[.int .u8 d.kind, .int .u8 d.order, .string d.name, .int .u8 d.side.kind, .int .u8 d.side.oper, .int .u8 d.side.typ, .int .i64 d.side.n, .int .u8 d.side.field, .string d.side.name, .slice d.side.a d.side.kids.length d.side.c, .int .i64 d.side.pos, .int .u8 d.qty.kind, .int .u8 d.qty.oper, .int .u8 d.qty.typ, .int .i64 d.qty.n, .int .u8 d.qty.field, .string d.qty.name, .slice d.qty.a d.qty.kids.length d.qty.c, .int .i64 d.qty.pos, .int .u8 d.price.kind, .int .u8 d.price.oper, .int .u8 d.price.typ, .int .i64 d.price.n, .int .u8 d.price.field, .string d.price.name, .slice d.price.a d.price.kids.length d.price.c, .int .i64 d.price.pos, .int .u8 d.value.kind, .int .u8 d.value.oper, .int .u8 d.value.typ, .int .i64 d.value.n, .int .u8 d.value.field, .string d.value.name, .slice d.value.a d.value.kids.length d.value.c, .int .i64 d.value.pos, .int .i64 d.pos] 135 (0, 0)) :: F3) := fun hJ => (hd.mono hJ fun _ h => h).cons
  refine ⟨?_, fun I4 F4 hI4 ⟨hl4, hF4, hc4⟩ => ?_⟩
  · rw [k1]
    refine Errs.use (part_spec _ d.side hs1 I3 _ (ok hl3).1) (fun q4 I4 hI4 => .inl ⟨rfl, _, .refl _, ?_⟩) (fun q4 I4 hI4 => .inr ⟨_, rfl, _, .refl _, ?_⟩)
    · rw [q4, thenE_zero] at hc3; exact ⟨Imm.le_trans hl3 hI4, rfl, hc3⟩
    · exact .fail hc3 q4
  subst hF4
  refine ⟨?_, fun I5 F5 hI5 ⟨hl5, hF5, hc5⟩ => ?_⟩
  · have key : ∀ b : Bool, b = decide (d.kind = 1 ∨ d.kind = 2) → Tri P 101 #[.bool b, d.qty.v] I4 ((b_d, Obj.cells #[.int .u8 d.kind, .int .u8 d.order, .string d.name, .int .u8 d.side.kind, .int .u8 d.side.oper, .int .u8 d.side.typ, .int .i64 d.side.n, .int .u8 d.side.field, .string d.side.name, .slice d.side.a d.side.kids.length d.side.c, .int .i64 d.side.pos, .int .u8 d.qty.kind, .int .u8 d.qty.oper, .int .u8 d.qty.typ, .int .i64 d.qty.n, .int .u8 d.qty.field, .string d.qty.name, .slice d.qty.a d.qty.kids.length d.qty.c, .int .i64 d.qty.pos, .int .u8 d.price.kind, .int .u8 d.price.oper, .int .u8 d.price.typ, .int .i64 d.price.n, .int .u8 d.price.field, .string d.price.name, .slice d.price.a d.price.kids.length d.price.c, .int .i64 d.price.pos, .int .u8 d.value.kind, .int .u8 d.value.oper, .int .u8 d.value.typ, .int .i64 d.value.n, .int .u8 d.value.field, .string d.value.name, .slice d.value.a d.value.kids.length d.value.c, .int .i64 d.value.pos, .int .i64 d.pos] 135 (0, 0)) :: F4) fun e1 I2 G1 => (e1 = .returned (.tuple #[]) ∧ ∃ F1' : Heap, List.Perm G1 ((b_d, Obj.cells #[.int .u8 d.kind, .int .u8 d.order, .string d.name, .int .u8 d.side.kind, .int .u8 d.side.oper, .int .u8 d.side.typ, .int .i64 d.side.n, .int .u8 d.side.field, .string d.side.name, .slice d.side.a d.side.kids.length d.side.c, .int .i64 d.side.pos, .int .u8 d.qty.kind, .int .u8 d.qty.oper, .int .u8 d.qty.typ, .int .i64 d.qty.n, .int .u8 d.qty.field, .string d.qty.name, .slice d.qty.a d.qty.kids.length d.qty.c, .int .i64 d.qty.pos, .int .u8 d.price.kind, .int .u8 d.price.oper, .int .u8 d.price.typ, .int .i64 d.price.n, .int .u8 d.price.field, .string d.price.name, .slice d.price.a d.price.kids.length d.price.c, .int .i64 d.price.pos, .int .u8 d.value.kind, .int .u8 d.value.oper, .int .u8 d.value.typ, .int .i64 d.value.n, .int .u8 d.value.field, .string d.value.name, .slice d.value.a d.value.kids.length d.value.c, .int .i64 d.value.pos, .int .i64 d.pos] 135 (0, 0)) :: F1') ∧ (Imm.le I I2 ∧ F1' = F4 ∧ d.p.check = 
        (thenE (partE (decide (d.kind = 1 ∧ d.order ≠ 2 ∨ d.kind = 2)) d.price.px) (partE (decide (d.kind = 4)) d.value.px)))) ∨ (∃ ch : List PanicEntry, e1 = .panicked ch ∧ ∃ F2 : Heap, List.Perm G1 ((b_d, Obj.cells #[.int .u8 d.kind, .int .u8 d.order, .string d.name, .int .u8 d.side.kind, .int .u8 d.side.oper, .int .u8 d.side.typ, .int .i64 d.side.n, .int .u8 d.side.field, .string d.side.name, .slice d.side.a d.side.kids.length d.side.c, .int .i64 d.side.pos, .int .u8 d.qty.kind, .int .u8 d.qty.oper, .int .u8 d.qty.typ, .int .i64 d.qty.n, .int .u8 d.qty.field, .string d.qty.name, .slice d.qty.a d.qty.kids.length d.qty.c, .int .i64 d.qty.pos, .int .u8 d.price.kind, .int .u8 d.price.oper, .int .u8 d.price.typ, .int .i64 d.price.n, .int .u8 d.price.field, .string d.price.name, .slice d.price.a d.price.kids.length d.price.c, .int .i64 d.price.pos, .int .u8 d.value.kind, .int .u8 d.value.oper, .int .u8 d.value.typ, .int .i64 d.value.n, .int .u8 d.value.field, .string d.value.name, .slice d.value.a d.value.kids.length d.value.c, .int .i64 d.value.pos, .int .i64 d.pos] 135 (0, 0)) :: F2) ∧ Errs d.p.check F4 (.panicked ch) I2 F2) := fun b hb => by
      subst hb
      refine Errs.use (part_spec _ d.qty hs2 I4 _ (ok hl4).2.1) (fun q5 I5 hI5 => .inl ⟨rfl, _, .refl _, ?_⟩) (fun q5 I5 hI5 => .inr ⟨_, rfl, _, .refl _, ?_⟩)
      · rw [q5, thenE_zero] at hc4; exact ⟨Imm.le_trans hl4 hI5, rfl, hc4⟩
      · exact .fail hc4 q5
    refine ⟨fun h => key _ ?_, fun h => key _ ?_⟩
    · simp only [beq_iff_eq] at h; simp [h]
    · simp only [beq_eq_false_iff_ne] at h; rw [Bool.eq_iff_iff]; simp [h]
  subst hF5
  refine ⟨?_, fun I6 F6 hI6 ⟨hl6, hF6, hc6⟩ => ?_⟩
  · have key : ∀ b : Bool, b = decide (d.kind = 1 ∧ d.order ≠ 2 ∨ d.kind = 2) → Tri P 101 #[.bool b, d.price.v] I5 ((b_d, Obj.cells #[.int .u8 d.kind, .int .u8 d.order, .string d.name, .int .u8 d.side.kind, .int .u8 d.side.oper, .int .u8 d.side.typ, .int .i64 d.side.n, .int .u8 d.side.field, .string d.side.name, .slice d.side.a d.side.kids.length d.side.c, .int .i64 d.side.pos, .int .u8 d.qty.kind, .int .u8 d.qty.oper, .int .u8 d.qty.typ, .int .i64 d.qty.n, .int .u8 d.qty.field, .string d.qty.name, .slice d.qty.a d.qty.kids.length d.qty.c, .int .i64 d.qty.pos, .int .u8 d.price.kind, .int .u8 d.price.oper, .int .u8 d.price.typ, .int .i64 d.price.n, .int .u8 d.price.field, .string d.price.name, .slice d.price.a d.price.kids.length d.price.c, .int .i64 d.price.pos, .int .u8 d.value.kind, .int .u8 d.value.oper, .int .u8 d.value.typ, .int .i64 d.value.n, .int .u8 d.value.field, .string d.value.name, .slice d.value.a d.value.kids.length d.value.c, .int .i64 d.value.pos, .int .i64 d.pos] 135 (0, 0)) :: F5) fun e1 I2 G1 => (e1 = .returned (.tuple #[]) ∧ ∃ F1' : Heap, List.Perm G1 ((b_d, Obj.cells #[.int .u8 d.kind, .int .u8 d.order, .string d.name, .int .u8 d.side.kind, .int .u8 d.side.oper, .int .u8 d.side.typ, .int .i64 d.side.n, .int .u8 d.side.field, .string d.side.name, .slice d.side.a d.side.kids.length d.side.c, .int .i64 d.side.pos, .int .u8 d.qty.kind, .int .u8 d.qty.oper, .int .u8 d.qty.typ, .int .i64 d.qty.n, .int .u8 d.qty.field, .string d.qty.name, .slice d.qty.a d.qty.kids.length d.qty.c, .int .i64 d.qty.pos, .int .u8 d.price.kind, .int .u8 d.price.oper, .int .u8 d.price.typ, .int .i64 d.price.n, .int .u8 d.price.field, .string d.price.name, .slice d.price.a d.price.kids.length d.price.c, .int .i64 d.price.pos, .int .u8 d.value.kind, .int .u8 d.value.oper, .int .u8 d.value.typ, .int .i64 d.value.n, .int .u8 d.value.field, .string d.value.name, .slice d.value.a d.value.kids.length d.value.c, .int .i64 d.value.pos, .int .i64 d.pos] 135 (0, 0)) :: F1') ∧ (Imm.le I I2 ∧ F1' = F5 ∧ d.p.check = 
        partE (decide (d.kind = 4)) d.value.px)) ∨ (∃ ch : List PanicEntry, e1 = .panicked ch ∧ ∃ F2 : Heap, List.Perm G1 ((b_d, Obj.cells #[.int .u8 d.kind, .int .u8 d.order, .string d.name, .int .u8 d.side.kind, .int .u8 d.side.oper, .int .u8 d.side.typ, .int .i64 d.side.n, .int .u8 d.side.field, .string d.side.name, .slice d.side.a d.side.kids.length d.side.c, .int .i64 d.side.pos, .int .u8 d.qty.kind, .int .u8 d.qty.oper, .int .u8 d.qty.typ, .int .i64 d.qty.n, .int .u8 d.qty.field, .string d.qty.name, .slice d.qty.a d.qty.kids.length d.qty.c, .int .i64 d.qty.pos, .int .u8 d.price.kind, .int .u8 d.price.oper, .int .u8 d.price.typ, .int .i64 d.price.n, .int .u8 d.price.field, .string d.price.name, .slice d.price.a d.price.kids.length d.price.c, .int .i64 d.price.pos, .int .u8 d.value.kind, .int .u8 d.value.oper, .int .u8 d.value.typ, .int .i64 d.value.n, .int .u8 d.value.field, .string d.value.name, .slice d.value.a d.value.kids.length d.value.c, .int .i64 d.value.pos, .int .i64 d.pos] 135 (0, 0)) :: F2) ∧ Errs d.p.check F5 (.panicked ch) I2 F2) := fun b hb => by
      subst hb
      refine Errs.use (part_spec _ d.price hs3 I5 _ (ok hl5).2.2.1) (fun q6 I6 hI6 => .inl ⟨rfl, _, .refl _, ?_⟩) (fun q6 I6 hI6 => .inr ⟨_, rfl, _, .refl _, ?_⟩)
      · rw [q6, thenE_zero] at hc5; exact ⟨Imm.le_trans hl5 hI6, rfl, hc5⟩
      · exact .fail hc5 q6
    refine ⟨fun h => ⟨fun h2 => key _ ?_, fun h2 => key _ ?_⟩, fun h => key _ ?_⟩
    all_goals simp only [beq_iff_eq, beq_eq_false_iff_ne, bne_iff_ne, bne_eq_false_iff_eq] at *
    · simp [h, h2]
    · rw [Bool.eq_iff_iff]; simp [h, h2]
    · rw [Bool.eq_iff_iff]; simp [h]
  subst hF6
  rw [k4]
  refine Errs.use (part_spec _ d.value hs4 I6 _ (ok hl6).2.2.2) (fun q7 I7 hI7 => .inl ⟨rfl, _, .refl _, ?_⟩) (fun q7 I7 hI7 => .inr ⟨_, rfl, _, .refl _, ?_⟩)
  · rw [q7] at hc6; exact .done hc6
  · exact .fail1 hc6 q7
end Go.Lx
namespace Go.Lx
open Go.Vc
theorem firstE_map {α β : Type} (f : β → Int) (g : α → β) {l : List α} {i : Nat} {x : α} (h : l[i]? = some x) : firstE f ((l.drop i).map g) = thenE (f (g x)) (firstE f ((l.drop (i + 1)).map g)) := by
  obtain ⟨hk, rfl⟩ := List.getElem?_eq_some_iff.1 h
  rw [List.drop_eq_getElem_cons hk, List.map_cons, firstE]
theorem firstE_end {α β : Type} (f : β → Int) (g : α → β) {l : List α} {i : Nat} (h : l.length ≤ i) : firstE f ((l.drop i).map g) = 0 := by rw [List.drop_eq_nil_of_le h]; rfl
theorem SlG.atm {α : Type} {I : Imm} {G : Heap} {z : Nat} {f : α → List Value} {a : Option Addr} {n : Nat} {l : List α} (h : SlG I G z f a n l) {i : Int} (h0 : 0 ≤ i) (h1 : i < n) :
    ∃ ad x, a = some ad ∧ l[i.toNat]? = some x ∧ Rd I G (ad.add (Int.toNat i * z)) (f x) ∧ x ∈ l := by
  obtain ⟨ad, x, g1, g2, g3⟩ := h.at h0 h1
  exact ⟨ad, x, g1, g2, g3, List.mem_of_getElem? g2⟩
theorem rule_spec (r : RuleN) (hs : Small r.p.nds) (I : Imm) (F : Heap) (hr : r.Ok I F) (hlen : r.dos.length ≤ 1000000000) : Tri P 83 #[r.v] I F (Errs r.p.check F) := by
  have hsw := hs r.when.px (by simp [RuleP.nds, RuleN.p])
  have hsd : ∀ d ∈ r.dos, Small d.p.nds := fun d hd x hx => hs x (by
    simp only [RuleP.nds, RuleN.p, List.mem_cons, List.mem_flatMap, List.mem_map]
    exact .inr ⟨_, ⟨d, hd, rfl⟩, hx⟩)
  have hc : r.p.check = thenE r.when.px.checkE (thenE (errB (decide (0 < r.dos.length)) 120) (thenE (errB (decide (r.dos.length ≤ 8)) 121) (firstE DoP.check (r.dos.map DoN.p)))) := by
    show thenE _ (thenE (errB (decide (0 < (r.dos.map DoN.p).length)) 120) (thenE (errB (decide ((r.dos.map DoN.p).length ≤ 8)) 121) _)) = _
    rw [List.length_map]; rfl
  refine tree_rule.vc (fun i m I' F' => 0 ≤ i ∧ i ≤ r.dos.length ∧ m = (r.dos.length - i).toNat ∧ Imm.le I I' ∧ F' = F ∧ r.p.check = firstE DoP.check ((r.dos.drop i.toNat).map DoN.p)) ?_
  unfold tree_rule.V
  intro b_r
  refine Errs.use (expr_spec r.when hsw I _ hr.1.cons) (fun q1 I1 hI1 => .inl ⟨rfl, _, .refl _, ?_⟩) (fun q1 I1 hI1 => .inr ⟨_, rfl, _, .refl _, ?_⟩)
  · rw [q1, thenE_zero] at hc
    have e1 : decide (((r.dos.length : Nat) : Int) > 0) = decide (0 < r.dos.length) := by rw [Bool.eq_iff_iff]; simp only [decide_eq_true_eq]; omega
    have e2 : decide (((r.dos.length : Nat) : Int) ≤ 8) = decide (r.dos.length ≤ 8) := by rw [Bool.eq_iff_iff]; simp only [decide_eq_true_eq]; omega
    rw [e1, e2]
    refine Errs.use (must_errs _ (by decide) I1 _) (fun q2 I2 hI2 => .inl ⟨rfl, _, .refl _, ?_⟩) (fun q2 I2 hI2 => .inr ⟨_, rfl, _, .refl _, ?_⟩)
    · rw [q2, thenE_zero] at hc
      refine Errs.use (must_errs _ (by decide) I2 _) (fun q3 I3 hI3 => .inl ⟨rfl, _, .refl _, ?_⟩) (fun q3 I3 hI3 => .inr ⟨_, rfl, _, .refl _, ?_⟩)
      · rw [q3, thenE_zero] at hc
        refine ⟨⟨_, by omega, by omega, rfl, Imm.le_trans hI1 (Imm.le_trans hI2 hI3), rfl, hc⟩, fun i m I4 F4 hI4 ⟨g0, g1, gm, hl, hF, gc⟩ => ⟨fun hlt => ?_, fun hlt => ?_⟩⟩
        · have hlt := of_decide_eq_true hlt
          subst hF
          have hr4 := (hr.mono hl fun _ h => h).cons (x := (b_r, Obj.cells #[.int .u8 r.when.kind, .int .u8 r.when.oper, .int .u8 r.when.typ, .int .i64 r.when.n, .int .u8 r.when.field, .string r.when.name, .slice r.when.a r.when.kids.length r.when.c, .int .i64 r.when.pos, .slice r.a r.dos.length r.c, .int .i64 r.pos] 90 (0, 0)))
          obtain ⟨ad, d, had, hd, hrd, hdm⟩ := SlG.atm hr4.2.1 g0 hlt
          refine ⟨⟨g0, hlt⟩, ad, had, _, _, _, _, _, _, _, _, _, _, _, _, _, _, _, _, _, _, _, _, _, _, _, _, _, _, _, _, _, _, _, _, _, _, _, _, _, _, _, _, _, _, _, _, hrd, fun b_d => ?_⟩
          rw [firstE_map _ _ hd] at gc
          have hd4 : d.Ok I4 ((b_r, Obj.cells #[.int .u8 r.when.kind, .int .u8 r.when.oper, .int .u8 r.when.typ, .int .i64 r.when.n, .int .u8 r.when.field, .string r.when.name, .slice r.when.a r.when.kids.length r.when.c, .int .i64 r.when.pos, .slice r.a r.dos.length r.c, .int .i64 r.pos] 90 (0, 0)) :: (b_d, Obj.cells #[.int .u8 d.kind, .int .u8 d.order, .string d.name, .int .u8 d.side.kind, .int .u8 d.side.oper, .int .u8 d.side.typ, .int .i64 d.side.n, .int .u8 d.side.field, .string d.side.name, .slice d.side.a d.side.kids.length d.side.c, .int .i64 d.side.pos, .int .u8 d.qty.kind, .int .u8 d.qty.oper, .int .u8 d.qty.typ, .int .i64 d.qty.n, .int .u8 d.qty.field, .string d.qty.name, .slice d.qty.a d.qty.kids.length d.qty.c, .int .i64 d.qty.pos, .int .u8 d.price.kind, .int .u8 d.price.oper, .int .u8 d.price.typ, .int .i64 d.price.n, .int .u8 d.price.field, .string d.price.name, .slice d.price.a d.price.kids.length d.price.c, .int .i64 d.price.pos, .int .u8 d.value.kind, .int .u8 d.value.oper, .int .u8 d.value.typ, .int .i64 d.value.n, .int .u8 d.value.field, .string d.value.name, .slice d.value.a d.value.kids.length d.value.c, .int .i64 d.value.pos, .int .i64 d.pos] 135 (0, 0)) :: F4) := ((hr.2.2 d hdm).mono hl fun _ h => h).cons.cons
          refine Errs.use (do_spec d (hsd d hdm) I4 _ hd4) (fun q5 I5 hI5 => .inl ⟨rfl, _, .refl _, ?_⟩) (fun q5 I5 hI5 => .inr ⟨_, rfl, _, .refl _, ?_⟩)
          · rw [q5, thenE_zero] at gc
            refine ⟨(r.dos.length - (i + 1)).toNat, by omega, ?_⟩
            rw [w64 (n := i + 1) (by omega)]
            exact ⟨by omega, by omega, rfl, Imm.le_trans hl hI5, rfl, by rw [gc, show (i + 1).toNat = i.toNat + 1 by omega]⟩
          · exact .fail gc q5
        · have hlt := of_decide_eq_false hlt
          subst hF
          rw [firstE_end _ _ (by omega)] at gc
          exact .done gc
      · exact .fail hc q3
    · exact .fail hc q2
  · exact .fail hc q1
structure StgN.Lens (s : StgN) : Prop where
  regs : s.regs.length ≤ 1000000000
  slots : s.slots.length ≤ 1000000000
  states : s.states.length ≤ 1000000000
  rules : ∀ x ∈ s.states, x.rules.length ≤ 1000000000
  dos : ∀ x ∈ s.states, ∀ r ∈ x.rules, r.dos.length ≤ 1000000000
theorem check1S_spec (s : StgN) (hs : Small s.p.nds) (hl : s.Lens) (I : Imm) (F : Heap) (hok : s.Ok I F) {c : Addr} (hc : Rd I F c s.enc) : Tri P 79 #[.pointer (some c)] I F (Errs s.p.check F) := by
  have hsr : ∀ r ∈ s.regs, r.init.px.size ≤ 1048576 := fun r hr => hs _ (by
    simp only [StgP.nds, StgN.p, List.mem_append, List.mem_map]
    exact .inl ⟨_, ⟨r, hr, rfl⟩, rfl⟩)
  have hss : ∀ x ∈ s.states, ∀ r ∈ x.rules, Small r.p.nds := fun x hx r hr y hy => hs y (by
    simp only [StgP.nds, StgN.p, List.mem_append, List.mem_flatMap, List.mem_map]
    exact .inr ⟨_, ⟨x, hx, rfl⟩, _, by simp only [StateN.p, List.mem_map]; exact ⟨r, hr, rfl⟩, hy⟩)
  have hck : s.p.check = thenE (errB (nameB s.name) 120) (thenE (errB (decide (s.regs.length ≤ 12)) 121) (thenE (firstE RegP.check (s.regs.map RegN.p)) (thenE (errB (decide (s.slots.length ≤ 4)) 121) (thenE (firstE SlotP.check s.slots)
      (thenE (errB (decide (0 < s.states.length)) 120) (thenE (errB (decide (s.states.length ≤ 12)) 121) (firstE StateP.check (s.states.map StateN.p)))))))) := by
    show thenE _ (thenE (errB (decide ((s.regs.map RegN.p).length ≤ 12)) 121) (thenE _ (thenE _ (thenE _ (thenE (errB (decide (0 < (s.states.map StateN.p).length)) 120) (thenE (errB (decide ((s.states.map StateN.p).length ≤ 12)) 121) _)))))) = _
    rw [List.length_map, List.length_map]; rfl
  refine tree_Check_1.vc
    (fun i m _ _ I' F' => 0 ≤ i ∧ i ≤ s.regs.length ∧ m = (s.regs.length - i).toNat ∧ Imm.le I I' ∧ F' = F ∧ s.p.check = thenE (firstE RegP.check ((s.regs.drop i.toNat).map RegN.p)) (thenE (errB (decide (s.slots.length ≤ 4)) 121) (thenE (firstE SlotP.check s.slots)
      (thenE (errB (decide (0 < s.states.length)) 120) (thenE (errB (decide (s.states.length ≤ 12)) 121) (firstE StateP.check (s.states.map StateN.p)))))))
    (fun i m _ _ I' F' => 0 ≤ i ∧ i ≤ s.slots.length ∧ m = (s.slots.length - i).toNat ∧ Imm.le I I' ∧ F' = F ∧ s.p.check = thenE (firstE SlotP.check ((s.slots.drop i.toNat).map id))
      (thenE (errB (decide (0 < s.states.length)) 120) (thenE (errB (decide (s.states.length ≤ 12)) 121) (firstE StateP.check (s.states.map StateN.p)))))
    (fun i m _ _ I' F' => 0 ≤ i ∧ i ≤ s.states.length ∧ m = (s.states.length - i).toNat ∧ Imm.le I I' ∧ F' = F ∧ s.p.check = firstE StateP.check ((s.states.drop i.toNat).map StateN.p))
    (fun i j n _ _ I' F' => Imm.le I I' ∧ F' = F ∧ 0 ≤ j ∧ ∃ x : StateN, s.states[i.toNat]? = some x ∧ j ≤ x.rules.length ∧ n = (x.rules.length - j).toNat ∧ s.p.check = thenE (firstE RuleP.check ((x.rules.drop j.toNat).map RuleN.p)) (firstE StateP.check ((s.states.drop (i.toNat + 1)).map StateN.p))) ?_
  unfold tree_Check_1.V
  have rd : ∀ {J : Imm}, Imm.le I J → ∀ (o : Nat) (v : Value), s.enc[o]? = some v → Rd J F (c.add o) [v] := fun hJ o v hv => (hc.sub hJ fun _ h => h).field hv
  have ok : ∀ {J : Imm}, Imm.le I J → s.Ok J F := fun hJ => hok.mono hJ fun _ h => h
  have e12 : ∀ n : Nat, decide ((n : Int) ≤ 12) = decide (n ≤ 12) := fun n => by rw [Bool.eq_iff_iff]; simp only [decide_eq_true_eq]; omega
  have e4 : ∀ n : Nat, decide ((n : Int) ≤ 4) = decide (n ≤ 4) := fun n => by rw [Bool.eq_iff_iff]; simp only [decide_eq_true_eq]; omega
  have e0 : ∀ n : Nat, decide ((n : Int) > 0) = decide (0 < n) := fun n => by rw [Bool.eq_iff_iff]; simp only [decide_eq_true_eq]; omega
  have hlr := hl.regs
  have hls := hl.slots
  have hlt' := hl.states
  refine ⟨s.name, rd (Imm.le_refl I) 0 _ rfl, Errs.use (named_spec s.name I _) (fun q1 I1 hI1 => .inl ⟨rfl, _, .refl _, ?_⟩) (fun q1 I1 hI1 => .inr ⟨_, rfl, _, .refl _, ?_⟩)⟩
  case refine_2 => exact .fail hck q1
  rw [q1, thenE_zero] at hck
  refine ⟨_, _, _, rd hI1 1 _ rfl, ?_⟩
  rw [e12]
  refine Errs.use (must_errs _ (by decide) I1 _) (fun q2 I2 hI2 => .inl ⟨rfl, _, .refl _, ?_⟩) (fun q2 I2 hI2 => .inr ⟨_, rfl, _, .refl _, ?_⟩)
  case refine_2 => exact .fail hck q2
  rw [q2, thenE_zero] at hck
  have hl2 := Imm.le_trans hI1 hI2
  refine ⟨_, _, _, rd hl2 1 _ rfl, ⟨_, by omega, by omega, rfl, hl2, rfl, hck⟩, ?_⟩
  clear hck
  intro i m I3 F3 hI3 ⟨g0, g1, gm, hl3, hF3, gc⟩
  subst hF3
  refine ⟨fun hlt => ?_, fun hlt => ?_⟩
  · have hlt := of_decide_eq_true hlt
    obtain ⟨ad, r, had, hr, hrd, hrm⟩ := SlG.atm (ok hl3).regs g0 hlt
    rw [firstE_map _ _ hr, thenE_assoc] at gc
    have rc : r.p.check = errB (nameB r.name && (decide (1 ≤ r.typ ∧ r.typ ≤ 6) && (r.init.px.formed && r.init.px.beginB))) 120 := rfl
    refine ⟨⟨g0, hlt⟩, ad, had, _, _, _, _, _, _, _, _, _, _, _, _, _, hrd, fun b_r => Errs.use (named_spec r.name I3 _) (fun q4 I4 hI4 => .inl ⟨rfl, _, .refl _, ?_⟩) (fun q4 I4 hI4 => .inr ⟨_, rfl, _, .refl _, ?_⟩)⟩
    · have h4 := errB_zero (by decide) q4
      rw [h4, Bool.true_and] at rc
      have bad : (decide (1 ≤ r.typ ∧ r.typ ≤ 6)) = false → s.p.check = thenE 120 (thenE (firstE RegP.check ((s.regs.drop (i.toNat + 1)).map RegN.p)) (thenE (errB (decide (s.slots.length ≤ 4)) 121) (thenE (firstE SlotP.check s.slots)
          (thenE (errB (decide (0 < s.states.length)) 120) (thenE (errB (decide (s.states.length ≤ 12)) 121) (firstE StateP.check (s.states.map StateN.p))))))) := fun h => by
        rw [gc, rc, h]; rfl
      refine ⟨fun h1 => ?_, fun h1 => ?_⟩
      · have h1 := of_decide_eq_true h1
        refine Errs.use (must_errs _ (by decide) I4 _) (fun q5 I5 hI5 => .inl ⟨rfl, _, .refl _, ?_⟩) (fun q5 I5 hI5 => .inr ⟨_, rfl, _, .refl _, ?_⟩)
        · have h5 := of_decide_eq_true (errB_zero (by decide) q5)
          rw [decide_eq_true ⟨h1, h5⟩, Bool.true_and] at rc
          have hl5 := Imm.le_trans hl3 (Imm.le_trans hI4 hI5)
          refine Errs.use (begin_spec r.init (hsr r hrm) I5 _ (((ok hl5).reg r hrm : NdOk _ _ _).cons)) (fun q6 I6 hI6 => .inl ⟨rfl, _, .refl _, ?_⟩) (fun q6 I6 hI6 => .inr ⟨_, rfl, _, .refl _, ?_⟩)
          · rw [rc, q6, thenE_zero] at gc
            refine ⟨(s.regs.length - (i + 1)).toNat, by omega, ?_⟩
            rw [w64 (n := i + 1) (by omega)]
            exact ⟨by omega, by omega, rfl, Imm.le_trans hl5 hI6, rfl, by rw [gc, show (i + 1).toNat = i.toNat + 1 by omega]⟩
          · rw [rc] at gc; exact .fail gc q6
        · have h5 := (errB_ne q5).1
          have h6 := (errB_ne q5).2
          rw [h6] at q5 ⊢
          exact .fail (bad (decide_eq_false fun h => by rw [decide_eq_true h.2] at h5; cases h5)) q5
      · have h1 := of_decide_eq_false h1
        refine Errs.use (must_errs _ (by decide) I4 _) (fun q5 I5 hI5 => .inl ⟨rfl, _, .refl _, ?_⟩) (fun q5 I5 hI5 => .inr ⟨_, rfl, _, .refl _, ?_⟩)
        · cases q5
        · exact .fail (bad (decide_eq_false fun h => h1 h.1)) q5
    · have h4 := errB_ne q4
      rw [h4.2] at q4 ⊢
      rw [h4.1, Bool.false_and] at rc
      rw [rc] at gc
      exact .fail gc q4
  have hlt := of_decide_eq_false hlt
  rw [firstE_end _ _ (by omega), thenE_zero] at gc
  refine ⟨_, _, _, rd hl3 2 _ rfl, ?_⟩
  rw [e4]
  refine Errs.use (must_errs _ (by decide) I3 _) (fun q4 I4 hI4 => .inl ⟨rfl, _, .refl _, ?_⟩) (fun q4 I4 hI4 => .inr ⟨_, rfl, _, .refl _, ?_⟩)
  case refine_2 => exact .fail gc q4
  rw [q4, thenE_zero] at gc
  have hl4 := Imm.le_trans hl3 hI4
  refine ⟨_, _, _, rd hl4 2 _ rfl, ⟨_, by omega, by omega, rfl, hl4, rfl, by rw [gc]; simp⟩, ?_⟩
  clear gc
  clear gm
  intro i m I5 F5 hI5 ⟨g0, g1, gm, hl5, hF5, gc⟩
  subst hF5
  refine ⟨fun hlt => ?_, fun hlt => ?_⟩
  · have hlt := of_decide_eq_true hlt
    obtain ⟨ad, x, had, hx, hrd, hxm⟩ := SlG.atm (ok hl5).slots g0 hlt
    rw [firstE_map _ _ hx, thenE_assoc] at gc
    refine ⟨⟨g0, hlt⟩, ad, had, _, _, hrd, fun b_x => Errs.use (named_spec x.name I5 _) (fun q6 I6 hI6 => .inl ⟨rfl, _, .refl _, ?_⟩) (fun q6 I6 hI6 => .inr ⟨_, rfl, _, .refl _, ?_⟩)⟩
    · have e : SlotP.check (id x) = errB (nameB x.name) 120 := rfl
      rw [e, q6, thenE_zero] at gc
      refine ⟨(s.slots.length - (i + 1)).toNat, by omega, ?_⟩
      rw [w64 (n := i + 1) (by omega)]
      exact ⟨by omega, by omega, rfl, Imm.le_trans hl5 hI6, rfl, by rw [gc, show (i + 1).toNat = i.toNat + 1 by omega]⟩
    · exact .fail gc q6
  have hlt := of_decide_eq_false hlt
  rw [firstE_end _ _ (by omega), thenE_zero] at gc
  refine ⟨_, _, _, rd hl5 3 _ rfl, ?_⟩
  rw [e0]
  refine Errs.use (must_errs _ (by decide) I5 _) (fun q6 I6 hI6 => .inl ⟨rfl, _, .refl _, ?_⟩) (fun q6 I6 hI6 => .inr ⟨_, rfl, _, .refl _, ?_⟩)
  case refine_2 => exact .fail gc q6
  rw [q6, thenE_zero] at gc
  have hl6 := Imm.le_trans hl5 hI6
  refine ⟨_, _, _, rd hl6 3 _ rfl, ?_⟩
  rw [e12]
  refine Errs.use (must_errs _ (by decide) I6 _) (fun q7 I7 hI7 => .inl ⟨rfl, _, .refl _, ?_⟩) (fun q7 I7 hI7 => .inr ⟨_, rfl, _, .refl _, ?_⟩)
  case refine_2 => exact .fail gc q7
  rw [q7, thenE_zero] at gc
  have hl7 := Imm.le_trans hl6 hI7
  refine ⟨_, _, _, rd hl7 3 _ rfl, ⟨_, by omega, by omega, rfl, hl7, rfl, gc⟩, ?_⟩
  clear gc
  clear gm
  intro i m I8 F8 hI8 ⟨g0, g1, gm, hl8, hF8, gc⟩
  subst hF8
  refine ⟨fun hlt => ?_, fun hlt => ?_⟩
  · have hlt := of_decide_eq_true hlt
    obtain ⟨ad, x, had, hx, hrd, hxm⟩ := SlG.atm (ok hl8).states g0 hlt
    have hxl := hl.rules x hxm
    rw [firstE_map _ _ hx] at gc
    have ec : x.p.check = thenE (errB (nameB x.name) 120) (thenE (errB (decide (x.rules.length ≤ 12)) 121) (firstE RuleP.check (x.rules.map RuleN.p))) := by
      show thenE _ (thenE (errB (decide ((x.rules.map RuleN.p).length ≤ 12)) 121) _) = _
      rw [List.length_map]; rfl
    rw [ec, thenE_assoc, thenE_assoc] at gc
    refine ⟨⟨g0, hlt⟩, ad, had, _, _, _, _, _, hrd, fun b_x => Errs.use (named_spec x.name I8 _) (fun q9 I9 hI9 => .inl ⟨rfl, _, .refl _, ?_⟩) (fun q9 I9 hI9 => .inr ⟨_, rfl, _, .refl _, ?_⟩)⟩
    case refine_2 => exact .fail gc q9
    rw [q9, thenE_zero] at gc
    rw [e12]
    refine Errs.use (must_errs _ (by decide) I9 _) (fun q10 I10 hI10 => .inl ⟨rfl, _, .refl _, ?_⟩) (fun q10 I10 hI10 => .inr ⟨_, rfl, _, .refl _, ?_⟩)
    case refine_2 => exact .fail gc q10
    rw [q10, thenE_zero] at gc
    have hl10 := Imm.le_trans hl8 (Imm.le_trans hI9 hI10)
    refine ⟨⟨_, hl10, rfl, by omega, x, hx, by omega, rfl, gc⟩, ?_⟩
    clear gc
    intro j n I11 F11 hI11 ⟨hl11, hF11, j0, y, hy, j1, gn, gc⟩
    subst hF11
    rw [hx] at hy
    cases hy
    refine ⟨fun hlt2 => ?_, fun hlt2 => ?_⟩
    · have hlt2 := of_decide_eq_true hlt2
      have hok11 := ((ok hl11).state x hxm).cons (x := (b_x, Obj.cells #[.string x.name, .slice x.a x.rules.length x.c, .int .i64 x.pos] 93 (0, 0)))
      obtain ⟨ad3, r, had3, hr, hrd3, hrm⟩ := SlG.atm hok11.1 j0 hlt2
      rw [firstE_map _ _ hr, thenE_assoc] at gc
      refine ⟨⟨j0, hlt2⟩, ad3, had3, _, _, _, _, _, _, _, _, _, _, _, _, _, _, hrd3, fun b_r => Errs.use (rule_spec r (hss x hxm r hrm) I11 _ ((((ok hl11).state x hxm).2 r hrm).cons.cons) (hl.dos x hxm r hrm)) (fun q12 I12 hI12 => .inl ⟨rfl, _, .refl _, ?_⟩) (fun q12 I12 hI12 => .inr ⟨_, rfl, _, .refl _, ?_⟩)⟩
      · rw [q12, thenE_zero] at gc
        refine ⟨(x.rules.length - (j + 1)).toNat, by omega, ?_⟩
        rw [w64 (n := j + 1) (by omega)]
        exact ⟨Imm.le_trans hl11 hI12, rfl, by omega, x, hx, by omega, rfl, by rw [gc, show (j + 1).toNat = j.toNat + 1 by omega]⟩
      · exact .fail gc q12
    · have hlt2 := of_decide_eq_false hlt2
      rw [firstE_end _ _ (by omega), thenE_zero] at gc
      refine ⟨(s.states.length - (i + 1)).toNat, by omega, ?_⟩
      rw [w64 (n := i + 1) (by omega)]
      exact ⟨by omega, by omega, rfl, hl11, rfl, by rw [gc, show (i + 1).toNat = i.toNat + 1 by omega]⟩
  · have hlt := of_decide_eq_false hlt
    rw [firstE_end _ _ (by omega)] at gc
    exact .done gc
end Go.Lx
namespace Go.Lx
open Go.Vc
theorem enters_ck1 : Enters P 79 := hP_of [79] (by kernel_rfl) _ (by decide)
theorem Check_spec (s : StgN) (hs : Small s.p.nds) (hl : s.Lens) (I : Imm) (F : Heap) (hok : s.Ok I F) : Tri P 36 #[s.v] I F (Ret (.int .i64 s.p.check) F) := by
  refine tree_Check.vc ?_
  unfold tree_Check.V
  intro b_s
  have hrd : ∀ {b : Nat} {I : Imm} {G : Heap}, (b, Obj.cells #[.string s.name, .slice s.ra s.regs.length s.rc, .slice s.sa s.slots.length s.sc, .slice s.ta s.states.length s.tc] 86 (0, 0)) ∈ G → Rd I G (⟨b, 0, none⟩ : Addr) s.enc := fun h => Rd.of_own h 0 fun j hj => by simp
  refine (caught_spec (n := s.p.check) fun b => TriV.fn enters_ck1 (by simp) (check1S_spec s hs hl I _ hok.cons.cons (hrd (List.mem_cons_of_mem _ (List.mem_cons_self ..))))).mono fun e I1 G hI1 ⟨he, hG⟩ => ?_
  subst hG
  exact ⟨_, he, _, _, _, _, _, _, _, _, _, _, F, .refl _, rfl, rfl⟩
theorem SlG.of_imm {α : Type} {I : Imm} {z : Nat} {f : α → List Value} (hz : ∀ x, (f x).length = z) {b e : Nat} {fz : Nat × Nat} {l : List α} {cells : Array Value} (h : I b = some (.cells cells e fz)) (hc : cells.toList = l.flatMap f) (G : Heap) : SlG I G z f (some ⟨b, 0, none⟩) l.length l :=
  (Sl.of_cells hz h hc).slg G
theorem SlG.nil {α : Type} {I : Imm} {G : Heap} {z : Nat} {f : α → List Value} {a : Option Addr} : SlG I G z f a 0 ([] : List α) := ⟨rfl, fun h => absurd rfl h⟩
theorem NdOk.leaf {I : Imm} {G : Heap} {k o ty n f : Int} {s : ByteArray} {a : Option Addr} {c : Nat} {q : Int} : NdOk I G (.mk k o ty n f s a c [] q) := .mk SlG.nil fun k hk => by cases hk
def litN (n : Int) : Nd := .mk 1 0 1 n 0 ⟨#[]⟩ none 0 [] 0
def sumN (b1 b2 : Nat) : Nd := .mk 6 6 0 0 0 ⟨#[]⟩ (some ⟨b2, 0, none⟩) 2 [litN 1, .mk 6 6 0 0 0 ⟨#[]⟩ (some ⟨b1, 0, none⟩) 2 [litN 2, litN 3] 5] 0
def sumP : Px := .mk 6 6 0 0 0 ⟨#[]⟩ [.mk 1 0 1 1 0 ⟨#[]⟩ [] 0, .mk 6 6 0 0 0 ⟨#[]⟩ [.mk 1 0 1 2 0 ⟨#[]⟩ [] 0, .mk 1 0 1 3 0 ⟨#[]⟩ [] 0] 5] 0
theorem sum_spec (I : Imm) (F : Heap) : Tri P 35 #[] I F fun e I' G => ∃ t : Nd, e = .returned t.v ∧ t.px = sumP ∧ (∀ G, NdOk I' G t) ∧ G = F := by
  refine law12_sum.vc ?_
  unfold law12_sum.V
  intro b b1 I1 hI1 hb1 b_in b2 I2 hI2 hb2
  refine ⟨sumN b1 b2, rfl, rfl, fun G => ?_, rfl⟩
  have h1 := hI2.at hb1
  refine .mk (SlG.of_imm (z := 8) (f := Nd.enc) (l := [litN 1, .mk 6 6 0 0 0 ⟨#[]⟩ (some ⟨b1, 0, none⟩) 2 [litN 2, litN 3] 5]) (fun _ => rfl) hb2 rfl G) fun k hk => ?_
  rcases List.mem_cons.1 hk with rfl | hk
  · exact NdOk.leaf
  · obtain rfl : k = .mk 6 6 0 0 0 ⟨#[]⟩ (some ⟨b1, 0, none⟩) 2 [litN 2, litN 3] 5 := by simpa using hk
    refine .mk (SlG.of_imm (z := 8) (f := Nd.enc) (l := [litN 2, litN 3]) (fun _ => rfl) h1 rfl G) fun k hk => ?_
    rcases List.mem_cons.1 hk with rfl | hk
    · exact NdOk.leaf
    · obtain rfl : k = litN 3 := by simpa using hk
      exact NdOk.leaf
def zeroP : Px := .mk 0 0 0 0 0 ⟨#[]⟩ [] 0
def haltN : DoN := ⟨6, 0, ⟨#[]⟩, zNd, zNd, zNd, zNd, 0⟩
def bidN : Nd := .mk 4 0 0 0 1 ⟨#[]⟩ none 0 [] 0
def bidP : Px := .mk 4 0 0 0 1 ⟨#[]⟩ [] 0
def leastP : StgP := ⟨⟨#[115]⟩, [], [], [⟨⟨#[97]⟩, [⟨bidP, [⟨6, 0, ⟨#[]⟩, zeroP, zeroP, zeroP, zeroP, 0⟩], 0⟩], 0⟩]⟩
theorem least_spec (I : Imm) (F : Heap) : Tri P 37 #[] I F fun e I' G => ∃ b1 b2 b3 : Nat, ∃ s : StgN, s = ⟨⟨#[115]⟩, none, 0, [], none, 0, [], some ⟨b3, 0, none⟩, 1, [⟨⟨#[97]⟩, some ⟨b2, 0, none⟩, 1, [⟨bidN, some ⟨b1, 0, none⟩, 1, [haltN], 0⟩], 0⟩]⟩ ∧ e = .returned s.v ∧ (∀ G, s.Ok I' G) ∧ G = F := by
  refine law12_least.vc ?_
  unfold law12_least.V
  intro b b_when b1 I1 hI1 hb1 b2 I2 hI2 hb2 b3 I3 hI3 hb3
  refine ⟨b1, b2, b3, _, rfl, rfl, fun G => ?_, rfl⟩
  have h1 := (Imm.le_trans hI2 hI3).at hb1
  have h2 := hI3.at hb2
  have hd : DoN.Ok I3 G haltN := ⟨NdOk.leaf, NdOk.leaf, NdOk.leaf, NdOk.leaf⟩
  have hr : RuleN.Ok I3 G ⟨bidN, some ⟨b1, 0, none⟩, 1, [haltN], 0⟩ := ⟨NdOk.leaf, SlG.of_imm (z := 36) (f := DoN.enc) (l := [haltN]) (fun _ => rfl) h1 rfl G, fun d hd' => by
    obtain rfl : d = haltN := by simpa using hd'
    exact hd⟩
  refine ⟨SlG.nil, fun r hr => (by cases hr), SlG.nil, SlG.of_imm (z := 3) (f := StateN.enc) (l := [⟨⟨#[97]⟩, some ⟨b2, 0, none⟩, 1, [⟨bidN, some ⟨b1, 0, none⟩, 1, [haltN], 0⟩], 0⟩]) (fun _ => rfl) hb3 rfl G, fun x hx => ?_⟩
  simp only [List.mem_singleton] at hx
  subst hx
  exact ⟨SlG.of_imm (z := 10) (f := RuleN.enc) (l := [⟨bidN, some ⟨b1, 0, none⟩, 1, [haltN], 0⟩]) (fun _ => rfl) h2 rfl G, fun r hr' => by
    simp only [List.mem_singleton] at hr'
    subst hr'; exact hr⟩
theorem farExpr_spec (t : Nd) (hs : t.px.ShortP) (I : Imm) (F : Heap) (ht : NdOk I F t) : Tri P 9 #[t.v] I F (Ret (.bool (decide (t.px.weigh 0 0 > 1048576))) F) := by
  refine law12_farExpr.vc ?_
  unfold law12_farExpr.V
  intro b_n
  exact Tri.ret (weigh_spec t hs 0 0 I _ ht.cons (by decide) (by decide) (by decide) (by decide)) fun I1 _ => ⟨_, rfl, F, .refl _, rfl, rfl⟩
theorem ex_level : sumP.levelE = 5 := by decide +kernel
theorem ex_depth : sumP.depthE = 1 := by decide +kernel
theorem ex_size : sumP.size = 5 := by decide +kernel
theorem ex_check : sumP.checkE = 0 := by decide +kernel
theorem ex_side : (Px.mk 1 0 6 0 0 ⟨#[]⟩ [] 0).checkE = 120 := by decide +kernel
theorem ex_none : (⟨⟨#[115]⟩, [], [], []⟩ : StgP).check = 120 := by decide +kernel
theorem ex_least : leastP.check = 0 := by decide +kernel
theorem ex_like : sumP.like sumP.bare = true := by decide +kernel
end Go.Lx
namespace Go.Lx
open Go.Vc
theorem Rd.pre {I : Imm} {G : Heap} {ad : Addr} {cs ds : List Value} (h : Rd I G ad (cs ++ ds)) : Rd I G ad cs := by
  obtain ⟨h1, cells, e, fz, h2, h3⟩ := h
  exact ⟨h1, cells, e, fz, h2, fun j hj => by rw [h3 j (by rw [List.length_append]; omega), List.getElem?_append_left hj]⟩
theorem ex_reads : masks bidP.nodes = 2 ∧ namesOf bidP.nodes = [] := by decide +kernel
theorem ex_fit : bidP.Wf := by
  intro y hy
  have : y = bidP := by
    have h : bidP.nodes = [bidP] := rfl
    rw [h] at hy; simpa using hy
  subst this
  simp only [Px.Fit, bidP, Px.kind, Px.oper, Px.typ, Px.n, Px.field, Px.pos]; omega
theorem awake_spec (I : Imm) (F : Heap) : Tri P 8 #[] I F (Ret (.bool true) F) := by
  refine Tri.keep (Q := fun e I' G => e = .returned (.bool true) ∧ ∃ H, G.Perm (H ++ F)) ?_ fun e I' G w hl hs ⟨he, H, hp⟩ => ⟨I', F, Imm.le_refl _, (hs.perm hp).drop, he, rfl⟩
  refine law12_awake.vc ?_
  unfold law12_awake.V
  refine (sum_spec I F).mono fun e I1 G hI1 ⟨t, he, hpx, hok, hG⟩ => ?_
  subst hG
  have hs : t.px.size ≤ 1048576 := by rw [hpx, ex_size]; decide
  refine ⟨_, _, _, _, _, _, _, _, _, _, he, G, .refl _, fun b_n => ?_⟩
  refine Tri.ret (Level_spec t hs I1 _ (hok _)) fun I2 hI2 => ⟨_, rfl, G, .refl _, ?_⟩
  have ok2 : ∀ {J : Imm} {H : Heap}, Imm.le I1 J → NdOk J H t := fun hJ => (hok _).mono hJ fun _ h => h
  refine Tri.ret (Depth_spec t hs I2 _ (ok2 hI2)) fun I3 hI3 => ⟨_, rfl, G, .refl _, ?_⟩
  have l3 := Imm.le_trans hI2 hI3
  refine Tri.ret (tSize_spec t hs I3 _ (ok2 l3)) fun I4 hI4 => ⟨_, rfl, G, .refl _, ?_⟩
  have l4 := Imm.le_trans l3 hI4
  refine Tri.ret (checkExpr_spec t hs I4 _ (ok2 l4)) fun I5 hI5 => ⟨_, rfl, G, .refl _, ?_⟩
  have l5 := Imm.le_trans l4 hI5
  refine Tri.ret (checkExpr_spec (.mk 1 0 6 0 0 ⟨#[]⟩ none 0 [] 0) (by decide +kernel) I5 _ NdOk.leaf) fun I6 hI6 => ⟨_, rfl, G, .refl _, ?_⟩
  have l6 := Imm.le_trans l5 hI6
  refine (least_spec I6 _).mono fun e I7 G7 hI7 ⟨b1, b2, b3, s, hse, he, hsok, hG⟩ => ?_
  subst hG
  have l7 := Imm.le_trans l6 hI7
  have hsp : s.p = leastP := by rw [hse]; rfl
  have hsm : Small s.p.nds := by rw [hsp]; show ∀ x ∈ leastP.nds, x.size ≤ 1048576; decide +kernel
  have hln : s.Lens := by
    rw [hse]
    refine ⟨Nat.le_of_ble_eq_true rfl, Nat.le_of_ble_eq_true rfl, Nat.le_of_ble_eq_true rfl, fun x hx => ?_, fun x hx r hr => ?_⟩
    · simp only [List.mem_singleton] at hx
      subst hx; exact Nat.le_of_ble_eq_true rfl
    · simp only [List.mem_singleton] at hx
      subst hx
      simp only [List.mem_singleton] at hr
      subst hr; exact Nat.le_of_ble_eq_true rfl
  refine ⟨_, _, _, _, _, _, _, _, _, _, he, G, .refl _, ?_⟩
  refine Tri.ret (Check_spec s hsm hln I7 _ (hsok _)) fun I8 hI8 => ⟨_, rfl, G, .refl _, ?_⟩
  have l8 := Imm.le_trans l7 hI8
  refine Tri.ret (Check_spec ⟨⟨#[115]⟩, none, 0, [], none, 0, [], none, 0, []⟩ (fun x hx => by cases hx) ⟨by decide, by decide, by decide, fun x hx => (by cases hx), fun x hx => (by cases hx)⟩ I8 _ ⟨SlG.nil, fun x hx => (by cases hx), SlG.nil, SlG.nil, fun x hx => (by cases hx)⟩) fun I9 hI9 => ⟨_, rfl, G, .refl _, ?_⟩
  have l9 := Imm.le_trans l8 hI9
  refine (least_spec I9 _).mono fun e I10 G10 hI10 ⟨c1, c2, c3, u, hue, he, huok, hG⟩ => ?_
  subst hG
  have l10 := Imm.le_trans l9 hI10
  refine ⟨_, _, _, _, _, _, _, _, _, _, he, G, .refl _, ?_⟩
  have huk := huok ((b_n, Obj.cells #[.int .u8 t.kind, .int .u8 t.oper, .int .u8 t.typ, .int .i64 t.n, .int .u8 t.field, .string t.name, .slice t.a t.kids.length t.c, .int .i64 t.pos] 28 (0, 0)) :: G)
  subst hue
  obtain ⟨ad, x, had, hx, hrd, hxm⟩ := SlG.atm huk.states (i := 0) (by decide) (show (0 : Int) < 1 by decide)
  simp only [List.mem_singleton] at hxm
  have hr := huk.state x (by simp [hxm])
  subst hxm
  obtain ⟨ad1, r, had1, hr1, hrd1, hrm⟩ := SlG.atm hr.1 (i := 0) (by decide) (show (0 : Int) < 1 by decide)
  simp only [List.mem_singleton] at hrm
  subst hrm
  refine ⟨⟨by decide, show (0 : Int) < 1 by decide⟩, ad, had, _, _, _, hrd.field2 (p := 0) (q := 1) rfl, ⟨by decide, show (0 : Int) < 1 by decide⟩, ad1, had1, _, _, _, _, _, _, _, _, _, _, Rd.pre (cs := bidN.enc) (ds := [.slice (some ⟨c1, 0, none⟩) 1 1, .int .i64 0]) hrd1, ?_⟩
  refine (tReads_spec bidN (by decide +kernel) ex_fit I10 _ NdOk.leaf).mono fun e I11 G11 hI11 ⟨na, nn, nc, A, he, hA, hG⟩ => ?_
  subst hG
  have l11 := Imm.le_trans l10 hI11
  have hbp : bidN.px = bidP := rfl
  rw [hbp, ex_reads.1] at he
  rw [hbp, ex_reads.2] at hA
  have hnn : nn = 0 := hA.1
  subst hnn
  refine ⟨_, _, _, _, he, A ++ G, (perm_of fun z => by simp only [cn_app, cn_cons, cn_nil]; omega), ?_⟩
  refine (bareExpr_spec t hs I11 _ (ok2 l11)).mono fun e I12 G12 hI12 ⟨t', H, he, hpx', hO, hG⟩ => ?_
  have l12 := Imm.le_trans l11 hI12
  rw [hpx] at hpx'
  refine ⟨_, _, _, _, _, _, _, _, _, _, he, H ++ (A ++ G), hG.trans (perm_of fun z => by simp only [cn_app, cn_cons, cn_nil]; omega), fun b_b => ?_⟩
  have ok' : ∀ {J : Imm}, NdOk J ((b_n, Obj.cells #[.int .u8 t.kind, .int .u8 t.oper, .int .u8 t.typ, .int .i64 t.n, .int .u8 t.field, .string t.name, .slice t.a t.kids.length t.c, .int .i64 t.pos] 28 (0, 0)) :: (b_b, Obj.cells #[.int .u8 t'.kind, .int .u8 t'.oper, .int .u8 t'.typ, .int .i64 t'.n, .int .u8 t'.field, .string t'.name, .slice t'.a t'.kids.length t'.c, .int .i64 t'.pos] 28 (0, 0)) :: (H ++ (A ++ G))) t' := hO.ok fun x hx => List.mem_cons_of_mem _ (List.mem_cons_of_mem _ (List.mem_append_left _ hx))
  refine Tri.ret (sameExpr_spec t hs t' I12 _ (ok2 l12) ok') fun I13 hI13 => ⟨_, rfl, H ++ (A ++ G), .refl _, ?_⟩
  rw [hpx', hpx, ex_level, ex_depth, ex_size, ex_check, ex_like]
  have hkl : t'.kids.map Nd.px = sumP.bare.kids := by rw [← Nd.px_kids, hpx']
  have hk2 : t'.kids.length = 2 := by have := congrArg List.length hkl; rw [List.length_map] at this; rw [this]; rfl
  have e4 : (Nd.mk 1 0 6 0 0 ⟨#[]⟩ none 0 [] 0).px.checkE = 120 := ex_side
  have e5 : s.p.check = 0 := by rw [hsp]; exact ex_least
  have e6 : (⟨⟨#[115]⟩, none, 0, [], none, 0, [], none, 0, []⟩ : StgN).p.check = 120 := ex_none
  rw [e4, e5, e6]
  refine ⟨fun _ => ⟨fun _ => ⟨fun _ => ⟨fun _ => ⟨fun _ => ⟨fun _ => ⟨fun _ => ⟨fun _ => ⟨fun _ => ⟨fun _ => ⟨fun _ => ?_, fun h => by (rw [hk2] at h; cases h)⟩, fun h => by (cases h)⟩, fun h => by (cases h)⟩, fun h => by (cases h)⟩, fun h => by (cases h)⟩, fun h => by (cases h)⟩, fun h => by (cases h)⟩, fun h => by (cases h)⟩, fun h => by (cases h)⟩, fun h => by (cases h)⟩, fun h => by (cases h)⟩
  have ok13 : NdOk I13 ((b_n, Obj.cells #[.int .u8 t.kind, .int .u8 t.oper, .int .u8 t.typ, .int .i64 t.n, .int .u8 t.field, .string t.name, .slice t.a t.kids.length t.c, .int .i64 t.pos] 28 (0, 0)) :: (b_b, Obj.cells #[.int .u8 t'.kind, .int .u8 t'.oper, .int .u8 t'.typ, .int .i64 t'.n, .int .u8 t'.field, .string t'.name, .slice t'.a t'.kids.length t'.c, .int .i64 t'.pos] 28 (0, 0)) :: (H ++ (A ++ G))) t' := ok'
  obtain ⟨ad2, y, had2, hy, hrd2, hyo, hym⟩ := ok13.kids.at (i := 1) (by decide) (by omega)
  refine ⟨⟨by decide, by omega⟩, ad2, had2, y.pos, hrd2.field (o := 7) rfl, ?_, H ++ A, by rw [List.append_assoc]⟩
  have hyp : y.px.pos = 0 := by
    have h1 : (t'.kids.map Nd.px)[1]? = some y.px := by rw [List.getElem?_map]; rw [show (1 : Int).toNat = 1 from rfl] at hy; rw [hy]; rfl
    rw [hkl] at h1
    have h2 : sumP.bare.kids[1]? = some (Px.mk 6 6 0 0 0 ⟨#[]⟩ [.mk 1 0 1 2 0 ⟨#[]⟩ [] 0, .mk 1 0 1 3 0 ⟨#[]⟩ [] 0] 0) := rfl
    rw [h2] at h1
    rw [← Option.some.inj h1]; rfl
  rw [Nd.px_pos] at hyp
  rw [hyp]; rfl
end Go.Lx
namespace Go.Lx
open Go.Vc
def noRow : Row := ⟨none, 0, 0⟩
theorem TreesOwn_nodes {r : Row} {rs : List Row} {ls : List (List (Ck 8))} {Al H : Heap} {b : Nat} {I : Imm} {F : Heap} (hA : Acc 1 Row.enc 26 r.a r.n r.c rs Al) (hH : RowsH 8 28 rs ls H) (hb : Bd ls) (hl : rs.length ≤ 1000000000) :
    Tri P 22 #[.pointer (some ⟨b, 0, none⟩)] I ((b, Obj.cells (treeCells (upd (fun _ => noRow) 1 r)) 50 (0, 0)) :: ((Al ++ H) ++ F)) fun e I' G => e = .returned (.bool true) ∧ G = F :=
  TreesOwn_spec (rw := upd (fun _ => noRow) 1 r) (Hs := fun k => if k = 1 then Al ++ H else []) (own_nil ownTokens_spec) (own_call ownNodes_spec hA hH hb hl) (own_nil ownRegs_spec) (own_nil ownSlots_spec) (own_nil ownDos_spec) (own_nil ownRules_spec) (own_nil ownStates_spec)
    (own_nil ownInstrs_spec) (own_nil ownRows_spec) (own_nil ownGuards_spec) ownWhole_nil ownLongs_nil
theorem Px.ShortP.bare : ∀ {x : Px}, x.ShortP → x.bare.ShortP := by
  refine @(Px.ind fun x ih h => ?_)
  rw [Px.bare_eq]
  refine .mk h.name (by show (x.kids.map Px.bare).length ≤ _; rw [List.length_map]; exact h.len) fun k hk => ?_
  have hk : k ∈ x.kids.map Px.bare := hk
  obtain ⟨y, hy, rfl⟩ := List.mem_map.1 hk
  exact ih y hy (h.kid y hy)
theorem Px.bare_size : ∀ x : Px, x.bare.size = x.size := by
  have hL : ∀ l : List Px, (∀ x ∈ l, x.bare.size = x.size) → Px.sizeL (l.map Px.bare) = Px.sizeL l := by
    intro l
    induction l with
    | nil => intro _; rfl
    | cons x r ih => intro h; rw [List.map_cons, Px.sizeL, Px.sizeL, h x (List.mem_cons_self ..), ih fun y hy => h y (List.mem_cons_of_mem _ hy)]
  refine Px.ind fun x ih => ?_
  rw [Px.bare_eq, Px.size_eq, Px.size_eq]
  show 1 + Px.sizeL (x.kids.map Px.bare) = _
  rw [hL x.kids ih]
theorem far_size {x : Px} (h : decide (x.weigh 0 0 > 1048576) = false) : x.size ≤ 1048576 := by
  have h := of_decide_eq_false h
  have := Px.weigh_size x 0 0 (by omega)
  omega
theorem Bd.app {z : Nat} {ls ms : List (List (Ck z))} (h : Bd ls) (h' : Bd ms) : Bd (ls ++ ms) := by
  intro j y hy
  rw [List.getElem?_append] at hy
  split at hy
  · exact h j y hy
  · exact h' _ y hy
end Go.Lx
namespace Go.Lx
open Go.Vc
def shT_lTreeExprs : List (Nat × List Sh) := [(0, []), (3, [.one (.int .i64)]), (4, [.one .bool]), (28, [.agg [(.int .u8), (.int .u8), (.int .u8), (.int .i64), (.int .u8), .str, .slc, (.int .i64)]]), (32, [.one (.int .i64)])]
set_option maxRecDepth 100000 in
def law12_TreeExprs.V (c_other c_n : Nat → Nat × Obj) (nV : Int → Int → Int → Int → Int → ByteArray → Option Addr → Nat → Nat → Int → Value) (nO : Int → Int → Int → Int → Int → ByteArray → Option Addr → Nat → Nat → Int → Obj) (vi : Int → Value) (vl : Option Addr → Nat → Nat → Value) (vt : Bool → Value) (n_0 n_1 n_2 n_3 n_4 : Int) (n_5 : ByteArray) (n_6_a : Option Addr) (n_6_n n_6_c : Nat) (n_7 other_0 other_1 other_2 other_3 other_4 : Int) (other_5 : ByteArray) (other_6_a : Option Addr) (other_6_n other_6_c : Nat) (other_7 : Int) (I : Imm) (F : Heap) (Q : PostQ)  : Prop := ∀ b_n : Nat, ∀ b_other : Nat, Tri P 8 (#[]) I ((c_n b_n) :: (c_other b_other) :: F) fun e1 I1 G1 => ∃ (r : Bool), e1 = .returned (vt r) ∧ ∃ F1 : Heap, List.Perm G1 ((c_n b_n) :: (c_other b_other) :: F1) ∧ Tri P 9 (#[nV n_0 n_1 n_2 n_3 n_4 n_5 n_6_a n_6_n n_6_c n_7]) I1 ((c_n b_n) :: (c_other b_other) :: F1) fun e2 I2 G2 => ∃ (r1 : Bool), e2 = .returned (vt r1) ∧ ∃ F2 : Heap, List.Perm G2 ((c_n b_n) :: (c_other b_other) :: F2) ∧ Tri P 9 (#[nV other_0 other_1 other_2 other_3 other_4 other_5 other_6_a other_6_n other_6_c other_7]) I2 ((c_n b_n) :: (c_other b_other) :: F2) fun e3 I3 G3 => ∃ (r2 : Bool), e3 = .returned (vt r2) ∧ ∃ F3 : Heap, List.Perm G3 ((c_n b_n) :: (c_other b_other) :: F3) ∧ (((!r) = true → Q (.returned (vt r)) I3 (F3)) ∧ ((!r) = false → ((r1 = true → Q (.returned (vt r)) I3 (F3)) ∧ (r1 = false → ((r2 = true → Q (.returned (vt r)) I3 (F3)) ∧ (r2 = false → Tri P 10 (#[nV n_0 n_1 n_2 n_3 n_4 n_5 n_6_a n_6_n n_6_c n_7]) I3 ((c_n b_n) :: (c_other b_other) :: F3) fun e4 I4 G4 => ∃ (r_0 r_1 r_2 r_3 r_4 : Int) (r_5 : ByteArray) (r_6_a : Option Addr) (r_6_n r_6_c : Nat) (r_7 : Int), e4 = .returned (nV r_0 r_1 r_2 r_3 r_4 r_5 r_6_a r_6_n r_6_c r_7) ∧ ∃ F4 : Heap, List.Perm G4 ((c_n b_n) :: (c_other b_other) :: F4) ∧ ∀ b_x : Nat, Tri P 10 (#[nV other_0 other_1 other_2 other_3 other_4 other_5 other_6_a other_6_n other_6_c other_7]) I4 ((c_n b_n) :: (c_other b_other) :: (b_x, nO r_0 r_1 r_2 r_3 r_4 r_5 r_6_a r_6_n r_6_c r_7) :: F4) fun e5 I5 G5 => ∃ (r_01 r_11 r_21 r_31 r_41 : Int) (r_51 : ByteArray) (r_6_a1 : Option Addr) (r_6_n1 r_6_c1 : Nat) (r_71 : Int), e5 = .returned (nV r_01 r_11 r_21 r_31 r_41 r_51 r_6_a1 r_6_n1 r_6_c1 r_71) ∧ ∃ F5 : Heap, List.Perm G5 ((c_n b_n) :: (c_other b_other) :: (b_x, nO r_0 r_1 r_2 r_3 r_4 r_5 r_6_a r_6_n r_6_c r_7) :: F5) ∧ ∀ b_y : Nat, Tri P 11 (#[nV r_0 r_1 r_2 r_3 r_4 r_5 r_6_a r_6_n r_6_c r_7]) I5 ((c_n b_n) :: (c_other b_other) :: (b_x, nO r_0 r_1 r_2 r_3 r_4 r_5 r_6_a r_6_n r_6_c r_7) :: (b_y, nO r_01 r_11 r_21 r_31 r_41 r_51 r_6_a1 r_6_n1 r_6_c1 r_71) :: F5) fun e6 I6 G6 => ∃ (r3 : Int), e6 = .returned (vi r3) ∧ ∃ F6 : Heap, List.Perm G6 ((c_n b_n) :: (c_other b_other) :: (b_x, nO r_0 r_1 r_2 r_3 r_4 r_5 r_6_a r_6_n r_6_c r_7) :: (b_y, nO r_01 r_11 r_21 r_31 r_41 r_51 r_6_a1 r_6_n1 r_6_c1 r_71) :: F6) ∧ Tri P 12 (#[nV r_0 r_1 r_2 r_3 r_4 r_5 r_6_a r_6_n r_6_c r_7]) I6 ((c_n b_n) :: (c_other b_other) :: (b_x, nO r_0 r_1 r_2 r_3 r_4 r_5 r_6_a r_6_n r_6_c r_7) :: (b_y, nO r_01 r_11 r_21 r_31 r_41 r_51 r_6_a1 r_6_n1 r_6_c1 r_71) :: F6) fun e7 I7 G7 => ∃ (r4 : Int), e7 = .returned (vi r4) ∧ ∃ F7 : Heap, List.Perm G7 ((c_n b_n) :: (c_other b_other) :: (b_x, nO r_0 r_1 r_2 r_3 r_4 r_5 r_6_a r_6_n r_6_c r_7) :: (b_y, nO r_01 r_11 r_21 r_31 r_41 r_51 r_6_a1 r_6_n1 r_6_c1 r_71) :: F7) ∧ Tri P 13 (#[nV r_0 r_1 r_2 r_3 r_4 r_5 r_6_a r_6_n r_6_c r_7]) I7 ((c_n b_n) :: (c_other b_other) :: (b_x, nO r_0 r_1 r_2 r_3 r_4 r_5 r_6_a r_6_n r_6_c r_7) :: (b_y, nO r_01 r_11 r_21 r_31 r_41 r_51 r_6_a1 r_6_n1 r_6_c1 r_71) :: F7) fun e8 I8 G8 => ∃ (r5 : Int), e8 = .returned (vi r5) ∧ ∃ F8 : Heap, List.Perm G8 ((c_n b_n) :: (c_other b_other) :: (b_x, nO r_0 r_1 r_2 r_3 r_4 r_5 r_6_a r_6_n r_6_c r_7) :: (b_y, nO r_01 r_11 r_21 r_31 r_41 r_51 r_6_a1 r_6_n1 r_6_c1 r_71) :: F8) ∧ Tri P 14 (#[nV r_0 r_1 r_2 r_3 r_4 r_5 r_6_a r_6_n r_6_c r_7]) I8 ((c_n b_n) :: (c_other b_other) :: (b_x, nO r_0 r_1 r_2 r_3 r_4 r_5 r_6_a r_6_n r_6_c r_7) :: (b_y, nO r_01 r_11 r_21 r_31 r_41 r_51 r_6_a1 r_6_n1 r_6_c1 r_71) :: F8) fun e9 I9 G9 => ∃ (r6 : Int), e9 = .returned (vi r6) ∧ ∃ F9 : Heap, List.Perm G9 ((c_n b_n) :: (c_other b_other) :: (b_x, nO r_0 r_1 r_2 r_3 r_4 r_5 r_6_a r_6_n r_6_c r_7) :: (b_y, nO r_01 r_11 r_21 r_31 r_41 r_51 r_6_a1 r_6_n1 r_6_c1 r_71) :: F9) ∧ Tri P 15 (#[nV r_0 r_1 r_2 r_3 r_4 r_5 r_6_a r_6_n r_6_c r_7, nV r_01 r_11 r_21 r_31 r_41 r_51 r_6_a1 r_6_n1 r_6_c1 r_71]) I9 ((c_n b_n) :: (c_other b_other) :: (b_x, nO r_0 r_1 r_2 r_3 r_4 r_5 r_6_a r_6_n r_6_c r_7) :: (b_y, nO r_01 r_11 r_21 r_31 r_41 r_51 r_6_a1 r_6_n1 r_6_c1 r_71) :: F9) fun e10 I10 G10 => ∃ (r7 : Bool), e10 = .returned (vt r7) ∧ ∃ F10 : Heap, List.Perm G10 ((c_n b_n) :: (c_other b_other) :: (b_x, nO r_0 r_1 r_2 r_3 r_4 r_5 r_6_a r_6_n r_6_c r_7) :: (b_y, nO r_01 r_11 r_21 r_31 r_41 r_51 r_6_a1 r_6_n1 r_6_c1 r_71) :: F10) ∧ Tri P 16 (#[nV r_0 r_1 r_2 r_3 r_4 r_5 r_6_a r_6_n r_6_c r_7]) I10 ((c_n b_n) :: (c_other b_other) :: (b_x, nO r_0 r_1 r_2 r_3 r_4 r_5 r_6_a r_6_n r_6_c r_7) :: (b_y, nO r_01 r_11 r_21 r_31 r_41 r_51 r_6_a1 r_6_n1 r_6_c1 r_71) :: F10) fun e11 I11 G11 => ∃ (r_02 r_12 r_22 r_32 r_42 : Int) (r_52 : ByteArray) (r_6_a2 : Option Addr) (r_6_n2 r_6_c2 : Nat) (r_72 : Int), e11 = .returned (nV r_02 r_12 r_22 r_32 r_42 r_52 r_6_a2 r_6_n2 r_6_c2 r_72) ∧ ∃ F11 : Heap, List.Perm G11 ((c_n b_n) :: (c_other b_other) :: (b_x, nO r_0 r_1 r_2 r_3 r_4 r_5 r_6_a r_6_n r_6_c r_7) :: (b_y, nO r_01 r_11 r_21 r_31 r_41 r_51 r_6_a1 r_6_n1 r_6_c1 r_71) :: F11) ∧ ∀ b_bare : Nat, Tri P 17 (#[nV r_0 r_1 r_2 r_3 r_4 r_5 r_6_a r_6_n r_6_c r_7, nV n_0 n_1 n_2 n_3 n_4 n_5 n_6_a n_6_n n_6_c n_7]) I11 ((c_n b_n) :: (c_other b_other) :: (b_x, nO r_0 r_1 r_2 r_3 r_4 r_5 r_6_a r_6_n r_6_c r_7) :: (b_y, nO r_01 r_11 r_21 r_31 r_41 r_51 r_6_a1 r_6_n1 r_6_c1 r_71) :: (b_bare, nO r_02 r_12 r_22 r_32 r_42 r_52 r_6_a2 r_6_n2 r_6_c2 r_72) :: F11) fun e12 I12 G12 => ∃ (r8 : Bool), e12 = .returned (vt r8) ∧ ∃ F12 : Heap, List.Perm G12 ((c_n b_n) :: (c_other b_other) :: (b_x, nO r_0 r_1 r_2 r_3 r_4 r_5 r_6_a r_6_n r_6_c r_7) :: (b_y, nO r_01 r_11 r_21 r_31 r_41 r_51 r_6_a1 r_6_n1 r_6_c1 r_71) :: (b_bare, nO r_02 r_12 r_22 r_32 r_42 r_52 r_6_a2 r_6_n2 r_6_c2 r_72) :: F12) ∧ Tri P 17 (#[nV r_01 r_11 r_21 r_31 r_41 r_51 r_6_a1 r_6_n1 r_6_c1 r_71, nV other_0 other_1 other_2 other_3 other_4 other_5 other_6_a other_6_n other_6_c other_7]) I12 ((c_n b_n) :: (c_other b_other) :: (b_x, nO r_0 r_1 r_2 r_3 r_4 r_5 r_6_a r_6_n r_6_c r_7) :: (b_y, nO r_01 r_11 r_21 r_31 r_41 r_51 r_6_a1 r_6_n1 r_6_c1 r_71) :: (b_bare, nO r_02 r_12 r_22 r_32 r_42 r_52 r_6_a2 r_6_n2 r_6_c2 r_72) :: F12) fun e13 I13 G13 => ∃ (r9 : Bool), e13 = .returned (vt r9) ∧ ∃ F13 : Heap, List.Perm G13 ((c_n b_n) :: (c_other b_other) :: (b_x, nO r_0 r_1 r_2 r_3 r_4 r_5 r_6_a r_6_n r_6_c r_7) :: (b_y, nO r_01 r_11 r_21 r_31 r_41 r_51 r_6_a1 r_6_n1 r_6_c1 r_71) :: (b_bare, nO r_02 r_12 r_22 r_32 r_42 r_52 r_6_a2 r_6_n2 r_6_c2 r_72) :: F13) ∧ Tri P 18 (#[nV n_0 n_1 n_2 n_3 n_4 n_5 n_6_a n_6_n n_6_c n_7]) I13 ((c_n b_n) :: (c_other b_other) :: (b_x, nO r_0 r_1 r_2 r_3 r_4 r_5 r_6_a r_6_n r_6_c r_7) :: (b_y, nO r_01 r_11 r_21 r_31 r_41 r_51 r_6_a1 r_6_n1 r_6_c1 r_71) :: (b_bare, nO r_02 r_12 r_22 r_32 r_42 r_52 r_6_a2 r_6_n2 r_6_c2 r_72) :: F13) fun e14 I14 G14 => ∃ (r_03 r_13 r_23 r_33 r_43 : Int) (r_53 : ByteArray) (r_6_a3 : Option Addr) (r_6_n3 r_6_c3 : Nat) (r_73 : Int), e14 = .returned (nV r_03 r_13 r_23 r_33 r_43 r_53 r_6_a3 r_6_n3 r_6_c3 r_73) ∧ ∃ F14 : Heap, List.Perm G14 ((c_n b_n) :: (c_other b_other) :: (b_x, nO r_0 r_1 r_2 r_3 r_4 r_5 r_6_a r_6_n r_6_c r_7) :: (b_y, nO r_01 r_11 r_21 r_31 r_41 r_51 r_6_a1 r_6_n1 r_6_c1 r_71) :: (b_bare, nO r_02 r_12 r_22 r_32 r_42 r_52 r_6_a2 r_6_n2 r_6_c2 r_72) :: F14) ∧ ∀ b_want : Nat, Tri P 19 (#[nV n_0 n_1 n_2 n_3 n_4 n_5 n_6_a n_6_n n_6_c n_7, nV other_0 other_1 other_2 other_3 other_4 other_5 other_6_a other_6_n other_6_c other_7]) I14 ((c_n b_n) :: (c_other b_other) :: (b_x, nO r_0 r_1 r_2 r_3 r_4 r_5 r_6_a r_6_n r_6_c r_7) :: (b_y, nO r_01 r_11 r_21 r_31 r_41 r_51 r_6_a1 r_6_n1 r_6_c1 r_71) :: (b_bare, nO r_02 r_12 r_22 r_32 r_42 r_52 r_6_a2 r_6_n2 r_6_c2 r_72) :: (b_want, nO r_03 r_13 r_23 r_33 r_43 r_53 r_6_a3 r_6_n3 r_6_c3 r_73) :: F14) fun e15 I15 G15 => ∃ (r10 : Bool), e15 = .returned (vt r10) ∧ ∃ F15 : Heap, List.Perm G15 ((c_n b_n) :: (c_other b_other) :: (b_x, nO r_0 r_1 r_2 r_3 r_4 r_5 r_6_a r_6_n r_6_c r_7) :: (b_y, nO r_01 r_11 r_21 r_31 r_41 r_51 r_6_a1 r_6_n1 r_6_c1 r_71) :: (b_bare, nO r_02 r_12 r_22 r_32 r_42 r_52 r_6_a2 r_6_n2 r_6_c2 r_72) :: (b_want, nO r_03 r_13 r_23 r_33 r_43 r_53 r_6_a3 r_6_n3 r_6_c3 r_73) :: F15) ∧ Tri P 20 (#[nV r_02 r_12 r_22 r_32 r_42 r_52 r_6_a2 r_6_n2 r_6_c2 r_72, nV r_03 r_13 r_23 r_33 r_43 r_53 r_6_a3 r_6_n3 r_6_c3 r_73]) I15 ((c_n b_n) :: (c_other b_other) :: (b_x, nO r_0 r_1 r_2 r_3 r_4 r_5 r_6_a r_6_n r_6_c r_7) :: (b_y, nO r_01 r_11 r_21 r_31 r_41 r_51 r_6_a1 r_6_n1 r_6_c1 r_71) :: (b_bare, nO r_02 r_12 r_22 r_32 r_42 r_52 r_6_a2 r_6_n2 r_6_c2 r_72) :: (b_want, nO r_03 r_13 r_23 r_33 r_43 r_53 r_6_a3 r_6_n3 r_6_c3 r_73) :: F15) fun e16 I16 G16 => ∃ (r11 : Bool), e16 = .returned (vt r11) ∧ ∃ F16 : Heap, List.Perm G16 ((c_n b_n) :: (c_other b_other) :: (b_x, nO r_0 r_1 r_2 r_3 r_4 r_5 r_6_a r_6_n r_6_c r_7) :: (b_y, nO r_01 r_11 r_21 r_31 r_41 r_51 r_6_a1 r_6_n1 r_6_c1 r_71) :: (b_bare, nO r_02 r_12 r_22 r_32 r_42 r_52 r_6_a2 r_6_n2 r_6_c2 r_72) :: (b_want, nO r_03 r_13 r_23 r_33 r_43 r_53 r_6_a3 r_6_n3 r_6_c3 r_73) :: F16) ∧ ∀ b : Nat, Tri P 21 (#[Value.pointer (some (⟨b, 0, none⟩ : Addr)), nV r_02 r_12 r_22 r_32 r_42 r_52 r_6_a2 r_6_n2 r_6_c2 r_72]) I16 ((c_n b_n) :: (c_other b_other) :: (b_x, nO r_0 r_1 r_2 r_3 r_4 r_5 r_6_a r_6_n r_6_c r_7) :: (b_y, nO r_01 r_11 r_21 r_31 r_41 r_51 r_6_a1 r_6_n1 r_6_c1 r_71) :: (b_bare, nO r_02 r_12 r_22 r_32 r_42 r_52 r_6_a2 r_6_n2 r_6_c2 r_72) :: (b_want, nO r_03 r_13 r_23 r_33 r_43 r_53 r_6_a3 r_6_n3 r_6_c3 r_73) :: ((b, Obj.cells #[vl none 0 0, vl none 0 0, vl none 0 0, vl none 0 0, vl none 0 0, vl none 0 0, vl none 0 0, vl none 0 0, vl none 0 0, vl none 0 0, vl none 0 0, vl none 0 0] 50 (0, 0)) :: F16)) fun e17 I17 G17 => e17 = .returned (Value.tuple #[]) ∧ ∃ F17 : Heap, List.Perm G17 ((c_n b_n) :: (c_other b_other) :: (b_x, nO r_0 r_1 r_2 r_3 r_4 r_5 r_6_a r_6_n r_6_c r_7) :: (b_y, nO r_01 r_11 r_21 r_31 r_41 r_51 r_6_a1 r_6_n1 r_6_c1 r_71) :: (b_bare, nO r_02 r_12 r_22 r_32 r_42 r_52 r_6_a2 r_6_n2 r_6_c2 r_72) :: (b_want, nO r_03 r_13 r_23 r_33 r_43 r_53 r_6_a3 r_6_n3 r_6_c3 r_73) :: F17) ∧ Tri P 21 (#[Value.pointer (some (⟨b, 0, none⟩ : Addr)), nV r_0 r_1 r_2 r_3 r_4 r_5 r_6_a r_6_n r_6_c r_7]) I17 ((c_n b_n) :: (c_other b_other) :: (b_x, nO r_0 r_1 r_2 r_3 r_4 r_5 r_6_a r_6_n r_6_c r_7) :: (b_y, nO r_01 r_11 r_21 r_31 r_41 r_51 r_6_a1 r_6_n1 r_6_c1 r_71) :: (b_bare, nO r_02 r_12 r_22 r_32 r_42 r_52 r_6_a2 r_6_n2 r_6_c2 r_72) :: (b_want, nO r_03 r_13 r_23 r_33 r_43 r_53 r_6_a3 r_6_n3 r_6_c3 r_73) :: F17) fun e18 I18 G18 => e18 = .returned (Value.tuple #[]) ∧ ∃ F18 : Heap, List.Perm G18 ((c_n b_n) :: (c_other b_other) :: (b_x, nO r_0 r_1 r_2 r_3 r_4 r_5 r_6_a r_6_n r_6_c r_7) :: (b_y, nO r_01 r_11 r_21 r_31 r_41 r_51 r_6_a1 r_6_n1 r_6_c1 r_71) :: (b_bare, nO r_02 r_12 r_22 r_32 r_42 r_52 r_6_a2 r_6_n2 r_6_c2 r_72) :: (b_want, nO r_03 r_13 r_23 r_33 r_43 r_53 r_6_a3 r_6_n3 r_6_c3 r_73) :: F18) ∧ Tri P 22 (#[Value.pointer (some (⟨b, 0, none⟩ : Addr))]) I18 ((c_n b_n) :: (c_other b_other) :: (b_x, nO r_0 r_1 r_2 r_3 r_4 r_5 r_6_a r_6_n r_6_c r_7) :: (b_y, nO r_01 r_11 r_21 r_31 r_41 r_51 r_6_a1 r_6_n1 r_6_c1 r_71) :: (b_bare, nO r_02 r_12 r_22 r_32 r_42 r_52 r_6_a2 r_6_n2 r_6_c2 r_72) :: (b_want, nO r_03 r_13 r_23 r_33 r_43 r_53 r_6_a3 r_6_n3 r_6_c3 r_73) :: F18) fun e19 I19 G19 => ∃ (r12 : Bool), e19 = .returned (vt r12) ∧ ∃ F19 : Heap, List.Perm G19 ((c_n b_n) :: (c_other b_other) :: (b_x, nO r_0 r_1 r_2 r_3 r_4 r_5 r_6_a r_6_n r_6_c r_7) :: (b_y, nO r_01 r_11 r_21 r_31 r_41 r_51 r_6_a1 r_6_n1 r_6_c1 r_71) :: (b_bare, nO r_02 r_12 r_22 r_32 r_42 r_52 r_6_a2 r_6_n2 r_6_c2 r_72) :: (b_want, nO r_03 r_13 r_23 r_33 r_43 r_53 r_6_a3 r_6_n3 r_6_c3 r_73) :: F19) ∧ Tri P 23 (#[nV n_0 n_1 n_2 n_3 n_4 n_5 n_6_a n_6_n n_6_c n_7]) I19 ((c_n b_n) :: (c_other b_other) :: (b_x, nO r_0 r_1 r_2 r_3 r_4 r_5 r_6_a r_6_n r_6_c r_7) :: (b_y, nO r_01 r_11 r_21 r_31 r_41 r_51 r_6_a1 r_6_n1 r_6_c1 r_71) :: (b_bare, nO r_02 r_12 r_22 r_32 r_42 r_52 r_6_a2 r_6_n2 r_6_c2 r_72) :: (b_want, nO r_03 r_13 r_23 r_33 r_43 r_53 r_6_a3 r_6_n3 r_6_c3 r_73) :: F19) fun e20 I20 G20 => ∃ (r13 : Int), e20 = .returned (vi r13) ∧ ∃ F20 : Heap, List.Perm G20 ((c_n b_n) :: (c_other b_other) :: (b_x, nO r_0 r_1 r_2 r_3 r_4 r_5 r_6_a r_6_n r_6_c r_7) :: (b_y, nO r_01 r_11 r_21 r_31 r_41 r_51 r_6_a1 r_6_n1 r_6_c1 r_71) :: (b_bare, nO r_02 r_12 r_22 r_32 r_42 r_52 r_6_a2 r_6_n2 r_6_c2 r_72) :: (b_want, nO r_03 r_13 r_23 r_33 r_43 r_53 r_6_a3 r_6_n3 r_6_c3 r_73) :: F20) ∧ (((r3 != r13) = true → Q (.returned (vt false)) I20 (F20)) ∧ ((r3 != r13) = false → Tri P 24 (#[nV n_0 n_1 n_2 n_3 n_4 n_5 n_6_a n_6_n n_6_c n_7]) I20 ((c_n b_n) :: (c_other b_other) :: (b_x, nO r_0 r_1 r_2 r_3 r_4 r_5 r_6_a r_6_n r_6_c r_7) :: (b_y, nO r_01 r_11 r_21 r_31 r_41 r_51 r_6_a1 r_6_n1 r_6_c1 r_71) :: (b_bare, nO r_02 r_12 r_22 r_32 r_42 r_52 r_6_a2 r_6_n2 r_6_c2 r_72) :: (b_want, nO r_03 r_13 r_23 r_33 r_43 r_53 r_6_a3 r_6_n3 r_6_c3 r_73) :: F20) fun e21 I21 G21 => ∃ (r14 : Int), e21 = .returned (vi r14) ∧ ∃ F21 : Heap, List.Perm G21 ((c_n b_n) :: (c_other b_other) :: (b_x, nO r_0 r_1 r_2 r_3 r_4 r_5 r_6_a r_6_n r_6_c r_7) :: (b_y, nO r_01 r_11 r_21 r_31 r_41 r_51 r_6_a1 r_6_n1 r_6_c1 r_71) :: (b_bare, nO r_02 r_12 r_22 r_32 r_42 r_52 r_6_a2 r_6_n2 r_6_c2 r_72) :: (b_want, nO r_03 r_13 r_23 r_33 r_43 r_53 r_6_a3 r_6_n3 r_6_c3 r_73) :: F21) ∧ (((r4 != r14) = true → Q (.returned (vt false)) I21 (F21)) ∧ ((r4 != r14) = false → Tri P 25 (#[nV n_0 n_1 n_2 n_3 n_4 n_5 n_6_a n_6_n n_6_c n_7]) I21 ((c_n b_n) :: (c_other b_other) :: (b_x, nO r_0 r_1 r_2 r_3 r_4 r_5 r_6_a r_6_n r_6_c r_7) :: (b_y, nO r_01 r_11 r_21 r_31 r_41 r_51 r_6_a1 r_6_n1 r_6_c1 r_71) :: (b_bare, nO r_02 r_12 r_22 r_32 r_42 r_52 r_6_a2 r_6_n2 r_6_c2 r_72) :: (b_want, nO r_03 r_13 r_23 r_33 r_43 r_53 r_6_a3 r_6_n3 r_6_c3 r_73) :: F21) fun e22 I22 G22 => ∃ (r15 : Int), e22 = .returned (vi r15) ∧ ∃ F22 : Heap, List.Perm G22 ((c_n b_n) :: (c_other b_other) :: (b_x, nO r_0 r_1 r_2 r_3 r_4 r_5 r_6_a r_6_n r_6_c r_7) :: (b_y, nO r_01 r_11 r_21 r_31 r_41 r_51 r_6_a1 r_6_n1 r_6_c1 r_71) :: (b_bare, nO r_02 r_12 r_22 r_32 r_42 r_52 r_6_a2 r_6_n2 r_6_c2 r_72) :: (b_want, nO r_03 r_13 r_23 r_33 r_43 r_53 r_6_a3 r_6_n3 r_6_c3 r_73) :: F22) ∧ (((r5 != r15) = true → Q (.returned (vt false)) I22 (F22)) ∧ ((r5 != r15) = false → Tri P 26 (#[nV n_0 n_1 n_2 n_3 n_4 n_5 n_6_a n_6_n n_6_c n_7]) I22 ((c_n b_n) :: (c_other b_other) :: (b_x, nO r_0 r_1 r_2 r_3 r_4 r_5 r_6_a r_6_n r_6_c r_7) :: (b_y, nO r_01 r_11 r_21 r_31 r_41 r_51 r_6_a1 r_6_n1 r_6_c1 r_71) :: (b_bare, nO r_02 r_12 r_22 r_32 r_42 r_52 r_6_a2 r_6_n2 r_6_c2 r_72) :: (b_want, nO r_03 r_13 r_23 r_33 r_43 r_53 r_6_a3 r_6_n3 r_6_c3 r_73) :: F22) fun e23 I23 G23 => ∃ (r16 : Int), e23 = .returned (vi r16) ∧ ∃ F23 : Heap, List.Perm G23 ((c_n b_n) :: (c_other b_other) :: (b_x, nO r_0 r_1 r_2 r_3 r_4 r_5 r_6_a r_6_n r_6_c r_7) :: (b_y, nO r_01 r_11 r_21 r_31 r_41 r_51 r_6_a1 r_6_n1 r_6_c1 r_71) :: (b_bare, nO r_02 r_12 r_22 r_32 r_42 r_52 r_6_a2 r_6_n2 r_6_c2 r_72) :: (b_want, nO r_03 r_13 r_23 r_33 r_43 r_53 r_6_a3 r_6_n3 r_6_c3 r_73) :: F23) ∧ (((r6 != r16) = true → Q (.returned (vt false)) I23 (F23)) ∧ ((r6 != r16) = false → (((r7 == r10) = true → ((r8 = true → ((r9 = true → ((r11 = true → Q (.returned (vt r12)) I23 (F23)) ∧ (r11 = false → Q (.returned (vt false)) I23 (F23)))) ∧ (r9 = false → Q (.returned (vt false)) I23 (F23)))) ∧ (r8 = false → Q (.returned (vt false)) I23 (F23)))) ∧ ((r7 == r10) = false → Q (.returned (vt false)) I23 (F23)))))))))))))))))
set_option maxRecDepth 100000 in
theorem law12_TreeExprs.vc {n_0 n_1 n_2 n_3 n_4 : Int} {n_5 : ByteArray} {n_6_a : Option Addr} {n_6_n n_6_c : Nat} {n_7 other_0 other_1 other_2 other_3 other_4 : Int} {other_5 : ByteArray} {other_6_a : Option Addr} {other_6_n other_6_c : Nat} {other_7 : Int} {I : Imm} {F : Heap} {Q : PostQ}  (h : law12_TreeExprs.V (fun b => (b, Obj.cells #[Value.int .u8 other_0, Value.int .u8 other_1, Value.int .u8 other_2, Value.int .i64 other_3, Value.int .u8 other_4, Value.string other_5, Value.slice other_6_a other_6_n other_6_c, Value.int .i64 other_7] 28 (0, 0))) (fun b => (b, Obj.cells #[Value.int .u8 n_0, Value.int .u8 n_1, Value.int .u8 n_2, Value.int .i64 n_3, Value.int .u8 n_4, Value.string n_5, Value.slice n_6_a n_6_n n_6_c, Value.int .i64 n_7] 28 (0, 0))) (fun k o t n f s a l c q => .agg #[Value.int .u8 k, Value.int .u8 o, Value.int .u8 t, Value.int .i64 n, Value.int .u8 f, Value.string s, Value.slice a l c, Value.int .i64 q]) (fun k o t n f s a l c q => .cells #[Value.int .u8 k, Value.int .u8 o, Value.int .u8 t, Value.int .i64 n, Value.int .u8 f, Value.string s, Value.slice a l c, Value.int .i64 q] 28 (0, 0)) (.int .i64) .slice .bool n_0 n_1 n_2 n_3 n_4 n_5 n_6_a n_6_n n_6_c n_7 other_0 other_1 other_2 other_3 other_4 other_5 other_6_a other_6_n other_6_c other_7 I F Q) : Tri P 3 #[Value.agg #[Value.int .u8 n_0, Value.int .u8 n_1, Value.int .u8 n_2, Value.int .i64 n_3, Value.int .u8 n_4, Value.string n_5, Value.slice n_6_a n_6_n n_6_c, Value.int .i64 n_7], Value.agg #[Value.int .u8 other_0, Value.int .u8 other_1, Value.int .u8 other_2, Value.int .i64 other_3, Value.int .u8 other_4, Value.string other_5, Value.slice other_6_a other_6_n other_6_c, Value.int .i64 other_7]] I (F) Q :=
  tri_of_V (A := (annL [4001, 4003, 4006, 23003, 23008, 23014, 23020, 25002, 25004, 25007, 25010] [] [8, 9, 10, 11, 12, 13, 14, 15, 16, 17, 18, 19, 20, 21, 22, 23, 24, 25, 26] shT_lTreeExprs [] [] [19001] [] [] [] [])) (args := [.a (.v (Value.agg #[Value.int .u8 n_0, Value.int .u8 n_1, Value.int .u8 n_2, Value.int .i64 n_3, Value.int .u8 n_4, Value.string n_5, Value.slice n_6_a n_6_n n_6_c, Value.int .i64 n_7])), .a (.v (Value.agg #[Value.int .u8 other_0, Value.int .u8 other_1, Value.int .u8 other_2, Value.int .i64 other_3, Value.int .u8 other_4, Value.string other_5, Value.slice other_6_a other_6_n other_6_c, Value.int .i64 other_7]))]) (own := []) (keep := []) [8, 9, 10, 11, 12, 13, 14, 15, 16, 17, 18, 19, 20, 21, 22, 23, 24, 25, 26] Go.Proofs.Try.func3 h (by kernel_rfl) (by kernel_rfl) (by kernel_rfl) (by kernel_rfl) (by kernel_rfl) (by simp [AV.wf, At.wf]) (by simp [AV.wf, At.wf]) rfl
end Go.Lx
namespace Go.Lx
open Go.Vc
theorem TreeExprs_spec (t u : Nd) (hst : t.px.ShortP) (hsu : u.px.ShortP) (I : Imm) (F : Heap) (ht : NdOk I F t) (hu : NdOk I F u) : Tri P 3 #[t.v, u.v] I F fun e I' G => e = .returned (.bool true) := by
  refine law12_TreeExprs.vc ?_
  unfold law12_TreeExprs.V
  intro b_n b_other
  have okt : ∀ {J : Imm} {G : Heap}, Imm.le I J → (∀ a, a ∈ F → a ∈ G) → NdOk J G t := fun hl hs => ht.mono hl hs
  have oku : ∀ {J : Imm} {G : Heap}, Imm.le I J → (∀ a, a ∈ F → a ∈ G) → NdOk J G u := fun hl hs => hu.mono hl hs
  refine Tri.ret (awake_spec I _) fun I1 l1 => ⟨_, rfl, F, .refl _, ?_⟩
  refine Tri.ret (farExpr_spec t hst I1 _ (okt l1 fun a ha => by simp only [List.mem_cons, List.mem_append]; simp only [ha, true_or, or_true])) fun I2 h2 => ⟨_, rfl, F, .refl _, ?_⟩
  have l2 := Imm.le_trans l1 h2
  refine Tri.ret (farExpr_spec u hsu I2 _ (oku l2 fun a ha => by simp only [List.mem_cons, List.mem_append]; simp only [ha, true_or, or_true])) fun I3 h3 => ⟨_, rfl, F, .refl _, ?_⟩
  have l3 := Imm.le_trans l2 h3
  refine ⟨fun h => by (cases h), fun _ => ⟨fun _ => rfl, fun f1 => ⟨fun _ => rfl, fun f2 => ?_⟩⟩⟩
  have st := far_size f1
  have su := far_size f2
  clear f1 f2
  refine (lend_spec t st I3 _ (okt l3 fun a ha => by simp only [List.mem_cons, List.mem_append]; simp only [ha, true_or, or_true])).mono fun e I4 G h4 ⟨x, Hx, he, px, hOx, hG⟩ => ?_
  have l4 := Imm.le_trans l3 h4
  refine ⟨_, _, _, _, _, _, _, _, _, _, he, Hx ++ F, hG.trans (perm_of fun z => by simp only [cn_app, cn_cons, cn_nil]; omega), fun b_x => ?_⟩
  refine (lend_spec u su I4 _ (oku l4 fun a ha => by simp only [List.mem_cons, List.mem_append]; simp only [ha, true_or, or_true])).mono fun e I5 G h5 ⟨y, Hy, he, py, hOy, hG⟩ => ?_
  have l5 := Imm.le_trans l4 h5
  refine ⟨_, _, _, _, _, _, _, _, _, _, he, Hy ++ (Hx ++ F), hG.trans (perm_of fun z => by simp only [cn_app, cn_cons, cn_nil]; omega), fun b_y => ?_⟩
  have sx : x.px.size ≤ 1048576 := by rw [px]; exact st
  have hsx : x.px.ShortP := by rw [px]; exact hst
  have sy : y.px.size ≤ 1048576 := by rw [py]; exact su
  have hsy : y.px.ShortP := by rw [py]; exact hsu
  refine Tri.ret (checkExpr_spec x sx I5 _ (hOx.ok fun a ha => by simp only [List.mem_cons, List.mem_append]; simp only [ha, true_or, or_true])) fun I6 h6 => ⟨_, rfl, Hy ++ (Hx ++ F), .refl _, ?_⟩
  refine Tri.ret (Level_spec x sx I6 _ (hOx.ok fun a ha => by simp only [List.mem_cons, List.mem_append]; simp only [ha, true_or, or_true])) fun I7 h7 => ⟨_, rfl, Hy ++ (Hx ++ F), .refl _, ?_⟩
  refine Tri.ret (Depth_spec x sx I7 _ (hOx.ok fun a ha => by simp only [List.mem_cons, List.mem_append]; simp only [ha, true_or, or_true])) fun I8 h8 => ⟨_, rfl, Hy ++ (Hx ++ F), .refl _, ?_⟩
  refine Tri.ret (tSize_spec x sx I8 _ (hOx.ok fun a ha => by simp only [List.mem_cons, List.mem_append]; simp only [ha, true_or, or_true])) fun I9 h9 => ⟨_, rfl, Hy ++ (Hx ++ F), .refl _, ?_⟩
  refine Tri.ret (sameExpr_spec x sx y I9 _ (hOx.ok fun a ha => by simp only [List.mem_cons, List.mem_append]; simp only [ha, true_or, or_true]) (hOy.ok fun a ha => by simp only [List.mem_cons, List.mem_append]; simp only [ha, true_or, or_true])) fun I10 h10 => ⟨_, rfl, Hy ++ (Hx ++ F), .refl _, ?_⟩
  have l10 := Imm.le_trans l5 (Imm.le_trans h6 (Imm.le_trans h7 (Imm.le_trans h8 (Imm.le_trans h9 h10))))
  refine (bareExpr_spec x sx I10 _ (hOx.ok fun a ha => by simp only [List.mem_cons, List.mem_append]; simp only [ha, true_or, or_true])).mono fun e I11 G h11 ⟨w, Hw, he, pw, hOw, hG⟩ => ?_
  have l11 := Imm.le_trans l10 h11
  refine ⟨_, _, _, _, _, _, _, _, _, _, he, Hw ++ (Hy ++ (Hx ++ F)), hG.trans (perm_of fun z => by simp only [cn_app, cn_cons, cn_nil]; omega), fun b_bare => ?_⟩
  refine Tri.ret (whole_spec (u := t) sx hsx px hOx fun a ha => by simp only [List.mem_cons, List.mem_append]; simp only [ha, true_or, or_true] (okt l11 fun a ha => by simp only [List.mem_cons, List.mem_append]; simp only [ha, true_or, or_true])) fun I12 h12 => ⟨_, rfl, Hw ++ (Hy ++ (Hx ++ F)), .refl _, ?_⟩
  have l12 := Imm.le_trans l11 h12
  refine Tri.ret (whole_spec (u := u) sy hsy py hOy fun a ha => by simp only [List.mem_cons, List.mem_append]; simp only [ha, true_or, or_true] (oku l12 fun a ha => by simp only [List.mem_cons, List.mem_append]; simp only [ha, true_or, or_true])) fun I13 h13 => ⟨_, rfl, Hw ++ (Hy ++ (Hx ++ F)), .refl _, ?_⟩
  have l13 := Imm.le_trans l12 h13
  refine (bare_spec t st I13 _ (okt l13 fun a ha => by simp only [List.mem_cons, List.mem_append]; simp only [ha, true_or, or_true])).mono fun e I14 G h14 ⟨z, Hz, he, pz, hOz, hG⟩ => ?_
  have l14 := Imm.le_trans l13 h14
  refine ⟨_, _, _, _, _, _, _, _, _, _, he, Hz ++ (Hw ++ (Hy ++ (Hx ++ F))), hG.trans (perm_of fun z => by simp only [cn_app, cn_cons, cn_nil]; omega), fun b_want => ?_⟩
  refine Tri.ret (like_spec t hst u I14 _ (okt l14 fun a ha => by simp only [List.mem_cons, List.mem_append]; simp only [ha, true_or, or_true]) (oku l14 fun a ha => by simp only [List.mem_cons, List.mem_append]; simp only [ha, true_or, or_true])) fun I15 h15 => ⟨_, rfl, Hz ++ (Hw ++ (Hy ++ (Hx ++ F))), .refl _, ?_⟩
  have l15 := Imm.le_trans l14 h15
  have hpw : w.px = z.px := by rw [pw, pz, px]
  refine Tri.ret (same_spec w (by rw [pw, px]; exact hst.bare) z I15 _ hpw (hOw.ok fun a ha => by simp only [List.mem_cons, List.mem_append]; simp only [ha, true_or, or_true]) (hOz.ok fun a ha => by simp only [List.mem_cons, List.mem_append]; simp only [ha, true_or, or_true])) fun I16 h16 => ⟨_, rfl, Hz ++ (Hw ++ (Hy ++ (Hx ++ F))), .refl _, fun b => ?_⟩
  have l16 := Imm.le_trans l15 h16
  have sw : w.px.size ≤ 1048576 := by rw [pw, px, Px.bare_size]; exact st
  have rwl := rows_len w
  have rxl := rows_len x
  refine Tri.perm ((TreesNode_spec w sw (rw := fun _ => noRow) (b := b) (rs := []) (Al := []) (R := (b_n, Obj.cells #[.int .u8 t.kind, .int .u8 t.oper, .int .u8 t.typ, .int .i64 t.n, .int .u8 t.field, .string t.name, .slice t.a t.kids.length t.c, .int .i64 t.pos] 28 (0, 0)) :: (b_other, Obj.cells #[.int .u8 u.kind, .int .u8 u.oper, .int .u8 u.typ, .int .i64 u.n, .int .u8 u.field, .string u.name, .slice u.a u.kids.length u.c, .int .i64 u.pos] 28 (0, 0)) :: (b_x, Obj.cells #[.int .u8 x.kind, .int .u8 x.oper, .int .u8 x.typ, .int .i64 x.n, .int .u8 x.field, .string x.name, .slice x.a x.kids.length x.c, .int .i64 x.pos] 28 (0, 0)) :: (b_y, Obj.cells #[.int .u8 y.kind, .int .u8 y.oper, .int .u8 y.typ, .int .i64 y.n, .int .u8 y.field, .string y.name, .slice y.a y.kids.length y.c, .int .i64 y.pos] 28 (0, 0)) :: (b_bare, Obj.cells #[.int .u8 w.kind, .int .u8 w.oper, .int .u8 w.typ, .int .i64 w.n, .int .u8 w.field, .string w.name, .slice w.a w.kids.length w.c, .int .i64 w.pos] 28 (0, 0)) :: (b_want, Obj.cells #[.int .u8 z.kind, .int .u8 z.oper, .int .u8 z.typ, .int .i64 z.n, .int .u8 z.field, .string z.name, .slice z.a z.kids.length z.c, .int .i64 z.pos] 28 (0, 0)) :: (Hz ++ (Hw ++ (Hy ++ (Hx ++ F))))) Acc.nil (by simp only [List.length_nil]; omega) I16 (hOw.ok fun a ha => by simp only [List.mem_cons, List.mem_append]; simp only [ha, true_or, or_true])).mono fun e I17 G h17 ⟨he, r1, A1, hA1, hG⟩ => ?_) (List.perm_middle (l₁ := [(b_n, Obj.cells #[.int .u8 t.kind, .int .u8 t.oper, .int .u8 t.typ, .int .i64 t.n, .int .u8 t.field, .string t.name, .slice t.a t.kids.length t.c, .int .i64 t.pos] 28 (0, 0)), (b_other, Obj.cells #[.int .u8 u.kind, .int .u8 u.oper, .int .u8 u.typ, .int .i64 u.n, .int .u8 u.field, .string u.name, .slice u.a u.kids.length u.c, .int .i64 u.pos] 28 (0, 0)), (b_x, Obj.cells #[.int .u8 x.kind, .int .u8 x.oper, .int .u8 x.typ, .int .i64 x.n, .int .u8 x.field, .string x.name, .slice x.a x.kids.length x.c, .int .i64 x.pos] 28 (0, 0)), (b_y, Obj.cells #[.int .u8 y.kind, .int .u8 y.oper, .int .u8 y.typ, .int .i64 y.n, .int .u8 y.field, .string y.name, .slice y.a y.kids.length y.c, .int .i64 y.pos] 28 (0, 0)), (b_bare, Obj.cells #[.int .u8 w.kind, .int .u8 w.oper, .int .u8 w.typ, .int .i64 w.n, .int .u8 w.field, .string w.name, .slice w.a w.kids.length w.c, .int .i64 w.pos] 28 (0, 0)), (b_want, Obj.cells #[.int .u8 z.kind, .int .u8 z.oper, .int .u8 z.typ, .int .i64 z.n, .int .u8 z.field, .string z.name, .slice z.a z.kids.length z.c, .int .i64 z.pos] 28 (0, 0))]))
  refine ⟨he, (b, Obj.cells (treeCells (upd (fun _ => noRow) 1 r1)) 50 (0, 0)) :: (A1 ++ (Hz ++ (Hw ++ (Hy ++ (Hx ++ F))))), hG.trans (perm_of fun z => by simp only [cn_app, cn_cons, cn_nil]; omega), ?_⟩
  rw [List.nil_append] at hA1
  refine Tri.perm ((TreesNode_spec x sx (rw := upd (fun _ => noRow) 1 r1) (b := b) (rs := w.rows) (Al := A1) (R := (b_n, Obj.cells #[.int .u8 t.kind, .int .u8 t.oper, .int .u8 t.typ, .int .i64 t.n, .int .u8 t.field, .string t.name, .slice t.a t.kids.length t.c, .int .i64 t.pos] 28 (0, 0)) :: (b_other, Obj.cells #[.int .u8 u.kind, .int .u8 u.oper, .int .u8 u.typ, .int .i64 u.n, .int .u8 u.field, .string u.name, .slice u.a u.kids.length u.c, .int .i64 u.pos] 28 (0, 0)) :: (b_x, Obj.cells #[.int .u8 x.kind, .int .u8 x.oper, .int .u8 x.typ, .int .i64 x.n, .int .u8 x.field, .string x.name, .slice x.a x.kids.length x.c, .int .i64 x.pos] 28 (0, 0)) :: (b_y, Obj.cells #[.int .u8 y.kind, .int .u8 y.oper, .int .u8 y.typ, .int .i64 y.n, .int .u8 y.field, .string y.name, .slice y.a y.kids.length y.c, .int .i64 y.pos] 28 (0, 0)) :: (b_bare, Obj.cells #[.int .u8 w.kind, .int .u8 w.oper, .int .u8 w.typ, .int .i64 w.n, .int .u8 w.field, .string w.name, .slice w.a w.kids.length w.c, .int .i64 w.pos] 28 (0, 0)) :: (b_want, Obj.cells #[.int .u8 z.kind, .int .u8 z.oper, .int .u8 z.typ, .int .i64 z.n, .int .u8 z.field, .string z.name, .slice z.a z.kids.length z.c, .int .i64 z.pos] 28 (0, 0)) :: (Hz ++ (Hw ++ (Hy ++ (Hx ++ F))))) hA1 (by omega) I17 (hOx.ok fun a ha => by simp only [List.mem_cons, List.mem_append]; simp only [ha, true_or, or_true])).mono fun e I18 G h18 ⟨he, r2, A2, hA2, hG⟩ => ?_) (perm_of fun z => by simp only [cn_app, cn_cons, cn_nil]; omega)
  rw [upd_upd] at hG
  refine ⟨he, (b, Obj.cells (treeCells (upd (fun _ => noRow) 1 r2)) 50 (0, 0)) :: (A2 ++ (Hz ++ (Hw ++ (Hy ++ (Hx ++ F))))), hG.trans (perm_of fun z => by simp only [cn_app, cn_cons, cn_nil]; omega), ?_⟩
  obtain ⟨Hw', hRw, pHw⟩ := hOw.rows
  obtain ⟨Hx', hRx, pHx⟩ := hOx.rows
  refine Tri.perm ((TreesOwn_nodes (b := b) (F := (b_n, Obj.cells #[.int .u8 t.kind, .int .u8 t.oper, .int .u8 t.typ, .int .i64 t.n, .int .u8 t.field, .string t.name, .slice t.a t.kids.length t.c, .int .i64 t.pos] 28 (0, 0)) :: (b_other, Obj.cells #[.int .u8 u.kind, .int .u8 u.oper, .int .u8 u.typ, .int .i64 u.n, .int .u8 u.field, .string u.name, .slice u.a u.kids.length u.c, .int .i64 u.pos] 28 (0, 0)) :: (b_x, Obj.cells #[.int .u8 x.kind, .int .u8 x.oper, .int .u8 x.typ, .int .i64 x.n, .int .u8 x.field, .string x.name, .slice x.a x.kids.length x.c, .int .i64 x.pos] 28 (0, 0)) :: (b_y, Obj.cells #[.int .u8 y.kind, .int .u8 y.oper, .int .u8 y.typ, .int .i64 y.n, .int .u8 y.field, .string y.name, .slice y.a y.kids.length y.c, .int .i64 y.pos] 28 (0, 0)) :: (b_bare, Obj.cells #[.int .u8 w.kind, .int .u8 w.oper, .int .u8 w.typ, .int .i64 w.n, .int .u8 w.field, .string w.name, .slice w.a w.kids.length w.c, .int .i64 w.pos] 28 (0, 0)) :: (b_want, Obj.cells #[.int .u8 z.kind, .int .u8 z.oper, .int .u8 z.typ, .int .i64 z.n, .int .u8 z.field, .string z.name, .slice z.a z.kids.length z.c, .int .i64 z.pos] 28 (0, 0)) :: (Hz ++ (Hy ++ F))) hA2 (hRw.app hRx) (Bd.app (lists_bd w sw) (lists_bd x sx)) (by rw [List.length_append]; omega)).mono fun e I19 G h19 ⟨he, hG⟩ => ?_) (perm_of fun z => by have q0 := cn_perm pHw z; have q1 := cn_perm pHx z; simp only [cn_app, cn_cons, cn_nil] at q0 q1 ⊢; omega)
  subst hG
  have l19 := Imm.le_trans l16 (Imm.le_trans h17 (Imm.le_trans h18 h19))
  refine ⟨_, he, Hz ++ (Hy ++ F), .refl _, ?_⟩
  refine Tri.ret (rCheckExpr_spec t st I19 _ (okt l19 fun a ha => by simp only [List.mem_cons, List.mem_append]; simp only [ha, true_or, or_true])) fun I20 h20 => ⟨_, rfl, Hz ++ (Hy ++ F), .refl _, fun h => ?_, fun _ => ?_⟩
  · rw [px] at h; simp at h
  have l20 := Imm.le_trans l19 h20
  refine Tri.ret (rLevel_spec t st I20 _ (okt l20 fun a ha => by simp only [List.mem_cons, List.mem_append]; simp only [ha, true_or, or_true])) fun I21 h21 => ⟨_, rfl, Hz ++ (Hy ++ F), .refl _, fun h => ?_, fun _ => ?_⟩
  · rw [px] at h; simp [Px.levelE] at h
  have l21 := Imm.le_trans l20 h21
  refine Tri.ret (rDepth_spec t st I21 _ (okt l21 fun a ha => by simp only [List.mem_cons, List.mem_append]; simp only [ha, true_or, or_true])) fun I22 h22 => ⟨_, rfl, Hz ++ (Hy ++ F), .refl _, fun h => ?_, fun _ => ?_⟩
  · rw [px] at h; simp [Px.depthE] at h
  have l22 := Imm.le_trans l21 h22
  refine Tri.ret (rsize_spec t st I22 _ (okt l22 fun a ha => by simp only [List.mem_cons, List.mem_append]; simp only [ha, true_or, or_true])) fun I23 h23 => ⟨_, rfl, Hz ++ (Hy ++ F), .refl _, fun h => ?_, fun _ => ?_⟩
  · rw [px] at h; simp at h
  rw [px, py]
  exact ⟨fun _ => ⟨fun _ => ⟨fun _ => ⟨fun _ => rfl, fun h => by (cases h)⟩, fun h => by (cases h)⟩, fun h => by (cases h)⟩, fun h => by simp at h⟩
end Go.Lx
namespace Go.Vc
open Go.ChangeShapes Go.WideShapes Go.ChangeAt Go.RowKit
def Imm.all (w : World) : Imm := ⟨fun b => w.heap[b]?, w.os, w.output⟩
theorem Sat.all (w : World) : Sat (Imm.all w) [] w := ⟨fun _ _ h => h, fun _ _ h => by simp at h, fun _ _ h => by simp at h, List.nodup_nil, rfl, rfl⟩
structure Stays (w w' : World) : Prop where
  heap : ∀ i, i < w.heap.size → w'.heap[i]? = w.heap[i]?
  os : w'.os = w.os
  out : w'.output = w.output
theorem Stays.of {w w' : World} {I : Imm} {F : Heap} (hl : Imm.le (Imm.all w) I) (hs : Sat I F w') : Stays w w' := by
  refine ⟨fun i hi => ?_, hs.env.1.trans hl.2.1, hs.env.2.trans hl.2.2⟩
  obtain ⟨o, ho⟩ : ∃ o, w.heap[i]? = some o := ⟨_, Array.getElem?_eq_getElem hi⟩
  rw [ho]
  exact hs.imm _ _ (hl.1 i o ho)
theorem Stays.kept {w w' : World} (h : Stays w w') (may : MemPlace → Prop) : w.keptBut w' may := by
  refine ⟨h.os, h.out, fun i hi => ?_⟩
  rw [h.heap i hi]
  cases w.heap[i]? with
  | none => rfl
  | some o => cases o with
    | cells c t fr => exact ⟨rfl, rfl, rfl, fun _ _ => rfl⟩
    | map es clock => exact .inr ⟨rfl, rfl⟩
    | _ => rfl
theorem Stays.frozen {w w' : World} (h : Stays w w') {a : Addr} (ha : a.block < w.heap.size) : w'.frozen? a = w.frozen? a := by
  unfold World.frozen?; rw [h.heap _ ha]
theorem post_stays {H : Type} {enc : TypeId × Value → H} {P : Program} {f : Func} {s : ChangeSpec} {apart fresh handsOn again : Bool} {W W' : World} {args : Array Value} {v : Value} {ds gs : List (DataW H)} {before pa pv : List MemPlace}
    (hW : DataW.Whole enc P f.params.toList s.vars apart W args.toList ds gs before)
    (hres : ∀ (b : Nat) (sp : Nat → Bool) (hd : Bool), DataW.TrodAll enc P W' b sp hd f.resultTypes.toList (v.resultList f.resultTypes.size) (s.fn H (ds ++ gs)).results [])
    (hargs : ∀ sp : Nat → Bool, (∀ p ∈ before, sp p.block = true) → DataW.TrodAll enc P W' 0 sp true f.params.toList args.toList (s.fn H (ds ++ gs)).args pa)
    (hvars : ∀ sp : Nat → Bool, (∀ p ∈ before, sp p.block = true) → DataW.TrodVars enc P W' sp s.vars (s.fn H (ds ++ gs)).vars pv)
    (hps : before = pa ++ pv) (hk : Stays W W')
    (hok : ∀ (j : Nat) (t : TypeId) (r : Value), f.resultTypes[j]? = some t → (v.resultList f.resultTypes.size)[j]? = some r → Value.okWide P W' .any 0 t r) :
    s.post enc P f apart fresh handsOn again W args v W' := by
  have hold : ∀ p ∈ before, (fun b => decide (b < W.heap.size)) p.block = true := fun p hp => by simpa using hW.lt p hp
  have hlt : ∀ p ∈ before, p.block < W.heap.size := fun p hp => hW.lt p hp
  refine ⟨ds, gs, before, [], pa, pv, hW, hres _ _ _, hargs _ hold, hvars _ hold, World.keptBut_mono (fun p hp => ⟨hp, ?_⟩) (hk.kept (· ∈ before)), fun _ => ?_⟩
  · rw [hps, List.mem_append] at hp
    exact Or.inr hp
  · obtain ⟨_, _, _, _, _, hz, hn⟩ := hW
    refine ⟨hok, _, _, ([] ++ pa) ++ pv, ⟨[] ++ pa, pv, trodAll_append (hargs _ (fun _ _ => rfl)) (hres _ _ _), hvars _ (fun _ _ => rfl), rfl, ?_, ?_⟩, ?_⟩
    · intro b off hp
      have hp' : MemPlace.cell b off ∈ before := by rw [hps]; simpa using hp
      rw [hk.frozen (hlt _ hp')]
      exact hz b off hp'
    · intro ha
      have := hn ha
      rw [hps] at this
      simpa using this
    · intro p hp _
      rw [hps]
      simpa using hp
end Go.Vc
namespace Go.Vc
open Go.ChangeShapes Go.WideShapes Go.ChangeAt Go.RowKit
theorem Stays.cell {w w' : World} (h : Stays w w') {a : Addr} (ha : a.block < w.heap.size) : w'.cell? a = w.cell? a := by
  unfold World.cell?; rw [h.heap _ ha]
theorem Stays.same {w w' : World} (h : Stays w w') {p : MemPlace} (hp : p.block < w.heap.size) : w.sameAt w' p := by
  cases p with
  | cell b off => exact h.cell (a := ⟨b, off, none⟩) hp
  | map b => exact h.heap b hp
theorem trodAll_stays {H : Type} {enc : TypeId × Value → H} {P : Program} {T : TypeId → Prop} {w w' : World} (K : Kids P T) (hsz : ∀ {t e : TypeId}, T t → P.underlying t = some (.slice e) → 0 < P.cellsOf e) (st : Stays w w') {sp' : Nat → Bool} :
    ∀ {ts : List TypeId} {vs : List Value} {ds : List (DataW H)} {ps : List MemPlace}, (∀ t ∈ ts, T t) → DataW.TrodAll enc P w 0 (fun _ => true) true ts vs ds ps → (∀ p ∈ ps, sp' p.block = true) → DataW.TrodAll enc P w' 0 sp' true ts vs ds ps
  | [], [], [], ps, _, h, _ => h
  | t :: ts, v :: vs, d :: ds, ps, ht, ⟨p, q, ⟨n, h1⟩, h2, e⟩, hs => by
    subst e
    have hlt : ∀ x ∈ p, x.block < w.heap.size := DataW.trod_lt n t v.cells.toList (d, p) h1
    refine ⟨p, q, ⟨n, ?_⟩, trodAll_stays K hsz st (fun t' ht' => ht t' (List.mem_cons_of_mem _ ht')) h2 (fun x hx => hs x (List.mem_append_right _ hx)), rfl⟩
    exact DataW.trod_stays K hsz (fun h => by cases h) (ht t (List.mem_cons_self ..)) h1 (fun x hx => st.same (hlt x hx)) (fun x hx => hs x (List.mem_append_left _ hx))
  | [], _ :: _, _, _, _, h, _ => h.elim
  | [], [], _ :: _, _, _, h, _ => h.elim
  | _ :: _, [], _, _, _, h, _ => h.elim
  | _ :: _, _ :: _, [], _, _, h, _ => h.elim
end Go.Vc
namespace Go.Vc
open Go.ChangeShapes Go.WideShapes Go.ChangeAt Go.RowKit
theorem list_choice {α : Type} {p : Nat → α → Prop} : ∀ (n : Nat), (∀ i, i < n → ∃ x, p i x) → ∃ l : List α, l.length = n ∧ ∀ (i : Nat) (x : α), l[i]? = some x → p i x
  | 0, _ => ⟨[], rfl, fun i x h => by simp at h⟩
  | n + 1, h => by
    obtain ⟨l, hl, hp⟩ := list_choice n fun i hi => h i (by omega)
    obtain ⟨x, hx⟩ := h n (by omega)
    refine ⟨l ++ [x], by simp [hl], fun i y hy => ?_⟩
    rw [List.getElem?_append] at hy
    split at hy
    · exact hp i y hy
    · rename_i hi
      have : i - l.length = 0 := by
        rcases Nat.eq_zero_or_pos (i - l.length) with h | h
        · exact h
        · rw [List.getElem?_eq_none (by simp; omega)] at hy; cases hy
      rw [this] at hy
      simp only [List.getElem?_cons_zero, Option.some.injEq] at hy
      subst hy
      have : i = n := by omega
      rw [this]; exact hx
theorem Rd.of_row {W : World} {ad : Addr} {n : Nat} {cs : List Value} {base : Nat} (h : W.cells? base ad n = some cs) (hn : 0 < n) (G : Heap) : ad.spot = none → Rd (Imm.all W) G ad cs := by
  intro hsp
  obtain ⟨_, hl, hc⟩ := World.cells?_some h
  have h0 : W.cell? ad = cs[0]? := by have := hc 0 hn; rwa [show ad.add 0 = ad from rfl] at this
  have hlen : cs.length = n := hl
  unfold World.cell? at h0
  cases hb : W.heap[ad.block]? with
  | none => rw [hb] at h0; simp only at h0; rw [List.getElem?_eq_getElem (by omega)] at h0; cases h0
  | some o =>
    cases o with
    | cells c e fz =>
      refine ⟨hsp, c, e, fz, .inl hb, fun j hj => ?_⟩
      have h1 := hc j (by omega)
      have hadd : ad.add j = ⟨ad.block, ad.off + j, none⟩ := by
        obtain ⟨b, off, sp⟩ := ad
        simp only at hsp; subst hsp
        unfold Addr.add; split <;> simp_all
      rw [hadd] at h1
      unfold World.cell? at h1
      simp only [hb] at h1
      simpa using h1
    | _ => rw [hb] at h0; simp only at h0; rw [List.getElem?_eq_getElem (by omega)] at h0; cases h0
end Go.Vc
namespace Go.Vc
open Go.ChangeShapes Go.WideShapes Go.ChangeAt Go.RowKit
def Opens {H α : Type} (en : TypeId × Value → H) (P : Program) (W : World) (sp : Nat → Bool) (hd : Bool) (n : Nat) (t : TypeId) (f : α → List Value) (R S : α → Prop) : Prop :=
  ∀ cs d ps, DataW.trod en P W 0 sp hd n t cs = some (d, ps) → ∃ x, cs = f x ∧ R x ∧ ((∀ m ∈ d.weights P t, m ≤ reachBytes) → S x)
def OpensF {H α : Type} (en : TypeId × Value → H) (P : Program) (W : World) (sp : Nat → Bool) (hd : Bool) (n : Nat) (z : Nat) (fs : List (TypeId × Nat)) (o : Nat) (f : α → List Value) (R S : α → Prop) : Prop :=
  ∀ (cs : List Value) (xs : List (DataW H × List MemPlace)), (fs.mapM fun p => DataW.trod en P W 0 sp hd n p.1 ((cs.drop p.2).take (P.cellsOf p.1))) = some xs → cs.length = z → ∃ x, cs.drop o = f x ∧ R x ∧ ((∀ m ∈ DataW.weightsEach P (fs.map Prod.fst) (xs.map Prod.fst), m ≤ reachBytes) → S x)
def structB (P : Program) (t : TypeId) (l : List (TypeId × Nat)) (z : Nat) : Bool := match P.underlying t with
  | some (.struct fs) => (fs.toList.map fun f => (f.type, f.offset)) == l && P.cellsOf t == z
  | _ => false
theorem mapM_via {α β γ : Type} (h : α → β) (g : β → Option γ) : ∀ l : List α, (l.map h).mapM g = l.mapM fun x => g (h x)
  | [] => rfl
  | x :: l => by simp [List.mapM_cons, mapM_via h g l]
section
variable {H : Type} {en : TypeId × Value → H} {P : Program} {W : World} {sp : Nat → Bool} {hd : Bool} {n : Nat}
theorem OpensF.nil {z : Nat} : OpensF en P W sp hd n z [] z (fun _ : Unit => []) (fun _ => True) (fun _ => True) := by
  intro cs xs h hl
  exact ⟨(), List.drop_eq_nil_of_le (by omega), trivial, fun _ => trivial⟩
theorem OpensF.cons {α β : Type} {z o k : Nat} {t : TypeId} {fs : List (TypeId × Nat)} {f : α → List Value} {g : β → List Value} {R S : α → Prop} {R' S' : β → Prop} (h : Opens en P W sp hd n t f R S) (hc : P.cellsOf t = k)
    (hs : OpensF en P W sp hd n z fs (o + k) g R' S') : OpensF en P W sp hd n z ((t, o) :: fs) o (fun x : α × β => f x.1 ++ g x.2) (fun x => R x.1 ∧ R' x.2) (fun x => S x.1 ∧ S' x.2) := by
  intro cs xs hm hl
  rw [List.mapM_cons] at hm
  cases h0 : DataW.trod en P W 0 sp hd n t ((cs.drop o).take (P.cellsOf t)) with
  | none => simp [h0] at hm
  | some x0 =>
    cases h1 : (fs.mapM fun p => DataW.trod en P W 0 sp hd n p.1 ((cs.drop p.2).take (P.cellsOf p.1))) with
    | none => simp [h0, h1] at hm
    | some ys =>
      simp [h0, h1] at hm
      subst hm
      obtain ⟨d0, p0⟩ := x0
      obtain ⟨x, e1, r1, s1⟩ := h _ _ _ h0
      obtain ⟨y, e2, r2, s2⟩ := hs _ _ h1 hl
      refine ⟨(x, y), ?_, ⟨r1, r2⟩, fun hw => ⟨s1 fun m hm => hw m ?_, s2 fun m hm => hw m ?_⟩⟩
      · show cs.drop o = f x ++ g y
        rw [← e1, ← e2, hc, ← List.drop_drop, List.take_append_drop]
      · simp only [List.map_cons, DataW.weightsEach, List.mem_append]; exact .inl hm
      · simp only [List.map_cons, DataW.weightsEach, List.mem_append]; exact .inr hm
theorem Opens.struct {α : Type} {z : Nat} {t : TypeId} {fs : List (TypeId × Nat)} {f : α → List Value} {R S : α → Prop} (ht : structB P t fs z = true) (h : OpensF en P W sp hd n z fs 0 f R S) : Opens en P W sp hd (n + 1) t f R S := by
  intro cs d ps hr
  unfold structB at ht
  split at ht
  · rename_i gs hg
    simp only [Bool.and_eq_true, beq_iff_eq] at ht
    obtain ⟨ht, hz⟩ := ht
    simp only [DataW.trod, hg] at hr
    split at hr
    · rename_i hl
      rw [hz] at hl
      cases hm : gs.toList.mapM fun f => DataW.trod en P W 0 sp hd n f.type ((cs.drop f.offset).take (P.cellsOf f.type)) with
      | none => rw [hm] at hr; cases hr
      | some xs =>
        rw [hm] at hr
        simp only [Option.map_some, Option.some.injEq, Prod.mk.injEq] at hr
        have hm' : (fs.mapM fun p => DataW.trod en P W 0 sp hd n p.1 ((cs.drop p.2).take (P.cellsOf p.1))) = some xs := by rw [← ht, mapM_via]; exact hm
        obtain ⟨x, e, r, s⟩ := h cs xs hm' hl
        refine ⟨x, by simpa using e, r, fun hw => s fun m hmm => hw m ?_⟩
        rw [← hr.1]
        simp only [DataW.weights, hg]
        have : gs.toList.map (fun f => f.type) = fs.map Prod.fst := by rw [← ht, List.map_map]; rfl
        rw [this]; exact hmm
    · cases hr
  · cases ht
theorem Opens.map {α β : Type} {t : TypeId} {f : α → List Value} {g : β → List Value} {R S : α → Prop} {R' S' : β → Prop} (h : Opens en P W sp hd n t f R S) (φ : α → β) (hf : ∀ x, R x → f x = g (φ x)) (hr : ∀ x, R x → R' (φ x)) (hs : ∀ x, R x → S x → S' (φ x)) : Opens en P W sp hd n t g R' S' := by
  intro cs d ps hd
  obtain ⟨x, e, r, s⟩ := h cs d ps hd
  exact ⟨φ x, e.trans (hf x r), hr x r, fun hw => hs x r (s hw)⟩
theorem Opens.int {k : IntKind} {t : TypeId} (ht : P.underlying t = some (.int k)) : Opens en P W sp hd n t (fun x : Int => [.int k x]) (fun x => (Lit.int k x).wf = true) (fun _ => True) := by
  intro cs d ps h
  obtain ⟨x, e, _, hw⟩ := DataW.trod_int ht h
  exact ⟨x, e, hw, fun _ => trivial⟩
theorem Opens.str {t : TypeId} (ht : P.underlying t = some .string) : Opens en P W sp hd n t (fun x : ByteArray => [.string x]) (fun x => x.size ≤ maxLen) (fun x => x.size ≤ reachBytes) := by
  intro cs d ps h
  obtain ⟨s, e, hx, hl⟩ := DataW.trod_string ht h
  refine ⟨s, e, hl, fun hw => ?_⟩
  simp only [Prod.mk.injEq] at hx
  have := hw s.data.toList.length (by rw [hx.1]; simp [DataW.weights])
  simpa using this
structure SlV (β : Type) where
  a : Option Addr
  n : Nat
  c : Nat
  l : List β
theorem Opens.slice {β : Type} {z by' : Nat} {t e : TypeId} {f : β → List Value} {R S : β → Prop} (ht : P.underlying t = some (.slice e)) (hc : P.cellsOf e = z) (hz : 0 < z) (hb : P.bytesOf e = by') (hb1 : 1 ≤ by') (hf : ∀ x, (f x).length = z) (h : Opens en P W sp hd n e f R S) :
    Opens en P W sp hd (n + 1) t (fun s : SlV β => [.slice s.a s.n s.c]) (fun s => SlG (Imm.all W) [] z f s.a s.n s.l ∧ ∀ x ∈ s.l, R x) (fun s => s.l.length ≤ reachBytes ∧ ∀ x ∈ s.l, S x) := by
  intro cs d ps hr
  rcases DataW.trod_slice ht hr with ⟨h1, h2⟩ | ⟨ad, len, cap, elems, rest, n', hn, hcs, hx, _, _, _, hlen, hel, _, _⟩
  · exact ⟨⟨none, 0, 0, []⟩, h1, ⟨⟨rfl, fun h => absurd rfl h⟩, fun x hx => by cases hx⟩, fun _ => ⟨by simp, fun x hx => by cases hx⟩⟩
  · cases hn
    simp only [Prod.mk.injEq] at hx
    obtain ⟨hdd, hps⟩ := hx
    clear hps
    subst hcs
    have hone : ∀ i, i < len → ∃ x, Rd (Imm.all W) [] (ad.add (i * z)) (f x) ∧ R x ∧ ((∀ y ∈ elems, ∀ m ∈ y.1.weights P e, m ≤ reachBytes) → S x) := by
      intro i hi
      have hfy := hel i hi
      obtain ⟨y, hy⟩ : ∃ y, elems[i]? = some y := ⟨_, List.getElem?_eq_getElem (by omega)⟩
      rw [hc, hy] at hfy
      cases hcs : W.cells? 0 (ad.add (i * z)) z with
      | none => rw [hcs] at hfy; cases hfy
      | some cs =>
        rw [hcs] at hfy
        simp only [Option.bind_some] at hfy
        obtain ⟨x, e1, r1, s1⟩ := h cs y.1 y.2 hfy
        subst e1
        have hspk : (ad.add (i * z)).spot = none := by
          obtain ⟨_, hl, hc'⟩ := World.cells?_some hcs
          have h0 := hc' 0 hz
          rw [show (ad.add (i * z)).add 0 = ad.add (i * z) from rfl, List.getElem?_eq_getElem (by rw [hf]; omega)] at h0
          cases hs : (ad.add (i * z)).spot with
          | none => rfl
          | some q =>
            unfold World.cell? at h0
            split at h0 <;> simp_all
        refine ⟨x, Rd.of_row hcs hz [] hspk, r1, fun hw => s1 fun m hm => hw y (List.mem_of_getElem? hy) m hm⟩
    obtain ⟨l, hll, hlx⟩ := list_choice len hone
    refine ⟨⟨some ad, len, cap, l⟩, rfl, ⟨⟨hll.symm, fun _ => ⟨ad, rfl, fun i x hx => (hlx i x hx).1⟩⟩, fun x hx => ?_⟩, fun hw => ⟨?_, fun x hx => ?_⟩⟩
    · obtain ⟨i, hi, rfl⟩ := List.mem_iff_getElem.1 hx
      exact (hlx i _ (List.getElem?_eq_getElem hi)).2.1
    · have h1 := hw ((elems.length + rest.length) * by') (by rw [hdd]; simp only [DataW.weights, ht, List.length_map, hb]; exact List.mem_cons_self ..)
      have h2 : elems.length + rest.length ≤ (elems.length + rest.length) * by' := Nat.le_mul_of_pos_right _ hb1
      show l.length ≤ reachBytes
      omega
    · obtain ⟨i, hi, rfl⟩ := List.mem_iff_getElem.1 hx
      refine (hlx i _ (List.getElem?_eq_getElem hi)).2.2 fun y hy m hm => hw m ?_
      rw [hdd]
      simp only [DataW.weights, ht]
      refine List.mem_cons_of_mem _ (List.mem_append_left _ ?_)
      clear hx hlen hel hone hlx hdd hr hw hi hll
      induction elems with
      | nil => cases hy
      | cons q qs ihq =>
        simp only [List.map_cons, DataW.weightsAll, List.mem_append]
        rcases List.mem_cons.1 hy with rfl | hy
        · exact .inl hm
        · exact .inr (ihq hy)
theorem Opens.zero {α : Type} {t : TypeId} {f : α → List Value} {R S : α → Prop} : Opens en P W sp hd 0 t f R S := fun cs d ps h => by cases h
end
end Go.Vc
namespace Go.Lx
open Go.Vc Go.ChangeShapes Go.WideShapes Go.ChangeAt Go.RowKit
def ndF : List (TypeId × Nat) := [(22, 0), (23, 1), (24, 2), (2, 3), (25, 4), (9, 5), (26, 6), (3, 7)]
theorem wf8 {x : Int} (h : (Lit.int .u8 x).wf = true) : 0 ≤ x ∧ x ≤ 255 := by
  simp [Lit.wf, IntKind.min, IntKind.max, IntKind.signed, IntKind.bits] at h; omega
theorem wf64 {x : Int} (h : (Lit.int .i64 x).wf = true) : -9223372036854775808 ≤ x ∧ x ≤ 9223372036854775807 := by
  simp [Lit.wf, IntKind.min, IntKind.max, IntKind.signed, IntKind.bits] at h; omega
theorem Wf.mk {t : Nd} (h : t.px.Fit) (hk : ∀ k ∈ t.kids, k.px.Wf) : t.px.Wf := by
  intro y hy
  rw [← nodes_px] at hy
  obtain ⟨x, hx, rfl⟩ := List.mem_map.1 hy
  rw [Nd.nodes_eq] at hx
  rcases List.mem_cons.1 hx with rfl | hx
  · exact h
  · have hL : ∀ l : List Nd, (∀ k ∈ l, k.px.Wf) → x ∈ Nd.nodesL l → x.px.Fit := by
      intro l
      induction l with
      | nil => intro _ h; rw [Nd.nodesL] at h; cases h
      | cons z r ih =>
        intro hz h
        rw [Nd.nodesL] at h
        rcases List.mem_append.1 h with h | h
        · exact Wf.nd (hz z (List.mem_cons_self ..)) x h
        · exact ih (fun k hk => hz k (List.mem_cons_of_mem _ hk)) h
    exact hL _ hk hx
theorem open_nd {H : Type} {en : TypeId × Value → H} {W : World} {sp : Nat → Bool} {hd : Bool} : ∀ n, Opens en P W sp hd n 28 Nd.enc (fun t => NdOk (Imm.all W) [] t ∧ t.px.Wf) (fun t => t.px.ShortP) := by
  intro n
  induction n using Nat.strongRecOn with
  | ind n ih =>
    cases n with
    | zero => exact Opens.zero
    | succ n =>
      have hsl : Opens en P W sp hd n 26 (fun s : SlV Nd => [.slice s.a s.n s.c]) (fun s => SlG (Imm.all W) [] 8 Nd.enc s.a s.n s.l ∧ ∀ x ∈ s.l, NdOk (Imm.all W) [] x ∧ x.px.Wf) (fun s => s.l.length ≤ reachBytes ∧ ∀ x ∈ s.l, x.px.ShortP) := by
        cases n with
        | zero => exact Opens.zero
        | succ n => exact Opens.slice (z := 8) (by' := 72) (by kernel_rfl) (by kernel_rfl) (by decide) (by kernel_rfl) (by decide) Nd.enc_len (ih n (by omega))
      refine (Opens.struct (z := 8) (fs := ndF) (by kernel_rfl) ((OpensF.cons (k := 1) (Opens.int (k := .u8) (by kernel_rfl)) (by kernel_rfl) <| OpensF.cons (k := 1) (Opens.int (k := .u8) (by kernel_rfl)) (by kernel_rfl) <| OpensF.cons (k := 1) (Opens.int (k := .u8) (by kernel_rfl)) (by kernel_rfl) <|
        OpensF.cons (k := 1) (Opens.int (k := .i64) (by kernel_rfl)) (by kernel_rfl) <| OpensF.cons (k := 1) (Opens.int (k := .u8) (by kernel_rfl)) (by kernel_rfl) <| OpensF.cons (k := 1) (Opens.str (by kernel_rfl)) (by kernel_rfl) <| OpensF.cons (k := 1) hsl (by kernel_rfl) <|
        OpensF.cons (k := 1) (Opens.int (k := .i64) (by kernel_rfl)) (by kernel_rfl) OpensF.nil))).map (fun x => Nd.mk x.1 x.2.1 x.2.2.1 x.2.2.2.1 x.2.2.2.2.1 x.2.2.2.2.2.1 x.2.2.2.2.2.2.1.a x.2.2.2.2.2.2.1.c x.2.2.2.2.2.2.1.l x.2.2.2.2.2.2.2.1) ?_ ?_ ?_
      · intro ⟨k, o, ty, m, f, s, ⟨a, l, c, ks⟩, q, u⟩ ⟨_, _, _, _, _, _, ⟨h7, _⟩, _⟩
        have hl : l = ks.length := h7.1
        subst hl; rfl
      · intro ⟨k, o, ty, m, f, s, ⟨a, l, c, ks⟩, q, u⟩ ⟨h1, h2, h3, h4, h5, h6, ⟨h7, h8⟩, h9, _⟩
        have hl : l = ks.length := h7.1
        subst hl
        refine ⟨.mk h7 fun x hx => (h8 x hx).1, Wf.mk ?_ fun x hx => (h8 x hx).2⟩
        unfold Px.Fit
        rw [Nd.px_kind, Nd.px_oper, Nd.px_typ, Nd.px_n, Nd.px_field, Nd.px_pos]
        exact ⟨wf8 h1, wf8 h2, wf8 h3, wf64 h4, wf8 h5, wf64 h9⟩
      · intro ⟨k, o, ty, m, f, s, ⟨a, l, c, ks⟩, q, u⟩ _ ⟨_, _, _, _, _, g6, ⟨g7, g8⟩, _⟩
        refine .mk (by rw [Nd.px_name]; exact g6) (by rw [Nd.px_len]; exact g7) fun x hx => ?_
        rw [Nd.px_kids] at hx
        obtain ⟨y, hy, rfl⟩ := List.mem_map.1 hx
        exact g8 y hy
theorem agg_of {P : Program} {W : World} {r : Reach} {b0 : Nat} {t : TypeId} {v : Value} {fs : List (TypeId × Nat)} {z : Nat} (hst : structB P t fs z = true) (hval : Value.okWide P W r b0 t v) : v = .agg v.cells.toList.toArray := by
  unfold structB at hst
  split at hst
  · rename_i gs hg
    have h5 := okWide_struct hg hval
    obtain ⟨cs, hv, hcs⟩ := h5
    clear hcs
    subst hv
    rfl
  · cases hst
set_option maxRecDepth 100000 in
theorem open_node {H : Type} {en : TypeId × Value → H} {W : World} {base : Nat} {sp : Nat → Bool} {hd : Bool} {v : Value} {d : DataW H} {ps : List MemPlace} {r : Reach} (hval : Value.okWide P W r base 28 v) (h : DataW.Trod en P W 0 sp hd 28 v d ps) :
    ∃ t : Nd, v = t.v ∧ NdOk (Imm.all W) [] t ∧ t.px.Wf ∧ ((∀ m ∈ d.weights P 28, m ≤ reachBytes) → t.px.ShortP) := by
  have hv := agg_of (fs := ndF) (z := 8) (by kernel_rfl) hval
  obtain ⟨fuel, hf⟩ := h
  obtain ⟨t, e, ⟨h1, h2⟩, h3⟩ := open_nd fuel _ d ps hf
  exact ⟨t, by rw [hv, e], h1, h2, h3⟩
end Go.Lx
