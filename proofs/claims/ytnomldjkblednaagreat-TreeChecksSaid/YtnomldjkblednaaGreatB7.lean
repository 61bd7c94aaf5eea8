import Derived.Test.YtnomldjkblednaaGreatB6
set_option linter.unusedVariables false
set_option linter.unusedSimpArgs false
set_option maxRecDepth 100000
namespace Go.Lx
open Go.Vc
theorem rrule_spec (r : RuleN) (hs : r.p.Light) (I : Imm) (F : Heap) (hr : r.Ok I F) : Tri P 100 #[r.v] I F (Ret (.int .i64 r.p.check) F) := by
  have hc : r.p.check = thenE r.when.px.checkE (thenE (errB (decide (0 < r.dos.length)) 120) (thenE (errB (decide (r.dos.length ≤ 8)) 121) (firstE DoP.check (r.dos.map DoN.p)))) := by
    show thenE _ (thenE (errB (decide (0 < (r.dos.map DoN.p).length)) 120) (thenE (errB (decide ((r.dos.map DoN.p).length ≤ 8)) 121) _)) = _
    rw [List.length_map]; rfl
  refine ref12_rule.vc (fun x e i m I' F' => F' = F ∧ 0 ≤ i ∧ i ≤ r.dos.length ∧ m = (r.dos.length - i).toNat ∧ Imm.le I I' ∧ r.dos.length ≤ 8 ∧ r.p.check = firstE DoP.check ((r.dos.drop i.toNat).map DoN.p)) ?_
  unfold ref12_rule.V
  intro b_r
  refine Tri.ret (rCheckExpr_spec r.when hs.1 I _ hr.cons.1) fun I1 l1 => ⟨_, rfl, F, .refl _, fun h => ⟨?_, rfl⟩, fun h => ⟨fun h2 => ⟨?_, rfl⟩, fun h2 => ⟨fun h3 => ⟨?_, rfl⟩, fun h3 => ⟨⟨_, rfl, by omega, by omega, rfl, l1, ?_, ?_⟩, fun x e i m I2 F2 _ ⟨gF, g0, g1, gm, l2, gl, ge⟩ => ?_⟩⟩⟩⟩
  · rw [hc, thenE_ne (by simpa using h)]
  · have e1 : r.when.px.checkE = 0 := by simpa using h
    have e2 : r.dos.length = 0 := by have : (r.dos.length : Int) = 0 := by simpa using h2
                                     omega
    rw [hc, e1, e2]; rfl
  · have e1 : r.when.px.checkE = 0 := by simpa using h
    have e3 := of_decide_eq_true h3
    rw [hc, e1, decide_eq_true (show 0 < r.dos.length by omega), decide_eq_false (show ¬ r.dos.length ≤ 8 by omega)]; rfl
  · have e3 := of_decide_eq_false h3
    omega
  · have e1 : r.when.px.checkE = 0 := by simpa using h
    have e2 : ¬ r.dos.length = 0 := fun e => by rw [e] at h2; simp at h2
    have e3 := of_decide_eq_false h3
    rw [hc, e1, decide_eq_true (show 0 < r.dos.length by omega), decide_eq_true (show r.dos.length ≤ 8 by omega)]; rfl
  subst gF
  have okr := (hr.mono l2 fun _ h => h).cons (x := (b_r, Obj.cells #[.int .u8 r.when.kind, .int .u8 r.when.oper, .int .u8 r.when.typ, .int .i64 r.when.n, .int .u8 r.when.field, .string r.when.name, .slice r.when.a r.when.kids.length r.when.c, .int .i64 r.when.pos, .slice r.a r.dos.length r.c, .int .i64 r.pos] 67 (0, 0)))
  refine ⟨fun hlt => ?_, fun hlt => ⟨?_, rfl⟩⟩
  · have hlt := of_decide_eq_true hlt
    obtain ⟨ad, d, had, hd, hrd, hdm⟩ := SlG.atm okr.2.1 g0 hlt
    refine ⟨⟨g0, hlt⟩, ad, had, _, _, _, _, _, _, _, _, _, _, _, _, _, _, _, _, _, _, _, _, _, _, _, _, _, _, _, _, _, _, _, _, _, _, _, _, _, _, _, _, _, _, _, _, hrd, Tri.ret (rdo_spec d (hs.2.2 _ (List.mem_map_of_mem hdm)) I2 _ (okr.2.2 d hdm)) fun I3 l3 => ⟨_, rfl, F2, .refl _, fun h => ⟨?_, rfl⟩, fun h => ⟨(r.dos.length - (i + 1)).toNat, by omega, rfl, ?_⟩⟩⟩
    · rw [ge, firstE_map DoP.check DoN.p hd, thenE_ne (by simpa using h)]
    · have e1 : d.p.check = 0 := by simpa using h
      rw [w64 (n := i + 1) (by omega)]
      refine ⟨by omega, by omega, rfl, Imm.le_trans l2 l3, gl, ?_⟩
      rw [ge, firstE_map DoP.check DoN.p hd, e1, thenE_zero, show (i + 1).toNat = i.toNat + 1 by omega]
  · have hlt := of_decide_eq_false hlt
    rw [ge, firstE_end DoP.check DoN.p (by omega)]
theorem rstate_spec (x : StateN) (hs : x.p.Light) (I : Imm) (F : Heap) (hx : x.Ok I F) : Tri P 75 #[x.v] I F (Ret (.int .i64 x.p.check) F) := by
  have hc : x.p.check = thenE (errB (nameB x.name) 120) (thenE (errB (decide (x.rules.length ≤ 12)) 121) (firstE RuleP.check (x.rules.map RuleN.p))) := by
    show thenE _ (thenE (errB (decide ((x.rules.map RuleN.p).length ≤ 12)) 121) _) = _
    rw [List.length_map]; rfl
  refine ref12_state.vc (fun q i m I' F' => F' = F ∧ 0 ≤ i ∧ i ≤ x.rules.length ∧ m = (x.rules.length - i).toNat ∧ Imm.le I I' ∧ x.rules.length ≤ 12 ∧ x.p.check = firstE RuleP.check ((x.rules.drop i.toNat).map RuleN.p)) ?_
  unfold ref12_state.V
  intro b_s
  refine Tri.ret (rName_spec I _) fun I1 l1 => ⟨_, rfl, F, .refl _, fun h => ⟨?_, rfl⟩, fun h => ⟨fun h3 => ⟨?_, rfl⟩, fun h3 => ⟨⟨_, rfl, by omega, by omega, rfl, l1, ?_, ?_⟩, fun q i m I2 F2 _ ⟨gF, g0, g1, gm, l2, gl, ge⟩ => ?_⟩⟩⟩
  · rw [hc, not_f h]; rfl
  · have e3 := of_decide_eq_true h3
    rw [hc, not_t h, decide_eq_false (show ¬ x.rules.length ≤ 12 by omega)]; rfl
  · have e3 := of_decide_eq_false h3
    omega
  · have e3 := of_decide_eq_false h3
    rw [hc, not_t h, decide_eq_true (show x.rules.length ≤ 12 by omega)]; rfl
  subst gF
  have okx := (hx.mono l2 fun _ h => h).cons (x := (b_s, Obj.cells #[.string x.name, .slice x.a x.rules.length x.c, .int .i64 x.pos] 70 (0, 0)))
  refine ⟨fun hlt => ?_, fun hlt => ⟨?_, rfl⟩⟩
  · have hlt := of_decide_eq_true hlt
    obtain ⟨ad, r, had, hr, hrd, hrm⟩ := SlG.atm okx.1 g0 hlt
    refine ⟨⟨g0, hlt⟩, ad, had, _, _, _, _, _, _, _, _, _, _, _, _, _, _, hrd, Tri.ret (rrule_spec r (hs.2 _ (List.mem_map_of_mem hrm)) I2 _ (okx.2 r hrm)) fun I3 l3 => ⟨_, rfl, F2, .refl _, fun h => ⟨?_, rfl⟩, fun h => ⟨(x.rules.length - (i + 1)).toNat, by omega, rfl, ?_⟩⟩⟩
    · rw [ge, firstE_map RuleP.check RuleN.p hr, thenE_ne (by simpa using h)]
    · have e1 : r.p.check = 0 := by simpa using h
      rw [w64 (n := i + 1) (by omega)]
      refine ⟨by omega, by omega, rfl, Imm.le_trans l2 l3, gl, ?_⟩
      rw [ge, firstE_map RuleP.check RuleN.p hr, e1, thenE_zero, show (i + 1).toNat = i.toNat + 1 by omega]
  · have hlt := of_decide_eq_false hlt
    rw [ge, firstE_end RuleP.check RuleN.p (by omega)]
theorem formed_kids {x : Px} (h : x.formed = true) (hk : x.kind = 5) : x.kids.length = 1 := by
  rw [Px.formed_eq, Bool.and_eq_true] at h
  have h1 := h.1
  unfold Px.oneB at h1
  simp only [Bool.and_eq_true, decide_eq_true_eq] at h1
  rw [h1.2]
  unfold Px.arity
  rw [if_pos (.inl hk)]
theorem begins_spec (t : Nd) (hs : t.px.size ≤ 1048576) (I : Imm) (F : Heap) (ht : NdOk I F t) : Tri P 99 #[t.v] I F (Ret (.bool (t.px.formed && t.px.beginB)) F) := by
  refine ref12_begins.vc ?_
  unfold ref12_begins.V
  intro b_n
  have hdef : t.px.beginB = if t.kind = 5 ∧ t.oper = 1 then (match t.px.kids with | k :: _ => decide (k.kind = 1 ∧ k.typ ≤ 4) | [] => false) else decide (t.kind = 1) := by
    unfold Px.beginB; rw [Nd.px_kind, Nd.px_oper]; rfl
  have hb : ∀ a b : Int, (a == b) = decide (a = b) := fun a b => by rw [Bool.eq_iff_iff]; simp
  refine ⟨fun h1 => ⟨fun h2 => ⟨fun h3 => ?_, fun h3 => ?_⟩, fun h2 => ?_⟩, fun h1 => ?_⟩
  · have e1 : t.kind = 5 := by simpa using h1
    have e2 : t.oper = 1 := by simpa using h2
    have e3 : t.kids.length = 1 := by have : (t.kids.length : Int) = 1 := by simpa using h3
                                      omega
    obtain ⟨ad, k, had, hk, hrd, hko, hkm⟩ := (ht.cons (x := (b_n, Obj.cells #[.int .u8 t.kind, .int .u8 t.oper, .int .u8 t.typ, .int .i64 t.n, .int .u8 t.field, .string t.name, .slice t.a t.kids.length t.c, .int .i64 t.pos] 55 (0, 0)))).kids.at (i := 0) (Int.le_refl 0) (by omega)
    have hkids : t.px.kids = [k.px] := by
      rw [Nd.px_kids]
      cases hkk : t.kids with
      | nil => rw [hkk] at e3; cases e3
      | cons y l =>
        rw [hkk] at hk e3
        cases l with
        | nil => cases hk; rfl
        | cons z l => simp at e3
    rw [hdef, if_pos ⟨e1, e2⟩, hkids]
    refine ⟨⟨Int.le_refl 0, by omega⟩, ad, had, _, _, _, _, _, _, _, _, _, _, hrd, fun b_k => Tri.ret (formed_spec t hs I _ (ht.cons.cons)) fun I1 l1 => ⟨_, rfl, F, .refl _, fun h4 => ⟨fun h5 => ⟨?_, rfl⟩, fun h5 => ⟨?_, rfl⟩⟩, fun h4 => ⟨?_, rfl⟩⟩⟩
    · have e5 : k.kind = 1 := by simpa using h5
      rw [h4]
      show _ = Ending.returned (.bool (true && decide (k.px.kind = 1 ∧ k.px.typ ≤ 4)))
      rw [Nd.px_kind, Nd.px_typ, e5]; simp
    · have e5 : k.kind ≠ 1 := by simpa using h5
      rw [h4]
      show _ = Ending.returned (.bool (true && decide (k.px.kind = 1 ∧ k.px.typ ≤ 4)))
      rw [Nd.px_kind, decide_eq_false (fun h => e5 h.1)]; rfl
    · rw [h4]; rfl
  · have e1 : t.kind = 5 := by simpa using h1
    have e3 : t.kids.length ≠ 1 := fun e => by rw [e] at h3; simp at h3
    have hf : t.px.formed = false := by
      cases hh : t.px.formed with
      | false => rfl
      | true =>
        have := formed_kids hh (by rw [Nd.px_kind]; exact e1)
        rw [Nd.px_kids, List.length_map] at this
        exact absurd this e3
    refine Tri.ret (formed_spec t hs I _ ht.cons) fun I1 l1 => ⟨_, rfl, F, .refl _, fun h4 => ?_, fun h4 => ⟨?_, rfl⟩⟩
    · rw [hf] at h4; cases h4
    · rw [hf]; rfl
  · have e2 : t.oper ≠ 1 := by simpa using h2
    rw [hdef, if_neg (fun h => e2 h.2)]
    refine Tri.ret (formed_spec t hs I _ ht.cons) fun I1 l1 => ⟨_, rfl, F, .refl _, fun h4 => ⟨?_, rfl⟩, fun h4 => ⟨?_, rfl⟩⟩
    · rw [h4, hb]; rfl
    · rw [h4]; rfl
  · have e1 : t.kind ≠ 5 := by simpa using h1
    rw [hdef, if_neg (fun h => e1 h.1)]
    refine Tri.ret (formed_spec t hs I _ ht.cons) fun I1 l1 => ⟨_, rfl, F, .refl _, fun h4 => ⟨?_, rfl⟩, fun h4 => ⟨?_, rfl⟩⟩
    · rw [h4, hb]; rfl
    · rw [h4]; rfl
theorem rreg_spec (r : RegN) (hs : r.init.px.size ≤ 1048576) (I : Imm) (F : Heap) (hr : r.Ok I F) : Tri P 74 #[r.v] I F (Ret (.bool (nameB r.name && (decide (1 ≤ r.typ ∧ r.typ ≤ 6) && (r.init.px.formed && r.init.px.beginB)))) F) := by
  refine ref12_reg.vc ?_
  unfold ref12_reg.V
  intro b_r
  refine Tri.ret (rName_spec I _) fun I1 l1 => ⟨_, rfl, F, .refl _, fun h1 => ⟨fun h2 => ⟨fun h3 => ?_, fun h3 => ⟨?_, rfl⟩⟩, fun h2 => ⟨?_, rfl⟩⟩, fun h1 => ⟨?_, rfl⟩⟩
  · have e2 := of_decide_eq_true h2
    have e3 := of_decide_eq_true h3
    refine Tri.ret (begins_spec r.init hs I1 _ (NdOk.mono hr l1 fun a ha => .tail _ ha)) fun I2 l2 => ⟨_, rfl, F, .refl _, ?_, rfl⟩
    rw [h1, decide_eq_true (show 1 ≤ r.typ ∧ r.typ ≤ 6 by omega)]; rfl
  · have e3 := of_decide_eq_false h3
    rw [h1, decide_eq_false (show ¬ (1 ≤ r.typ ∧ r.typ ≤ 6) by omega)]; rfl
  · have e2 := of_decide_eq_false h2
    rw [h1, decide_eq_false (show ¬ (1 ≤ r.typ ∧ r.typ ≤ 6) by omega)]; rfl
  · rw [h1]; rfl
end Go.Lx
namespace Go.Lx
open Go.Vc
theorem rCheck_spec (s : StgN) (hs : s.p.Light) (I : Imm) (F : Heap) (hok : s.Ok I F) : Tri P 16 #[s.v] I F (Ret (.int .i64 s.p.check) F) := by
  have hc : s.p.check = thenE (errB (nameB s.name) 120) (thenE (errB (decide (s.regs.length ≤ 12)) 121) (thenE (firstE RegP.check (s.regs.map RegN.p)) (thenE (errB (decide (s.slots.length ≤ 4)) 121) (thenE (firstE SlotP.check s.slots)
      (thenE (errB (decide (0 < s.states.length)) 120) (thenE (errB (decide (s.states.length ≤ 12)) 121) (firstE StateP.check (s.states.map StateN.p)))))))) := by
    show thenE _ (thenE (errB (decide ((s.regs.map RegN.p).length ≤ 12)) 121) (thenE _ (thenE _ (thenE _ (thenE (errB (decide (0 < (s.states.map StateN.p).length)) 120) (thenE (errB (decide ((s.states.map StateN.p).length ≤ 12)) 121) _)))))) = _
    rw [List.length_map, List.length_map]; rfl
  have hnm : ∀ r ∈ s.regs, r.init.px.size ≤ 1048576 := fun r hr => hs.reg _ (List.mem_map_of_mem hr)
  have hst : ∀ x ∈ s.states, x.p.Light := fun x hx => hs.state _ (List.mem_map_of_mem hx)
  have lr := hs.regs
  have ls := hs.slots
  have lt := hs.states
  simp only [StgN.p, List.length_map] at lr ls lt
  refine ref12_Check.vc
    (fun x q i m I' F' => F' = F ∧ 0 ≤ i ∧ i ≤ s.regs.length ∧ m = (s.regs.length - i).toNat ∧ Imm.le I I' ∧ s.p.check = thenE (firstE RegP.check ((s.regs.drop i.toNat).map RegN.p)) (thenE (errB (decide (s.slots.length ≤ 4)) 121) (thenE (firstE SlotP.check s.slots)
      (thenE (errB (decide (0 < s.states.length)) 120) (thenE (errB (decide (s.states.length ≤ 12)) 121) (firstE StateP.check (s.states.map StateN.p)))))))
    (fun x q i m I' F' => F' = F ∧ 0 ≤ i ∧ i ≤ s.slots.length ∧ m = (s.slots.length - i).toNat ∧ Imm.le I I' ∧ s.p.check = thenE (firstE SlotP.check ((s.slots.drop i.toNat).map id)) (thenE (errB (decide (0 < s.states.length)) 120) (thenE (errB (decide (s.states.length ≤ 12)) 121) (firstE StateP.check (s.states.map StateN.p)))))
    (fun x i m I' F' => F' = F ∧ 0 ≤ i ∧ i ≤ s.states.length ∧ m = (s.states.length - i).toNat ∧ Imm.le I I' ∧ s.p.check = firstE StateP.check ((s.states.drop i.toNat).map StateN.p)) ?_
  unfold ref12_Check.V
  intro b_s
  have ok : ∀ {J : Imm}, Imm.le I J → s.Ok J ((b_s, Obj.cells #[.string s.name, .slice s.ra s.regs.length s.rc, .slice s.sa s.slots.length s.sc, .slice s.ta s.states.length s.tc] 26 (0, 0)) :: F) := fun hl => (hok.mono hl fun _ h => h).cons
  refine Tri.ret (rName_spec I _) fun I1 l1 => ⟨_, rfl, F, .refl _, fun h => ⟨?_, rfl⟩, fun h => ⟨fun h3 => ⟨?_, rfl⟩, fun h3 => ⟨⟨_, rfl, by omega, by omega, rfl, l1, ?_⟩, fun x q i m I2 F2 _ ⟨gF, g0, g1, gm, l2, ge⟩ => ?_⟩⟩⟩
  · rw [hc, not_f h]; rfl
  · have e3 := of_decide_eq_true h3
    rw [hc, not_t h, decide_eq_false (show ¬ s.regs.length ≤ 12 by omega)]; rfl
  · have e3 := of_decide_eq_false h3
    rw [hc, not_t h, decide_eq_true (show s.regs.length ≤ 12 by omega)]; rfl
  subst gF
  refine ⟨fun hlt => ?_, fun hlt => ⟨fun h4 => ⟨?_, rfl⟩, fun h4 => ⟨⟨_, rfl, by omega, by omega, rfl, l2, ?_⟩, fun x1 q1 j m4 I4 F4 _ ⟨gF, j0, j1, jm, l4, je⟩ => ?_⟩⟩⟩
  · have hlt := of_decide_eq_true hlt
    obtain ⟨ad, r, had, hr, hrd, hrm⟩ := SlG.atm (ok l2).regs g0 hlt
    have hcr : r.p.check = errB (nameB r.name && (decide (1 ≤ r.typ ∧ r.typ ≤ 6) && (r.init.px.formed && r.init.px.beginB))) 120 := rfl
    refine ⟨⟨g0, hlt⟩, ad, had, _, _, _, _, _, _, _, _, _, _, _, _, _, hrd, Tri.ret (rreg_spec r (hnm r hrm) I2 _ ((ok l2).reg r hrm)) fun I3 l3 => ⟨_, rfl, F2, .refl _, fun h => ⟨?_, rfl⟩, fun h => ⟨(s.regs.length - (i + 1)).toNat, by omega, rfl, ?_⟩⟩⟩
    · rw [ge, firstE_map RegP.check RegN.p hr, hcr, not_f h]; rfl
    · rw [w64 (n := i + 1) (by omega)]
      refine ⟨by omega, by omega, rfl, Imm.le_trans l2 l3, ?_⟩
      rw [ge, firstE_map RegP.check RegN.p hr, hcr, not_t h, show (i + 1).toNat = i.toNat + 1 by omega]; rfl
  · have hlt := of_decide_eq_false hlt
    have e4 := of_decide_eq_true h4
    rw [ge, firstE_end RegP.check RegN.p (by omega), decide_eq_false (show ¬ s.slots.length ≤ 4 by omega)]; rfl
  · have hlt := of_decide_eq_false hlt
    have e4 := of_decide_eq_false h4
    rw [ge, firstE_end RegP.check RegN.p (by omega), decide_eq_true (show s.slots.length ≤ 4 by omega)]
    show thenE 0 (thenE 0 (thenE (firstE SlotP.check s.slots) _)) = thenE (firstE SlotP.check (s.slots.map id)) _
    rw [List.map_id]; rfl
  subst gF
  refine ⟨fun hlt => ?_, fun hlt => ⟨fun h5 => ⟨?_, rfl⟩, fun h5 => ⟨fun h6 => ⟨?_, rfl⟩, fun h6 => ⟨⟨_, rfl, by omega, by omega, rfl, l4, ?_⟩, fun x2 k m8 I6 F6 _ ⟨gF, k0, k1, km, l6, ke⟩ => ?_⟩⟩⟩⟩
  · have hlt := of_decide_eq_true hlt
    obtain ⟨ad, r, had, hr, hrd, hrm⟩ := SlG.atm (ok l4).slots j0 hlt
    have hcr : SlotP.check r = errB (nameB r.name) 120 := rfl
    refine ⟨⟨j0, hlt⟩, ad, had, r.name, hrd.field (o := 0) rfl, Tri.ret (rName_spec I4 _) fun I5 l5 => ⟨_, rfl, F4, .refl _, fun h => ⟨?_, rfl⟩, fun h => ⟨(s.slots.length - (j + 1)).toNat, by omega, rfl, ?_⟩⟩⟩
    · rw [je, firstE_map SlotP.check id hr]
      show _ = Ending.returned (.int .i64 (thenE (thenE (SlotP.check r) _) _))
      rw [hcr, not_f h]; rfl
    · rw [w64 (n := j + 1) (by omega)]
      refine ⟨by omega, by omega, rfl, Imm.le_trans l4 l5, ?_⟩
      rw [je, firstE_map SlotP.check id hr, show (j + 1).toNat = j.toNat + 1 by omega]
      show thenE (thenE (SlotP.check r) _) _ = _
      rw [hcr, not_t h]; rfl
  · have hlt := of_decide_eq_false hlt
    have e5 : s.states.length = 0 := by have : (s.states.length : Int) = 0 := by simpa using h5
                                        omega
    rw [je, firstE_end SlotP.check id (by omega), e5]; rfl
  · have hlt := of_decide_eq_false hlt
    have e6 := of_decide_eq_true h6
    rw [je, firstE_end SlotP.check id (by omega), decide_eq_true (show 0 < s.states.length by omega), decide_eq_false (show ¬ s.states.length ≤ 12 by omega)]; rfl
  · have hlt := of_decide_eq_false hlt
    have e5 : ¬ s.states.length = 0 := fun e => by rw [e] at h5; simp at h5
    have e6 := of_decide_eq_false h6
    rw [je, firstE_end SlotP.check id (by omega), decide_eq_true (show 0 < s.states.length by omega), decide_eq_true (show s.states.length ≤ 12 by omega)]; rfl
  subst gF
  refine ⟨fun hlt => ?_, fun hlt => ⟨?_, rfl⟩⟩
  · have hlt := of_decide_eq_true hlt
    obtain ⟨ad, x, had, hx, hrd, hxm⟩ := SlG.atm (ok l6).states k0 hlt
    refine ⟨⟨k0, hlt⟩, ad, had, _, _, _, _, _, hrd, Tri.ret (rstate_spec x (hst x hxm) I6 _ ((ok l6).state x hxm)) fun I7 l7 => ⟨_, rfl, F6, .refl _, fun h => ⟨?_, rfl⟩, fun h => ⟨(s.states.length - (k + 1)).toNat, by omega, rfl, ?_⟩⟩⟩
    · rw [ke, firstE_map StateP.check StateN.p hx, thenE_ne (by simpa using h)]
    · have e1 : x.p.check = 0 := by simpa using h
      rw [w64 (n := k + 1) (by omega)]
      refine ⟨by omega, by omega, rfl, Imm.le_trans l6 l7, ?_⟩
      rw [ke, firstE_map StateP.check StateN.p hx, e1, thenE_zero, show (k + 1).toNat = k.toNat + 1 by omega]
  · have hlt := of_decide_eq_false hlt
    rw [ke, firstE_end StateP.check StateN.p (by omega)]
end Go.Lx
namespace Go.Lx
open Go.Vc
def shT_lTreeChecks : List (Nat × List Sh) := [(0, []), (4, [.one .bool]), (26, [.agg [.str, .slc, .slc, .slc]]), (30, [.one (.int .i64)])]
def law12_TreeChecks.V (a au : Nat → Nat × Obj) (vs : Bs → Value) (vl : OA → Nat → Nat → Value) (vt : Bool → Value) (vp : OA → Value) (a4 : Bs) (aU : OA) (aV aW : Nat) (aX : OA) (aY aZ : Nat) (a0 : OA) (a1 a2 : Nat) (a3 : Bs) (aL : OA) (aM aN : Nat) (aO : OA) (aP aQ : Nat) (aR : OA) (aS aT : Nat) (I : Imm) (F : Heap) (Q : PostQ)  : Prop := ∀ av : Nat, ∀ c : Nat, Tri P 4 (#[]) I ((au av) :: (a c) :: F) fun e1 I1 G1 => ∃ (r : Bool), e1 = .returned (vt r) ∧ ∃ F1 : Heap, List.Perm G1 ((au av) :: (a c) :: F1) ∧ Tri P 5 (#[.agg #[vs a4, vl aU aV aW, vl aX aY aZ, vl a0 a1 a2]]) I1 ((au av) :: (a c) :: F1) fun e2 I2 G2 => ∃ (r1 : Bool), e2 = .returned (vt r1) ∧ ∃ F2 : Heap, List.Perm G2 ((au av) :: (a c) :: F2) ∧ Tri P 5 (#[.agg #[vs a3, vl aL aM aN, vl aO aP aQ, vl aR aS aT]]) I2 ((au av) :: (a c) :: F2) fun e3 I3 G3 => ∃ (r2 : Bool), e3 = .returned (vt r2) ∧ ∃ F3 : Heap, List.Perm G3 ((au av) :: (a c) :: F3) ∧ (((!r) = true → Q (.returned (vt r)) I3 (F3)) ∧ ((!r) = false → ((r1 = true → Q (.returned (vt r)) I3 (F3)) ∧ (r1 = false → ((r2 = true → Q (.returned (vt r)) I3 (F3)) ∧ (r2 = false → Tri P 6 (#[.agg #[vs a4, vl aU aV aW, vl aX aY aZ, vl a0 a1 a2]]) I3 ((au av) :: (a c) :: F3) fun e4 I4 G4 => ∃ (ar : Bs) (d : OA) (e f : Nat) (g : OA) (h i : Nat) (j : OA) (k l : Nat), e4 = .returned (.agg #[vs ar, vl d e f, vl g h i, vl j k l]) ∧ ∃ F4 : Heap, List.Perm G4 ((au av) :: (a c) :: F4) ∧ ∀ aG : Nat, Tri P 6 (#[.agg #[vs a3, vl aL aM aN, vl aO aP aQ, vl aR aS aT]]) I4 ((au av) :: (a c) :: (aG, Obj.cells #[vs ar, vl d e f, vl g h i, vl j k l] 26 (0, 0)) :: F4) fun e5 I5 G5 => ∃ (aq : Bs) (m : OA) (n o : Nat) (p : OA) (q s : Nat) (t : OA) (u v : Nat), e5 = .returned (.agg #[vs aq, vl m n o, vl p q s, vl t u v]) ∧ ∃ F5 : Heap, List.Perm G5 ((au av) :: (a c) :: (aG, Obj.cells #[vs ar, vl d e f, vl g h i, vl j k l] 26 (0, 0)) :: F5) ∧ ∀ aJ : Nat, Tri P 7 (#[.agg #[vs ar, vl d e f, vl g h i, vl j k l]]) I5 ((au av) :: (a c) :: (aG, Obj.cells #[vs ar, vl d e f, vl g h i, vl j k l] 26 (0, 0)) :: (aJ, Obj.cells #[vs aq, vl m n o, vl p q s, vl t u v] 26 (0, 0)) :: F5) fun e6 I6 G6 => ∃ (r3 : Int), e6 = .returned (.int .i64 r3) ∧ ∃ F6 : Heap, List.Perm G6 ((au av) :: (a c) :: (aG, Obj.cells #[vs ar, vl d e f, vl g h i, vl j k l] 26 (0, 0)) :: (aJ, Obj.cells #[vs aq, vl m n o, vl p q s, vl t u v] 26 (0, 0)) :: F6) ∧ Tri P 8 (#[.agg #[vs ar, vl d e f, vl g h i, vl j k l], .agg #[vs aq, vl m n o, vl p q s, vl t u v]]) I6 ((au av) :: (a c) :: (aG, Obj.cells #[vs ar, vl d e f, vl g h i, vl j k l] 26 (0, 0)) :: (aJ, Obj.cells #[vs aq, vl m n o, vl p q s, vl t u v] 26 (0, 0)) :: F6) fun e7 I7 G7 => ∃ (r4 : Bool), e7 = .returned (vt r4) ∧ ∃ F7 : Heap, List.Perm G7 ((au av) :: (a c) :: (aG, Obj.cells #[vs ar, vl d e f, vl g h i, vl j k l] 26 (0, 0)) :: (aJ, Obj.cells #[vs aq, vl m n o, vl p q s, vl t u v] 26 (0, 0)) :: F7) ∧ Tri P 8 (#[.agg #[vs ar, vl d e f, vl g h i, vl j k l], .agg #[vs ar, vl d e f, vl g h i, vl j k l]]) I7 ((au av) :: (a c) :: (aG, Obj.cells #[vs ar, vl d e f, vl g h i, vl j k l] 26 (0, 0)) :: (aJ, Obj.cells #[vs aq, vl m n o, vl p q s, vl t u v] 26 (0, 0)) :: F7) fun e8 I8 G8 => ∃ (r5 : Bool), e8 = .returned (vt r5) ∧ ∃ F8 : Heap, List.Perm G8 ((au av) :: (a c) :: (aG, Obj.cells #[vs ar, vl d e f, vl g h i, vl j k l] 26 (0, 0)) :: (aJ, Obj.cells #[vs aq, vl m n o, vl p q s, vl t u v] 26 (0, 0)) :: F8) ∧ Tri P 9 (#[.agg #[vs ar, vl d e f, vl g h i, vl j k l]]) I8 ((au av) :: (a c) :: (aG, Obj.cells #[vs ar, vl d e f, vl g h i, vl j k l] 26 (0, 0)) :: (aJ, Obj.cells #[vs aq, vl m n o, vl p q s, vl t u v] 26 (0, 0)) :: F8) fun e9 I9 G9 => ∃ (aF : Bs) (w : OA) (x y : Nat) (z : OA) (aa ab : Nat) (ac : OA) (ad ae : Nat), e9 = .returned (.agg #[vs aF, vl w x y, vl z aa ab, vl ac ad ae]) ∧ ∃ F9 : Heap, List.Perm G9 ((au av) :: (a c) :: (aG, Obj.cells #[vs ar, vl d e f, vl g h i, vl j k l] 26 (0, 0)) :: (aJ, Obj.cells #[vs aq, vl m n o, vl p q s, vl t u v] 26 (0, 0)) :: F9) ∧ ∀ ap : Nat, Tri P 9 (#[.agg #[vs ar, vl d e f, vl g h i, vl j k l]]) I9 ((au av) :: (a c) :: (aG, Obj.cells #[vs ar, vl d e f, vl g h i, vl j k l] 26 (0, 0)) :: (aJ, Obj.cells #[vs aq, vl m n o, vl p q s, vl t u v] 26 (0, 0)) :: (ap, Obj.cells #[vs aF, vl w x y, vl z aa ab, vl ac ad ae] 26 (0, 0)) :: F9) fun a8 I10 G10 => ∃ (aH : Bs) (ag : OA) (ah ai : Nat) (aj : OA) (ak al : Nat) (am : OA) (an ao : Nat), a8 = .returned (.agg #[vs aH, vl ag ah ai, vl aj ak al, vl am an ao]) ∧ ∃ F10 : Heap, List.Perm G10 ((au av) :: (a c) :: (aG, Obj.cells #[vs ar, vl d e f, vl g h i, vl j k l] 26 (0, 0)) :: (aJ, Obj.cells #[vs aq, vl m n o, vl p q s, vl t u v] 26 (0, 0)) :: (ap, Obj.cells #[vs aF, vl w x y, vl z aa ab, vl ac ad ae] 26 (0, 0)) :: F10) ∧ ∀ af : Nat, Tri P 10 (#[.agg #[vs ar, vl d e f, vl g h i, vl j k l], .agg #[vs a4, vl aU aV aW, vl aX aY aZ, vl a0 a1 a2]]) I10 ((au av) :: (a c) :: (aG, Obj.cells #[vs ar, vl d e f, vl g h i, vl j k l] 26 (0, 0)) :: (aJ, Obj.cells #[vs aq, vl m n o, vl p q s, vl t u v] 26 (0, 0)) :: (ap, Obj.cells #[vs aF, vl w x y, vl z aa ab, vl ac ad ae] 26 (0, 0)) :: (af, Obj.cells #[vs aH, vl ag ah ai, vl aj ak al, vl am an ao] 26 (0, 0)) :: F10) fun a9 I11 G11 => ∃ (r6 : Bool), a9 = .returned (vt r6) ∧ ∃ F11 : Heap, List.Perm G11 ((au av) :: (a c) :: (aG, Obj.cells #[vs ar, vl d e f, vl g h i, vl j k l] 26 (0, 0)) :: (aJ, Obj.cells #[vs aq, vl m n o, vl p q s, vl t u v] 26 (0, 0)) :: (ap, Obj.cells #[vs aF, vl w x y, vl z aa ab, vl ac ad ae] 26 (0, 0)) :: (af, Obj.cells #[vs aH, vl ag ah ai, vl aj ak al, vl am an ao] 26 (0, 0)) :: F11) ∧ Tri P 10 (#[.agg #[vs aq, vl m n o, vl p q s, vl t u v], .agg #[vs a3, vl aL aM aN, vl aO aP aQ, vl aR aS aT]]) I11 ((au av) :: (a c) :: (aG, Obj.cells #[vs ar, vl d e f, vl g h i, vl j k l] 26 (0, 0)) :: (aJ, Obj.cells #[vs aq, vl m n o, vl p q s, vl t u v] 26 (0, 0)) :: (ap, Obj.cells #[vs aF, vl w x y, vl z aa ab, vl ac ad ae] 26 (0, 0)) :: (af, Obj.cells #[vs aH, vl ag ah ai, vl aj ak al, vl am an ao] 26 (0, 0)) :: F11) fun ba I12 G12 => ∃ (r7 : Bool), ba = .returned (vt r7) ∧ ∃ F12 : Heap, List.Perm G12 ((au av) :: (a c) :: (aG, Obj.cells #[vs ar, vl d e f, vl g h i, vl j k l] 26 (0, 0)) :: (aJ, Obj.cells #[vs aq, vl m n o, vl p q s, vl t u v] 26 (0, 0)) :: (ap, Obj.cells #[vs aF, vl w x y, vl z aa ab, vl ac ad ae] 26 (0, 0)) :: (af, Obj.cells #[vs aH, vl ag ah ai, vl aj ak al, vl am an ao] 26 (0, 0)) :: F12) ∧ Tri P 11 (#[.agg #[vs a4, vl aU aV aW, vl aX aY aZ, vl a0 a1 a2]]) I12 ((au av) :: (a c) :: (aG, Obj.cells #[vs ar, vl d e f, vl g h i, vl j k l] 26 (0, 0)) :: (aJ, Obj.cells #[vs aq, vl m n o, vl p q s, vl t u v] 26 (0, 0)) :: (ap, Obj.cells #[vs aF, vl w x y, vl z aa ab, vl ac ad ae] 26 (0, 0)) :: (af, Obj.cells #[vs aH, vl ag ah ai, vl aj ak al, vl am an ao] 26 (0, 0)) :: F12) fun bb I13 G13 => ∃ (aK : Bs) (aw : OA) (ax ay : Nat) (az : OA) (aA aB : Nat) (aC : OA) (aD aE : Nat), bb = .returned (.agg #[vs aK, vl aw ax ay, vl az aA aB, vl aC aD aE]) ∧ ∃ F13 : Heap, List.Perm G13 ((au av) :: (a c) :: (aG, Obj.cells #[vs ar, vl d e f, vl g h i, vl j k l] 26 (0, 0)) :: (aJ, Obj.cells #[vs aq, vl m n o, vl p q s, vl t u v] 26 (0, 0)) :: (ap, Obj.cells #[vs aF, vl w x y, vl z aa ab, vl ac ad ae] 26 (0, 0)) :: (af, Obj.cells #[vs aH, vl ag ah ai, vl aj ak al, vl am an ao] 26 (0, 0)) :: F13) ∧ ∀ aI : Nat, Tri P 12 (#[.agg #[vs aF, vl w x y, vl z aa ab, vl ac ad ae], .agg #[vs aK, vl aw ax ay, vl az aA aB, vl aC aD aE]]) I13 ((au av) :: (a c) :: (aG, Obj.cells #[vs ar, vl d e f, vl g h i, vl j k l] 26 (0, 0)) :: (aJ, Obj.cells #[vs aq, vl m n o, vl p q s, vl t u v] 26 (0, 0)) :: (ap, Obj.cells #[vs aF, vl w x y, vl z aa ab, vl ac ad ae] 26 (0, 0)) :: (af, Obj.cells #[vs aH, vl ag ah ai, vl aj ak al, vl am an ao] 26 (0, 0)) :: (aI, Obj.cells #[vs aK, vl aw ax ay, vl az aA aB, vl aC aD aE] 26 (0, 0)) :: F13) fun bc I14 G14 => ∃ (r8 : Bool), bc = .returned (vt r8) ∧ ∃ F14 : Heap, List.Perm G14 ((au av) :: (a c) :: (aG, Obj.cells #[vs ar, vl d e f, vl g h i, vl j k l] 26 (0, 0)) :: (aJ, Obj.cells #[vs aq, vl m n o, vl p q s, vl t u v] 26 (0, 0)) :: (ap, Obj.cells #[vs aF, vl w x y, vl z aa ab, vl ac ad ae] 26 (0, 0)) :: (af, Obj.cells #[vs aH, vl ag ah ai, vl aj ak al, vl am an ao] 26 (0, 0)) :: (aI, Obj.cells #[vs aK, vl aw ax ay, vl az aA aB, vl aC aD aE] 26 (0, 0)) :: F14) ∧ Tri P 12 (#[.agg #[vs aH, vl ag ah ai, vl aj ak al, vl am an ao], .agg #[vs aK, vl aw ax ay, vl az aA aB, vl aC aD aE]]) I14 ((au av) :: (a c) :: (aG, Obj.cells #[vs ar, vl d e f, vl g h i, vl j k l] 26 (0, 0)) :: (aJ, Obj.cells #[vs aq, vl m n o, vl p q s, vl t u v] 26 (0, 0)) :: (ap, Obj.cells #[vs aF, vl w x y, vl z aa ab, vl ac ad ae] 26 (0, 0)) :: (af, Obj.cells #[vs aH, vl ag ah ai, vl aj ak al, vl am an ao] 26 (0, 0)) :: (aI, Obj.cells #[vs aK, vl aw ax ay, vl az aA aB, vl aC aD aE] 26 (0, 0)) :: F14) fun bd I15 G15 => ∃ (r9 : Bool), bd = .returned (vt r9) ∧ ∃ F15 : Heap, List.Perm G15 ((au av) :: (a c) :: (aG, Obj.cells #[vs ar, vl d e f, vl g h i, vl j k l] 26 (0, 0)) :: (aJ, Obj.cells #[vs aq, vl m n o, vl p q s, vl t u v] 26 (0, 0)) :: (ap, Obj.cells #[vs aF, vl w x y, vl z aa ab, vl ac ad ae] 26 (0, 0)) :: (af, Obj.cells #[vs aH, vl ag ah ai, vl aj ak al, vl am an ao] 26 (0, 0)) :: (aI, Obj.cells #[vs aK, vl aw ax ay, vl az aA aB, vl aC aD aE] 26 (0, 0)) :: F15) ∧ Tri P 13 (#[.agg #[vs a4, vl aU aV aW, vl aX aY aZ, vl a0 a1 a2], .agg #[vs a3, vl aL aM aN, vl aO aP aQ, vl aR aS aT]]) I15 ((au av) :: (a c) :: (aG, Obj.cells #[vs ar, vl d e f, vl g h i, vl j k l] 26 (0, 0)) :: (aJ, Obj.cells #[vs aq, vl m n o, vl p q s, vl t u v] 26 (0, 0)) :: (ap, Obj.cells #[vs aF, vl w x y, vl z aa ab, vl ac ad ae] 26 (0, 0)) :: (af, Obj.cells #[vs aH, vl ag ah ai, vl aj ak al, vl am an ao] 26 (0, 0)) :: (aI, Obj.cells #[vs aK, vl aw ax ay, vl az aA aB, vl aC aD aE] 26 (0, 0)) :: F15) fun be I16 G16 => ∃ (a5 : Bool), be = .returned (vt a5) ∧ ∃ F16 : Heap, List.Perm G16 ((au av) :: (a c) :: (aG, Obj.cells #[vs ar, vl d e f, vl g h i, vl j k l] 26 (0, 0)) :: (aJ, Obj.cells #[vs aq, vl m n o, vl p q s, vl t u v] 26 (0, 0)) :: (ap, Obj.cells #[vs aF, vl w x y, vl z aa ab, vl ac ad ae] 26 (0, 0)) :: (af, Obj.cells #[vs aH, vl ag ah ai, vl aj ak al, vl am an ao] 26 (0, 0)) :: (aI, Obj.cells #[vs aK, vl aw ax ay, vl az aA aB, vl aC aD aE] 26 (0, 0)) :: F16) ∧ ∀ b : Nat, Tri P 14 (#[vp (some (⟨b, 0, none⟩ : Addr)), .agg #[vs aF, vl w x y, vl z aa ab, vl ac ad ae]]) I16 ((au av) :: (a c) :: (aG, Obj.cells #[vs ar, vl d e f, vl g h i, vl j k l] 26 (0, 0)) :: (aJ, Obj.cells #[vs aq, vl m n o, vl p q s, vl t u v] 26 (0, 0)) :: (ap, Obj.cells #[vs aF, vl w x y, vl z aa ab, vl ac ad ae] 26 (0, 0)) :: (af, Obj.cells #[vs aH, vl ag ah ai, vl aj ak al, vl am an ao] 26 (0, 0)) :: (aI, Obj.cells #[vs aK, vl aw ax ay, vl az aA aB, vl aC aD aE] 26 (0, 0)) :: ((b, Obj.cells #[vl none 0 0, vl none 0 0, vl none 0 0, vl none 0 0, vl none 0 0, vl none 0 0, vl none 0 0, vl none 0 0, vl none 0 0, vl none 0 0, vl none 0 0, vl none 0 0] 47 (0, 0)) :: F16)) fun bf I17 G17 => bf = .returned (.tuple #[]) ∧ ∃ F17 : Heap, List.Perm G17 ((au av) :: (a c) :: (aG, Obj.cells #[vs ar, vl d e f, vl g h i, vl j k l] 26 (0, 0)) :: (aJ, Obj.cells #[vs aq, vl m n o, vl p q s, vl t u v] 26 (0, 0)) :: (ap, Obj.cells #[vs aF, vl w x y, vl z aa ab, vl ac ad ae] 26 (0, 0)) :: (af, Obj.cells #[vs aH, vl ag ah ai, vl aj ak al, vl am an ao] 26 (0, 0)) :: (aI, Obj.cells #[vs aK, vl aw ax ay, vl az aA aB, vl aC aD aE] 26 (0, 0)) :: F17) ∧ Tri P 14 (#[vp (some (⟨b, 0, none⟩ : Addr)), .agg #[vs aH, vl ag ah ai, vl aj ak al, vl am an ao]]) I17 ((au av) :: (a c) :: (aG, Obj.cells #[vs ar, vl d e f, vl g h i, vl j k l] 26 (0, 0)) :: (aJ, Obj.cells #[vs aq, vl m n o, vl p q s, vl t u v] 26 (0, 0)) :: (ap, Obj.cells #[vs aF, vl w x y, vl z aa ab, vl ac ad ae] 26 (0, 0)) :: (af, Obj.cells #[vs aH, vl ag ah ai, vl aj ak al, vl am an ao] 26 (0, 0)) :: (aI, Obj.cells #[vs aK, vl aw ax ay, vl az aA aB, vl aC aD aE] 26 (0, 0)) :: F17) fun bg I18 G18 => bg = .returned (.tuple #[]) ∧ ∃ F18 : Heap, List.Perm G18 ((au av) :: (a c) :: (aG, Obj.cells #[vs ar, vl d e f, vl g h i, vl j k l] 26 (0, 0)) :: (aJ, Obj.cells #[vs aq, vl m n o, vl p q s, vl t u v] 26 (0, 0)) :: (ap, Obj.cells #[vs aF, vl w x y, vl z aa ab, vl ac ad ae] 26 (0, 0)) :: (af, Obj.cells #[vs aH, vl ag ah ai, vl aj ak al, vl am an ao] 26 (0, 0)) :: (aI, Obj.cells #[vs aK, vl aw ax ay, vl az aA aB, vl aC aD aE] 26 (0, 0)) :: F18) ∧ Tri P 14 (#[vp (some (⟨b, 0, none⟩ : Addr)), .agg #[vs ar, vl d e f, vl g h i, vl j k l]]) I18 ((au av) :: (a c) :: (aG, Obj.cells #[vs ar, vl d e f, vl g h i, vl j k l] 26 (0, 0)) :: (aJ, Obj.cells #[vs aq, vl m n o, vl p q s, vl t u v] 26 (0, 0)) :: (ap, Obj.cells #[vs aF, vl w x y, vl z aa ab, vl ac ad ae] 26 (0, 0)) :: (af, Obj.cells #[vs aH, vl ag ah ai, vl aj ak al, vl am an ao] 26 (0, 0)) :: (aI, Obj.cells #[vs aK, vl aw ax ay, vl az aA aB, vl aC aD aE] 26 (0, 0)) :: F18) fun bh I19 G19 => bh = .returned (.tuple #[]) ∧ ∃ F19 : Heap, List.Perm G19 ((au av) :: (a c) :: (aG, Obj.cells #[vs ar, vl d e f, vl g h i, vl j k l] 26 (0, 0)) :: (aJ, Obj.cells #[vs aq, vl m n o, vl p q s, vl t u v] 26 (0, 0)) :: (ap, Obj.cells #[vs aF, vl w x y, vl z aa ab, vl ac ad ae] 26 (0, 0)) :: (af, Obj.cells #[vs aH, vl ag ah ai, vl aj ak al, vl am an ao] 26 (0, 0)) :: (aI, Obj.cells #[vs aK, vl aw ax ay, vl az aA aB, vl aC aD aE] 26 (0, 0)) :: F19) ∧ Tri P 15 (#[vp (some (⟨b, 0, none⟩ : Addr))]) I19 ((au av) :: (a c) :: (aG, Obj.cells #[vs ar, vl d e f, vl g h i, vl j k l] 26 (0, 0)) :: (aJ, Obj.cells #[vs aq, vl m n o, vl p q s, vl t u v] 26 (0, 0)) :: (ap, Obj.cells #[vs aF, vl w x y, vl z aa ab, vl ac ad ae] 26 (0, 0)) :: (af, Obj.cells #[vs aH, vl ag ah ai, vl aj ak al, vl am an ao] 26 (0, 0)) :: (aI, Obj.cells #[vs aK, vl aw ax ay, vl az aA aB, vl aC aD aE] 26 (0, 0)) :: F19) fun bi I20 G20 => ∃ (a7 : Bool), bi = .returned (vt a7) ∧ ∃ F20 : Heap, List.Perm G20 ((au av) :: (a c) :: (aG, Obj.cells #[vs ar, vl d e f, vl g h i, vl j k l] 26 (0, 0)) :: (aJ, Obj.cells #[vs aq, vl m n o, vl p q s, vl t u v] 26 (0, 0)) :: (ap, Obj.cells #[vs aF, vl w x y, vl z aa ab, vl ac ad ae] 26 (0, 0)) :: (af, Obj.cells #[vs aH, vl ag ah ai, vl aj ak al, vl am an ao] 26 (0, 0)) :: (aI, Obj.cells #[vs aK, vl aw ax ay, vl az aA aB, vl aC aD aE] 26 (0, 0)) :: F20) ∧ Tri P 16 (#[.agg #[vs a4, vl aU aV aW, vl aX aY aZ, vl a0 a1 a2]]) I20 ((au av) :: (a c) :: (aG, Obj.cells #[vs ar, vl d e f, vl g h i, vl j k l] 26 (0, 0)) :: (aJ, Obj.cells #[vs aq, vl m n o, vl p q s, vl t u v] 26 (0, 0)) :: (ap, Obj.cells #[vs aF, vl w x y, vl z aa ab, vl ac ad ae] 26 (0, 0)) :: (af, Obj.cells #[vs aH, vl ag ah ai, vl aj ak al, vl am an ao] 26 (0, 0)) :: (aI, Obj.cells #[vs aK, vl aw ax ay, vl az aA aB, vl aC aD aE] 26 (0, 0)) :: F20) fun bj I21 G21 => ∃ (a6 : Int), bj = .returned (.int .i64 a6) ∧ ∃ F21 : Heap, List.Perm G21 ((au av) :: (a c) :: (aG, Obj.cells #[vs ar, vl d e f, vl g h i, vl j k l] 26 (0, 0)) :: (aJ, Obj.cells #[vs aq, vl m n o, vl p q s, vl t u v] 26 (0, 0)) :: (ap, Obj.cells #[vs aF, vl w x y, vl z aa ab, vl ac ad ae] 26 (0, 0)) :: (af, Obj.cells #[vs aH, vl ag ah ai, vl aj ak al, vl am an ao] 26 (0, 0)) :: (aI, Obj.cells #[vs aK, vl aw ax ay, vl az aA aB, vl aC aD aE] 26 (0, 0)) :: F21) ∧ (((r3 == a6) = true → (((r4 == a5) = true → ((r5 = true → ((r8 = true → ((r9 = true → ((r6 = true → ((r7 = true → Q (.returned (vt a7)) I21 (F21)) ∧ (r7 = false → Q (.returned (vt false)) I21 (F21)))) ∧ (r6 = false → Q (.returned (vt false)) I21 (F21)))) ∧ (r9 = false → Q (.returned (vt false)) I21 (F21)))) ∧ (r8 = false → Q (.returned (vt false)) I21 (F21)))) ∧ (r5 = false → Q (.returned (vt false)) I21 (F21)))) ∧ ((r4 == a5) = false → Q (.returned (vt false)) I21 (F21)))) ∧ ((r3 == a6) = false → Q (.returned (vt false)) I21 (F21)))))))))
theorem law12_TreeChecks.vc {s_0 : Bs} {s_1_a : OA} {s_1_n s_1_c : Nat} {s_2_a : OA} {s_2_n s_2_c : Nat} {s_3_a : OA} {s_3_n s_3_c : Nat} {other_0 : Bs} {other_1_a : OA} {other_1_n other_1_c : Nat} {other_2_a : OA} {other_2_n other_2_c : Nat} {other_3_a : OA} {other_3_n other_3_c : Nat} {I : Imm} {F : Heap} {Q : PostQ}  (h : law12_TreeChecks.V (fun b => (b, Obj.cells #[.string other_0, .slice other_1_a other_1_n other_1_c, .slice other_2_a other_2_n other_2_c, .slice other_3_a other_3_n other_3_c] 26 (0, 0))) (fun b => (b, Obj.cells #[.string s_0, .slice s_1_a s_1_n s_1_c, .slice s_2_a s_2_n s_2_c, .slice s_3_a s_3_n s_3_c] 26 (0, 0))) .string .slice .bool .pointer s_0 s_1_a s_1_n s_1_c s_2_a s_2_n s_2_c s_3_a s_3_n s_3_c other_0 other_1_a other_1_n other_1_c other_2_a other_2_n other_2_c other_3_a other_3_n other_3_c I F Q) : Tri P 3 #[.agg #[.string s_0, .slice s_1_a s_1_n s_1_c, .slice s_2_a s_2_n s_2_c, .slice s_3_a s_3_n s_3_c], .agg #[.string other_0, .slice other_1_a other_1_n other_1_c, .slice other_2_a other_2_n other_2_c, .slice other_3_a other_3_n other_3_c]] I (F) Q :=
  tv (A := (annL [4001, 4003, 4006, 24003, 24007, 24010, 24013, 24016, 24019, 24022] [] [4, 5, 6, 7, 8, 9, 10, 11, 12, 13, 14, 15, 16] shT_lTreeChecks [] [] [19001] [] [] [] [])) (args := [.a (.v (.agg #[.string s_0, .slice s_1_a s_1_n s_1_c, .slice s_2_a s_2_n s_2_c, .slice s_3_a s_3_n s_3_c])), .a (.v (.agg #[.string other_0, .slice other_1_a other_1_n other_1_c, .slice other_2_a other_2_n other_2_c, .slice other_3_a other_3_n other_3_c]))]) (own := []) (keep := []) [4, 5, 6, 7, 8, 9, 10, 11, 12, 13, 14, 15, 16] Go.Proofs.Tryz.func3 h
end Go.Lx
namespace Go.Lx
open Go.Vc
theorem Bk.out {b : Nat} {rw : Nat → Row} {rs : RK} {R F O R1 : Heap} (h : Bk b rw rs R F) (hR : R.Perm (O ++ R1)) : ∃ F', F.Perm (O ++ F') := by
  obtain ⟨_, A, hA, hp⟩ := h
  refine ⟨(b, Obj.cells (treeCells rw) 47 (0, 0)) :: arrs A R1, hp.trans (perm_of fun z => ?_)⟩
  have q := cn_perm hR z
  unfold arrs
  simp only [cn_app, cn_cons] at q ⊢
  omega
set_option maxHeartbeats 1000000 in
theorem TreeChecks_spec (s u : StgN) (hss : s.p.Short) (hsu : u.p.Short) (I : Imm) (F : Heap) (hs : s.Ok I F) (hu : u.Ok I F) : Tri P 3 #[s.v, u.v] I F fun e I' G => e = .returned (.bool true) := by
  refine law12_TreeChecks.vc ?_
  unfold law12_TreeChecks.V
  intro b_s b_other
  have oks : ∀ {J : Imm} {G : Heap}, Imm.le I J → (∀ a, a ∈ F → a ∈ G) → s.Ok J G := fun hl h => hs.mono hl h
  have oku : ∀ {J : Imm} {G : Heap}, Imm.le I J → (∀ a, a ∈ F → a ∈ G) → u.Ok J G := fun hl h => hu.mono hl h
  refine Tri.ret (awake_spec I _) fun I1 l1 => ⟨_, rfl, F, .refl _, ?_⟩
  refine (far_spec s hss I1 _ (oks l1 fun a ha => by simp only [List.mem_cons, List.mem_append]; simp only [ha, true_or, or_true])).mono fun e I2 G h2 ⟨r1, he, hG, f1⟩ => ?_
  subst hG
  refine ⟨_, he, F, .refl _, ?_⟩
  have l2 := Imm.le_trans l1 h2
  refine (far_spec u hsu I2 _ (oku l2 fun a ha => by simp only [List.mem_cons, List.mem_append]; simp only [ha, true_or, or_true])).mono fun e I3 G h3 ⟨r2, he, hG, f2⟩ => ?_
  subst hG
  refine ⟨_, he, F, .refl _, ?_⟩
  have l3 := Imm.le_trans l2 h3
  refine ⟨fun h => by (cases h), fun _ => ⟨fun _ => rfl, fun e1 => ⟨fun _ => rfl, fun e2 => ?_⟩⟩⟩
  have ls := f1 e1
  have lu := f2 e2
  clear f1 f2
  refine (lendStg_spec s ls I3 _ (oks l3 fun a ha => by simp only [List.mem_cons, List.mem_append]; simp only [ha, true_or, or_true])).mono fun e I4 G h4 ⟨x, Hx, he, px, hOx, hG⟩ => ?_
  have l4 := Imm.le_trans l3 h4
  refine ⟨_, _, _, _, _, _, _, _, _, _, he, Hx ++ F, hG.trans (perm_of fun z => by simp only [cn_app, cn_cons, cn_nil]; omega), fun b_x => ?_⟩
  refine (lendStg_spec u lu I4 _ (oku l4 fun a ha => by simp only [List.mem_cons, List.mem_append]; simp only [ha, true_or, or_true])).mono fun e I5 G h5 ⟨y, Hy, he, py, hOy, hG⟩ => ?_
  have l5 := Imm.le_trans l4 h5
  refine ⟨_, _, _, _, _, _, _, _, _, _, he, Hy ++ (Hx ++ F), hG.trans (perm_of fun z => by simp only [cn_app, cn_cons, cn_nil]; omega), fun b_y => ?_⟩
  have lx : x.p.Light := by rw [px]; exact ls
  have hsx : x.p.Short := by rw [px]; exact hss
  have ly : y.p.Light := by rw [py]; exact lu
  have hsy : y.p.Short := by rw [py]; exact hsu
  refine Tri.ret (Check_spec x lx.small lx.lens I5 _ (hOx.ok fun a ha => by simp only [List.mem_cons, List.mem_append]; simp only [ha, true_or, or_true])) fun I6 h6 => ⟨_, rfl, Hy ++ (Hx ++ F), .refl _, ?_⟩
  refine (Same_spec x y lx I6 _ (hOx.ok fun a ha => by simp only [List.mem_cons, List.mem_append]; simp only [ha, true_or, or_true]) (hOy.ok fun a ha => by simp only [List.mem_cons, List.mem_append]; simp only [ha, true_or, or_true])).mono fun e I7 G h7 ⟨he, g1, hG⟩ => ?_
  refine ⟨_, he, g1 ++ (Hy ++ (Hx ++ F)), hG.trans (perm_of fun z => by simp only [cn_app, cn_cons, cn_nil]; omega), ?_⟩
  refine (Same_spec x x lx I7 _ (hOx.ok fun a ha => by simp only [List.mem_cons, List.mem_append]; simp only [ha, true_or, or_true]) (hOx.ok fun a ha => by simp only [List.mem_cons, List.mem_append]; simp only [ha, true_or, or_true])).mono fun e I8 G h8 ⟨he, g2, hG⟩ => ?_
  refine ⟨_, he, g2 ++ (g1 ++ (Hy ++ (Hx ++ F))), hG.trans (perm_of fun z => by simp only [cn_app, cn_cons, cn_nil]; omega), ?_⟩
  have l8 := Imm.le_trans l5 (Imm.le_trans h6 (Imm.le_trans h7 h8))
  refine (Bare_spec x lx I8 _ (hOx.ok fun a ha => by simp only [List.mem_cons, List.mem_append]; simp only [ha, true_or, or_true])).mono fun e I9 G h9 ⟨w, Hw, he, pw, hOw, hG⟩ => ?_
  have l9 := Imm.le_trans l8 h9
  refine ⟨_, _, _, _, _, _, _, _, _, _, he, Hw ++ (g2 ++ (g1 ++ (Hy ++ (Hx ++ F)))), hG.trans (perm_of fun z => by simp only [cn_app, cn_cons, cn_nil]; omega), fun b_bare => ?_⟩
  refine (Bare_spec x lx I9 _ (hOx.ok fun a ha => by simp only [List.mem_cons, List.mem_append]; simp only [ha, true_or, or_true])).mono fun e I10 G h10 ⟨v, Hv, he, pv, hOv, hG⟩ => ?_
  have l10 := Imm.le_trans l9 h10
  refine ⟨_, _, _, _, _, _, _, _, _, _, he, Hv ++ (Hw ++ (g2 ++ (g1 ++ (Hy ++ (Hx ++ F))))), hG.trans (perm_of fun z => by simp only [cn_app, cn_cons, cn_nil]; omega), fun b_again => ?_⟩
  refine Tri.ret (wholeStg_spec (u := s) lx hsx px hOx fun a ha => by simp only [List.mem_cons, List.mem_append]; simp only [ha, true_or, or_true] (oks l10 fun a ha => by simp only [List.mem_cons, List.mem_append]; simp only [ha, true_or, or_true])) fun I11 h11 => ⟨_, rfl, Hv ++ (Hw ++ (g2 ++ (g1 ++ (Hy ++ (Hx ++ F))))), .refl _, ?_⟩
  have l11 := Imm.le_trans l10 h11
  refine Tri.ret (wholeStg_spec (u := u) ly hsy py hOy fun a ha => by simp only [List.mem_cons, List.mem_append]; simp only [ha, true_or, or_true] (oku l11 fun a ha => by simp only [List.mem_cons, List.mem_append]; simp only [ha, true_or, or_true])) fun I12 h12 => ⟨_, rfl, Hv ++ (Hw ++ (g2 ++ (g1 ++ (Hy ++ (Hx ++ F))))), .refl _, ?_⟩
  have l12 := Imm.le_trans l11 h12
  refine (bareStg_spec s ls I12 _ (oks l12 fun a ha => by simp only [List.mem_cons, List.mem_append]; simp only [ha, true_or, or_true])).mono fun e I13 G h13 ⟨z, Hz, he, pz, hOz, hG⟩ => ?_
  have l13 := Imm.le_trans l12 h13
  refine ⟨_, _, _, _, _, _, _, _, _, _, he, Hz ++ (Hv ++ (Hw ++ (g2 ++ (g1 ++ (Hy ++ (Hx ++ F)))))), hG.trans (perm_of fun z => by simp only [cn_app, cn_cons, cn_nil]; omega), fun b_want => ?_⟩
  have hpw : w.p = z.p := by rw [pw, pz, px]
  have hpv : v.p = z.p := by rw [pv, pz, px]
  have hsw : w.p.Short := by rw [pw]; exact hsx.bare
  have hsv : v.p.Short := by rw [pv]; exact hsx.bare
  refine Tri.ret (sameStg_spec w z hsw I13 _ (hOw.ok fun a ha => by simp only [List.mem_cons, List.mem_append]; simp only [ha, true_or, or_true]) (hOz.ok fun a ha => by simp only [List.mem_cons, List.mem_append]; simp only [ha, true_or, or_true])) fun I14 h14 => ⟨_, rfl, Hz ++ (Hv ++ (Hw ++ (g2 ++ (g1 ++ (Hy ++ (Hx ++ F)))))), .refl _, ?_⟩
  refine Tri.ret (sameStg_spec v z hsv I14 _ (hOv.ok fun a ha => by simp only [List.mem_cons, List.mem_append]; simp only [ha, true_or, or_true]) (hOz.ok fun a ha => by simp only [List.mem_cons, List.mem_append]; simp only [ha, true_or, or_true])) fun I15 h15 => ⟨_, rfl, Hz ++ (Hv ++ (Hw ++ (g2 ++ (g1 ++ (Hy ++ (Hx ++ F)))))), .refl _, ?_⟩
  have l15 := Imm.le_trans l13 (Imm.le_trans h14 h15)
  refine (likeStg_spec s u hss ls lu I15 _ (oks l15 fun a ha => by simp only [List.mem_cons, List.mem_append]; simp only [ha, true_or, or_true]) (oku l15 fun a ha => by simp only [List.mem_cons, List.mem_append]; simp only [ha, true_or, or_true])).mono fun e I16 G h16 ⟨he, g3, hG⟩ => ?_
  have l16 := Imm.le_trans l15 h16
  refine ⟨_, he, g3 ++ (Hz ++ (Hv ++ (Hw ++ (g2 ++ (g1 ++ (Hy ++ (Hx ++ F))))))), hG.trans (perm_of fun z => by simp only [cn_app, cn_cons, cn_nil]; omega), fun b => ?_⟩
  have lw : w.p.Light := by rw [pw]; exact lx.bare
  have lv : v.p.Light := by rw [pv]; exact lx.bare
  have cw := StgN.cap w
  have cv := StgN.cap v
  have cx := StgN.cap x
  have mw := lw.all
  have mv := lv.all
  have mx := lx.all
  have mw0 : (0 : Int) ≤ w.p.mass + 3 := by have := cw 0; omega
  have mv0 : (0 : Int) ≤ v.p.mass + 3 := by have := cv 0; omega
  refine (TreesStg_spec w lw (b := b) (R := [(b_s, Obj.cells #[.string s.name, .slice s.ra s.regs.length s.rc, .slice s.sa s.slots.length s.sc, .slice s.ta s.states.length s.tc] 26 (0, 0)), (b_other, Obj.cells #[.string u.name, .slice u.ra u.regs.length u.rc, .slice u.sa u.slots.length u.sc, .slice u.ta u.states.length u.tc] 26 (0, 0)), (b_x, Obj.cells #[.string x.name, .slice x.ra x.regs.length x.rc, .slice x.sa x.slots.length x.sc, .slice x.ta x.states.length x.tc] 26 (0, 0)), (b_y, Obj.cells #[.string y.name, .slice y.ra y.regs.length y.rc, .slice y.sa y.slots.length y.sc, .slice y.ta y.states.length y.tc] 26 (0, 0)), (b_bare, Obj.cells #[.string w.name, .slice w.ra w.regs.length w.rc, .slice w.sa w.slots.length w.sc, .slice w.ta w.states.length w.tc] 26 (0, 0)), (b_again, Obj.cells #[.string v.name, .slice v.ra v.regs.length v.rc, .slice v.sa v.slots.length v.sc, .slice v.ta v.states.length v.tc] 26 (0, 0)), (b_want, Obj.cells #[.string z.name, .slice z.ra z.regs.length z.rc, .slice z.sa z.slots.length z.sc, .slice z.ta z.states.length z.tc] 26 (0, 0))] ++ (g3 ++ (Hz ++ (Hv ++ (Hw ++ (g2 ++ (g1 ++ (Hy ++ (Hx ++ F))))))))) (Bk.nil (show List.Perm ((b_s, Obj.cells #[.string s.name, .slice s.ra s.regs.length s.rc, .slice s.sa s.slots.length s.sc, .slice s.ta s.states.length s.tc] 26 (0, 0)) :: (b_other, Obj.cells #[.string u.name, .slice u.ra u.regs.length u.rc, .slice u.sa u.slots.length u.sc, .slice u.ta u.states.length u.tc] 26 (0, 0)) :: (b_x, Obj.cells #[.string x.name, .slice x.ra x.regs.length x.rc, .slice x.sa x.slots.length x.sc, .slice x.ta x.states.length x.tc] 26 (0, 0)) :: (b_y, Obj.cells #[.string y.name, .slice y.ra y.regs.length y.rc, .slice y.sa y.slots.length y.sc, .slice y.ta y.states.length y.tc] 26 (0, 0)) :: (b_bare, Obj.cells #[.string w.name, .slice w.ra w.regs.length w.rc, .slice w.sa w.slots.length w.sc, .slice w.ta w.states.length w.tc] 26 (0, 0)) :: (b_again, Obj.cells #[.string v.name, .slice v.ra v.regs.length v.rc, .slice v.sa v.slots.length v.sc, .slice v.ta v.states.length v.tc] 26 (0, 0)) :: (b_want, Obj.cells #[.string z.name, .slice z.ra z.regs.length z.rc, .slice z.sa z.slots.length z.sc, .slice z.ta z.states.length z.tc] 26 (0, 0)) :: ((b, Obj.cells (treeCells fun _ => noRow) 47 (0, 0)) :: (g3 ++ (Hz ++ (Hv ++ (Hw ++ (g2 ++ (g1 ++ (Hy ++ (Hx ++ F)))))))))) _ from (perm_of fun z => by simp only [cn_app, cn_cons, cn_nil]; omega))) Cap.z (Int.le_refl _) (by decide) I16 (hOw.ok fun a ha => by simp only [List.mem_cons, List.mem_append]; simp only [ha, true_or, or_true])).mono fun e I17 G h17 ⟨he, rw1, B1⟩ => ?_
  obtain ⟨F17, p17⟩ := B1.out (.refl _)
  refine ⟨he, F17, p17, ?_⟩
  refine (TreesStg_spec v lv (B1.perm p17.symm) (Cap.z.add cw) (by omega) (by omega) I17 (hOv.ok fun a ha => by simp only [List.mem_cons, List.mem_append]; simp only [ha, true_or, or_true])).mono fun e I18 G h18 ⟨he, rw2, B2⟩ => ?_
  obtain ⟨F18, p18⟩ := B2.out (.refl _)
  refine ⟨he, F18, p18, ?_⟩
  refine (TreesStg_spec x lx (B2.perm p18.symm) ((Cap.z.add cw).add cv) (by omega) (by omega) I18 (hOx.ok fun a ha => by simp only [List.mem_cons, List.mem_append]; simp only [ha, true_or, or_true])).mono fun e I19 G h19 ⟨he, rw3, B3⟩ => ?_
  obtain ⟨F19, p19⟩ := B3.out (.refl _)
  refine ⟨he, F19, p19, ?_⟩
  have cc := ((Cap.z.add cw).add cv).add cx
  refine ((B3.perm p19.symm).own (H := ([] ++ Hw) ++ Hv ++ Hx) (F' := (b_s, Obj.cells #[.string s.name, .slice s.ra s.regs.length s.rc, .slice s.sa s.slots.length s.sc, .slice s.ta s.states.length s.tc] 26 (0, 0)) :: (b_other, Obj.cells #[.string u.name, .slice u.ra u.regs.length u.rc, .slice u.sa u.slots.length u.sc, .slice u.ta u.states.length u.tc] 26 (0, 0)) :: (b_x, Obj.cells #[.string x.name, .slice x.ra x.regs.length x.rc, .slice x.sa x.slots.length x.sc, .slice x.ta x.states.length x.tc] 26 (0, 0)) :: (b_y, Obj.cells #[.string y.name, .slice y.ra y.regs.length y.rc, .slice y.sa y.slots.length y.sc, .slice y.ta y.states.length y.tc] 26 (0, 0)) :: (b_bare, Obj.cells #[.string w.name, .slice w.ra w.regs.length w.rc, .slice w.sa w.slots.length w.sc, .slice w.ta w.states.length w.tc] 26 (0, 0)) :: (b_again, Obj.cells #[.string v.name, .slice v.ra v.regs.length v.rc, .slice v.sa v.slots.length v.sc, .slice v.ta v.states.length v.tc] 26 (0, 0)) :: (b_want, Obj.cells #[.string z.name, .slice z.ra z.regs.length z.rc, .slice z.sa z.slots.length z.sc, .slice z.ta z.states.length z.tc] 26 (0, 0)) :: (g3 ++ (Hz ++ (g2 ++ (g1 ++ (Hy ++ F)))))) (perm_of fun z => by simp only [cn_app, cn_cons, cn_nil]; omega) (((HasK.z.add (hOw.has lw)).add (hOv.has lv)).add (hOx.has lx)) (fun k => by have := cc k; omega) I19).mono fun e I20 G h20 ⟨he, hG⟩ => ?_
  subst hG
  have l20 := Imm.le_trans l16 (Imm.le_trans (Imm.le_trans h17 h18) (Imm.le_trans h19 h20))
  refine ⟨_, he, g3 ++ (Hz ++ (g2 ++ (g1 ++ (Hy ++ F)))), .refl _, ?_⟩
  refine Tri.ret (rCheck_spec s ls I20 _ (oks l20 fun a ha => by simp only [List.mem_cons, List.mem_append]; simp only [ha, true_or, or_true])) fun I21 h21 => ⟨_, rfl, g3 ++ (Hz ++ (g2 ++ (g1 ++ (Hy ++ F)))), .refl _, ?_⟩
  rw [px, py, hpw, hpv, StgP.same_self, StgP.like_self]
  exact ⟨fun _ => ⟨fun _ => ⟨fun _ => ⟨fun _ => ⟨fun _ => ⟨fun _ => ⟨fun _ => rfl, fun h => by (cases h)⟩, fun h => by (cases h)⟩, fun h => by (cases h)⟩, fun h => by (cases h)⟩, fun h => by (cases h)⟩, fun h => by simp at h⟩, fun h => by simp at h⟩
end Go.Lx
namespace Go.Vc
open Go.ChangeShapes Go.WideShapes Go.ChangeAt Go.RowKit
def Imm.all (w : World) : Imm := ⟨fun b => w.heap[b]?, w.os, w.output⟩
theorem Sat.all (w : World) : Sat (Imm.all w) [] w := ⟨fun _ _ h => h, fun _ _ h => by simp at h, fun _ _ h => by simp at h, List.nodup_nil, rfl, rfl⟩
structure Stays (w w' : World) : Prop where
  heap : ∀ i, i < w.heap.size → w'.heap[i]? = w.heap[i]?
  os : w'.os = w.os
  out : w'.output = w.output
theorem Stays.of {w w' : World} {I : Imm} {F : Heap} (hl : Imm.le (Imm.all w) I) (hs : Sat I F w') : Stays w w' := by
  refine ⟨fun i hi => ?_, hs.env.1.trans hl.2.1, hs.env.2.trans hl.2.2⟩
  obtain ⟨o, ho⟩ : ∃ o, w.heap[i]? = some o := ⟨_, Array.getElem?_eq_getElem hi⟩
  rw [ho]
  exact hs.imm _ _ (hl.1 i o ho)
theorem Stays.kept {w w' : World} (h : Stays w w') (may : MemPlace → Prop) : w.keptBut w' may := by
  refine ⟨h.os, h.out, fun i hi => ?_⟩
  rw [h.heap i hi]
  cases w.heap[i]? with
  | none => rfl
  | some o => cases o with
    | cells c t fr => exact ⟨rfl, rfl, rfl, fun _ _ => rfl⟩
    | map es clock => exact .inr ⟨rfl, rfl⟩
    | _ => rfl
theorem Stays.frozen {w w' : World} (h : Stays w w') {a : Addr} (ha : a.block < w.heap.size) : w'.frozen? a = w.frozen? a := by
  unfold World.frozen?; rw [h.heap _ ha]
theorem post_stays {H : Type} {enc : TypeId × Value → H} {P : Program} {f : Func} {s : ChangeSpec} {apart fresh handsOn again : Bool} {W W' : World} {args : Array Value} {v : Value} {ds gs : List (DataW H)} {before pa pv : List MemPlace}
    (hW : DataW.Whole enc P f.params.toList s.vars apart W args.toList ds gs before)
    (hres : ∀ (b : Nat) (sp : Nat → Bool) (hd : Bool), DataW.TrodAll enc P W' b sp hd f.resultTypes.toList (v.resultList f.resultTypes.size) (s.fn H (ds ++ gs)).results [])
    (hargs : ∀ sp : Nat → Bool, (∀ p ∈ before, sp p.block = true) → DataW.TrodAll enc P W' 0 sp true f.params.toList args.toList (s.fn H (ds ++ gs)).args pa)
    (hvars : ∀ sp : Nat → Bool, (∀ p ∈ before, sp p.block = true) → DataW.TrodVars enc P W' sp s.vars (s.fn H (ds ++ gs)).vars pv)
    (hps : before = pa ++ pv) (hk : Stays W W')
    (hok : ∀ (j : Nat) (t : TypeId) (r : Value), f.resultTypes[j]? = some t → (v.resultList f.resultTypes.size)[j]? = some r → Value.okWide P W' .any 0 t r) :
    s.post enc P f apart fresh handsOn again W args v W' := by
  have hold : ∀ p ∈ before, (fun b => decide (b < W.heap.size)) p.block = true := fun p hp => by simpa using hW.lt p hp
  have hlt : ∀ p ∈ before, p.block < W.heap.size := fun p hp => hW.lt p hp
  refine ⟨ds, gs, before, [], pa, pv, hW, hres _ _ _, hargs _ hold, hvars _ hold, World.keptBut_mono (fun p hp => ⟨hp, ?_⟩) (hk.kept (· ∈ before)), fun _ => ?_⟩
  · rw [hps, List.mem_append] at hp
    exact Or.inr hp
  · obtain ⟨_, _, _, _, _, hz, hn⟩ := hW
    refine ⟨hok, _, _, ([] ++ pa) ++ pv, ⟨[] ++ pa, pv, trodAll_append (hargs _ (fun _ _ => rfl)) (hres _ _ _), hvars _ (fun _ _ => rfl), rfl, ?_, ?_⟩, ?_⟩
    · intro b off hp
      have hp' : MemPlace.cell b off ∈ before := by rw [hps]; simpa using hp
      rw [hk.frozen (hlt _ hp')]
      exact hz b off hp'
    · intro ha
      have := hn ha
      rw [hps] at this
      simpa using this
    · intro p hp _
      rw [hps]
      simpa using hp
end Go.Vc
namespace Go.Vc
open Go.ChangeShapes Go.WideShapes Go.ChangeAt Go.RowKit
theorem Stays.cell {w w' : World} (h : Stays w w') {a : Addr} (ha : a.block < w.heap.size) : w'.cell? a = w.cell? a := by
  unfold World.cell?; rw [h.heap _ ha]
theorem Stays.same {w w' : World} (h : Stays w w') {p : MemPlace} (hp : p.block < w.heap.size) : w.sameAt w' p := by
  cases p with
  | cell b off => exact h.cell (a := ⟨b, off, none⟩) hp
  | map b => exact h.heap b hp
theorem trodAll_stays {H : Type} {enc : TypeId × Value → H} {P : Program} {T : TypeId → Prop} {w w' : World} (K : Kids P T) (hsz : ∀ {t e : TypeId}, T t → P.underlying t = some (.slice e) → 0 < P.cellsOf e) (st : Stays w w') {sp' : Nat → Bool} :
    ∀ {ts : List TypeId} {vs : List Value} {ds : List (DataW H)} {ps : List MemPlace}, (∀ t ∈ ts, T t) → DataW.TrodAll enc P w 0 (fun _ => true) true ts vs ds ps → (∀ p ∈ ps, sp' p.block = true) → DataW.TrodAll enc P w' 0 sp' true ts vs ds ps
  | [], [], [], ps, _, h, _ => h
  | t :: ts, v :: vs, d :: ds, ps, ht, ⟨p, q, ⟨n, h1⟩, h2, e⟩, hs => by
    subst e
    have hlt : ∀ x ∈ p, x.block < w.heap.size := DataW.trod_lt n t v.cells.toList (d, p) h1
    refine ⟨p, q, ⟨n, ?_⟩, trodAll_stays K hsz st (fun t' ht' => ht t' (List.mem_cons_of_mem _ ht')) h2 (fun x hx => hs x (List.mem_append_right _ hx)), rfl⟩
    exact DataW.trod_stays K hsz (fun h => by cases h) (ht t (List.mem_cons_self ..)) h1 (fun x hx => st.same (hlt x hx)) (fun x hx => hs x (List.mem_append_left _ hx))
  | [], _ :: _, _, _, _, h, _ => h.elim
  | [], [], _ :: _, _, _, h, _ => h.elim
  | _ :: _, [], _, _, _, h, _ => h.elim
  | _ :: _, _ :: _, [], _, _, h, _ => h.elim
end Go.Vc
namespace Go.Vc
open Go.ChangeShapes Go.WideShapes Go.ChangeAt Go.RowKit
theorem list_choice {α : Type} {p : Nat → α → Prop} : ∀ (n : Nat), (∀ i, i < n → ∃ x, p i x) → ∃ l : List α, l.length = n ∧ ∀ (i : Nat) (x : α), l[i]? = some x → p i x
  | 0, _ => ⟨[], rfl, fun i x h => by simp at h⟩
  | n + 1, h => by
    obtain ⟨l, hl, hp⟩ := list_choice n fun i hi => h i (by omega)
    obtain ⟨x, hx⟩ := h n (by omega)
    refine ⟨l ++ [x], by simp [hl], fun i y hy => ?_⟩
    rw [List.getElem?_append] at hy
    split at hy
    · exact hp i y hy
    · rename_i hi
      have : i - l.length = 0 := by
        rcases Nat.eq_zero_or_pos (i - l.length) with h | h
        · exact h
        · rw [List.getElem?_eq_none (by simp; omega)] at hy; cases hy
      rw [this] at hy
      simp only [List.getElem?_cons_zero, Option.some.injEq] at hy
      subst hy
      have : i = n := by omega
      rw [this]; exact hx
theorem Rd.of_row {W : World} {ad : Addr} {n : Nat} {cs : List Value} {base : Nat} (h : W.cells? base ad n = some cs) (hn : 0 < n) (G : Heap) : ad.spot = none → Rd (Imm.all W) G ad cs := by
  intro hsp
  obtain ⟨_, hl, hc⟩ := World.cells?_some h
  have h0 : W.cell? ad = cs[0]? := by have := hc 0 hn; rwa [show ad.add 0 = ad from rfl] at this
  have hlen : cs.length = n := hl
  unfold World.cell? at h0
  cases hb : W.heap[ad.block]? with
  | none => rw [hb] at h0; simp only at h0; rw [List.getElem?_eq_getElem (by omega)] at h0; cases h0
  | some o =>
    cases o with
    | cells c e fz =>
      refine ⟨hsp, c, e, fz, .inl hb, fun j hj => ?_⟩
      have h1 := hc j (by omega)
      have hadd : ad.add j = ⟨ad.block, ad.off + j, none⟩ := by
        obtain ⟨b, off, sp⟩ := ad
        simp only at hsp; subst hsp
        unfold Addr.add; split <;> simp_all
      rw [hadd] at h1
      unfold World.cell? at h1
      simp only [hb] at h1
      simpa using h1
    | _ => rw [hb] at h0; simp only at h0; rw [List.getElem?_eq_getElem (by omega)] at h0; cases h0
end Go.Vc
namespace Go.Vc
open Go.ChangeShapes Go.WideShapes Go.ChangeAt Go.RowKit
def Opens {H α : Type} (en : TypeId × Value → H) (P : Program) (W : World) (sp : Nat → Bool) (hd : Bool) (n : Nat) (t : TypeId) (f : α → List Value) (R S : α → Prop) : Prop :=
  ∀ cs d ps, DataW.trod en P W 0 sp hd n t cs = some (d, ps) → ∃ x, cs = f x ∧ R x ∧ ((∀ m ∈ d.weights P t, m ≤ reachBytes) → S x)
def OpensF {H α : Type} (en : TypeId × Value → H) (P : Program) (W : World) (sp : Nat → Bool) (hd : Bool) (n : Nat) (z : Nat) (fs : List (TypeId × Nat)) (o : Nat) (f : α → List Value) (R S : α → Prop) : Prop :=
  ∀ (cs : List Value) (xs : List (DataW H × List MemPlace)), (fs.mapM fun p => DataW.trod en P W 0 sp hd n p.1 ((cs.drop p.2).take (P.cellsOf p.1))) = some xs → cs.length = z → ∃ x, cs.drop o = f x ∧ R x ∧ ((∀ m ∈ DataW.weightsEach P (fs.map Prod.fst) (xs.map Prod.fst), m ≤ reachBytes) → S x)
def structB (P : Program) (t : TypeId) (l : List (TypeId × Nat)) (z : Nat) : Bool := match P.underlying t with
  | some (.struct fs) => (fs.toList.map fun f => (f.type, f.offset)) == l && P.cellsOf t == z
  | _ => false
theorem mapM_via {α β γ : Type} (h : α → β) (g : β → Option γ) : ∀ l : List α, (l.map h).mapM g = l.mapM fun x => g (h x)
  | [] => rfl
  | x :: l => by simp [List.mapM_cons, mapM_via h g l]
section
variable {H : Type} {en : TypeId × Value → H} {P : Program} {W : World} {sp : Nat → Bool} {hd : Bool} {n : Nat}
theorem OpensF.nil {z : Nat} : OpensF en P W sp hd n z [] z (fun _ : Unit => []) (fun _ => True) (fun _ => True) := by
  intro cs xs h hl
  exact ⟨(), List.drop_eq_nil_of_le (by omega), trivial, fun _ => trivial⟩
theorem OpensF.cons {α β : Type} {z o k : Nat} {t : TypeId} {fs : List (TypeId × Nat)} {f : α → List Value} {g : β → List Value} {R S : α → Prop} {R' S' : β → Prop} (h : Opens en P W sp hd n t f R S) (hc : P.cellsOf t = k)
    (hs : OpensF en P W sp hd n z fs (o + k) g R' S') : OpensF en P W sp hd n z ((t, o) :: fs) o (fun x : α × β => f x.1 ++ g x.2) (fun x => R x.1 ∧ R' x.2) (fun x => S x.1 ∧ S' x.2) := by
  intro cs xs hm hl
  rw [List.mapM_cons] at hm
  cases h0 : DataW.trod en P W 0 sp hd n t ((cs.drop o).take (P.cellsOf t)) with
  | none => simp [h0] at hm
  | some x0 =>
    cases h1 : (fs.mapM fun p => DataW.trod en P W 0 sp hd n p.1 ((cs.drop p.2).take (P.cellsOf p.1))) with
    | none => simp [h0, h1] at hm
    | some ys =>
      simp [h0, h1] at hm
      subst hm
      obtain ⟨d0, p0⟩ := x0
      obtain ⟨x, e1, r1, s1⟩ := h _ _ _ h0
      obtain ⟨y, e2, r2, s2⟩ := hs _ _ h1 hl
      refine ⟨(x, y), ?_, ⟨r1, r2⟩, fun hw => ⟨s1 fun m hm => hw m ?_, s2 fun m hm => hw m ?_⟩⟩
      · show cs.drop o = f x ++ g y
        rw [← e1, ← e2, hc, ← List.drop_drop, List.take_append_drop]
      · simp only [List.map_cons, DataW.weightsEach, List.mem_append]; exact .inl hm
      · simp only [List.map_cons, DataW.weightsEach, List.mem_append]; exact .inr hm
theorem Opens.struct {α : Type} {z : Nat} {t : TypeId} {fs : List (TypeId × Nat)} {f : α → List Value} {R S : α → Prop} (ht : structB P t fs z = true) (h : OpensF en P W sp hd n z fs 0 f R S) : Opens en P W sp hd (n + 1) t f R S := by
  intro cs d ps hr
  unfold structB at ht
  split at ht
  · rename_i gs hg
    simp only [Bool.and_eq_true, beq_iff_eq] at ht
    obtain ⟨ht, hz⟩ := ht
    simp only [DataW.trod, hg] at hr
    split at hr
    · rename_i hl
      rw [hz] at hl
      cases hm : gs.toList.mapM fun f => DataW.trod en P W 0 sp hd n f.type ((cs.drop f.offset).take (P.cellsOf f.type)) with
      | none => rw [hm] at hr; cases hr
      | some xs =>
        rw [hm] at hr
        simp only [Option.map_some, Option.some.injEq, Prod.mk.injEq] at hr
        have hm' : (fs.mapM fun p => DataW.trod en P W 0 sp hd n p.1 ((cs.drop p.2).take (P.cellsOf p.1))) = some xs := by rw [← ht, mapM_via]; exact hm
        obtain ⟨x, e, r, s⟩ := h cs xs hm' hl
        refine ⟨x, by simpa using e, r, fun hw => s fun m hmm => hw m ?_⟩
        rw [← hr.1]
        simp only [DataW.weights, hg]
        have : gs.toList.map (fun f => f.type) = fs.map Prod.fst := by rw [← ht, List.map_map]; rfl
        rw [this]; exact hmm
    · cases hr
  · cases ht
theorem Opens.map {α β : Type} {t : TypeId} {f : α → List Value} {g : β → List Value} {R S : α → Prop} {R' S' : β → Prop} (h : Opens en P W sp hd n t f R S) (φ : α → β) (hf : ∀ x, R x → f x = g (φ x)) (hr : ∀ x, R x → R' (φ x)) (hs : ∀ x, R x → S x → S' (φ x)) : Opens en P W sp hd n t g R' S' := by
  intro cs d ps hd
  obtain ⟨x, e, r, s⟩ := h cs d ps hd
  exact ⟨φ x, e.trans (hf x r), hr x r, fun hw => hs x r (s hw)⟩
theorem Opens.int {k : IntKind} {t : TypeId} (ht : P.underlying t = some (.int k)) : Opens en P W sp hd n t (fun x : Int => [.int k x]) (fun x => (Lit.int k x).wf = true) (fun _ => True) := by
  intro cs d ps h
  obtain ⟨x, e, _, hw⟩ := DataW.trod_int ht h
  exact ⟨x, e, hw, fun _ => trivial⟩
theorem Opens.str {t : TypeId} (ht : P.underlying t = some .string) : Opens en P W sp hd n t (fun x : ByteArray => [.string x]) (fun x => x.size ≤ maxLen) (fun x => x.size ≤ reachBytes) := by
  intro cs d ps h
  obtain ⟨s, e, hx, hl⟩ := DataW.trod_string ht h
  refine ⟨s, e, hl, fun hw => ?_⟩
  simp only [Prod.mk.injEq] at hx
  have := hw s.data.toList.length (by rw [hx.1]; simp [DataW.weights])
  simpa using this
structure SlV (β : Type) where
  a : Option Addr
  n : Nat
  c : Nat
  l : List β
theorem Opens.slice {β : Type} {z by' : Nat} {t e : TypeId} {f : β → List Value} {R S : β → Prop} (ht : P.underlying t = some (.slice e)) (hc : P.cellsOf e = z) (hz : 0 < z) (hb : P.bytesOf e = by') (hb1 : 1 ≤ by') (hf : ∀ x, (f x).length = z) (h : Opens en P W sp hd n e f R S) :
    Opens en P W sp hd (n + 1) t (fun s : SlV β => [.slice s.a s.n s.c]) (fun s => SlG (Imm.all W) [] z f s.a s.n s.l ∧ ∀ x ∈ s.l, R x) (fun s => s.l.length ≤ reachBytes ∧ ∀ x ∈ s.l, S x) := by
  intro cs d ps hr
  rcases DataW.trod_slice ht hr with ⟨h1, h2⟩ | ⟨ad, len, cap, elems, rest, n', hn, hcs, hx, _, _, _, hlen, hel, _, _⟩
  · exact ⟨⟨none, 0, 0, []⟩, h1, ⟨⟨rfl, fun h => absurd rfl h⟩, fun x hx => by cases hx⟩, fun _ => ⟨by simp, fun x hx => by cases hx⟩⟩
  · cases hn
    simp only [Prod.mk.injEq] at hx
    obtain ⟨hdd, hps⟩ := hx
    clear hps
    subst hcs
    have hone : ∀ i, i < len → ∃ x, Rd (Imm.all W) [] (ad.add (i * z)) (f x) ∧ R x ∧ ((∀ y ∈ elems, ∀ m ∈ y.1.weights P e, m ≤ reachBytes) → S x) := by
      intro i hi
      have hfy := hel i hi
      obtain ⟨y, hy⟩ : ∃ y, elems[i]? = some y := ⟨_, List.getElem?_eq_getElem (by omega)⟩
      rw [hc, hy] at hfy
      cases hcs : W.cells? 0 (ad.add (i * z)) z with
      | none => rw [hcs] at hfy; cases hfy
      | some cs =>
        rw [hcs] at hfy
        simp only [Option.bind_some] at hfy
        obtain ⟨x, e1, r1, s1⟩ := h cs y.1 y.2 hfy
        subst e1
        have hspk : (ad.add (i * z)).spot = none := by
          obtain ⟨_, hl, hc'⟩ := World.cells?_some hcs
          have h0 := hc' 0 hz
          rw [show (ad.add (i * z)).add 0 = ad.add (i * z) from rfl, List.getElem?_eq_getElem (by rw [hf]; omega)] at h0
          cases hs : (ad.add (i * z)).spot with
          | none => rfl
          | some q =>
            unfold World.cell? at h0
            split at h0 <;> simp_all
        refine ⟨x, Rd.of_row hcs hz [] hspk, r1, fun hw => s1 fun m hm => hw y (List.mem_of_getElem? hy) m hm⟩
    obtain ⟨l, hll, hlx⟩ := list_choice len hone
    refine ⟨⟨some ad, len, cap, l⟩, rfl, ⟨⟨hll.symm, fun _ => ⟨ad, rfl, fun i x hx => (hlx i x hx).1⟩⟩, fun x hx => ?_⟩, fun hw => ⟨?_, fun x hx => ?_⟩⟩
    · obtain ⟨i, hi, rfl⟩ := List.mem_iff_getElem.1 hx
      exact (hlx i _ (List.getElem?_eq_getElem hi)).2.1
    · have h1 := hw ((elems.length + rest.length) * by') (by rw [hdd]; simp only [DataW.weights, ht, List.length_map, hb]; exact List.mem_cons_self ..)
      have h2 : elems.length + rest.length ≤ (elems.length + rest.length) * by' := Nat.le_mul_of_pos_right _ hb1
      show l.length ≤ reachBytes
      omega
    · obtain ⟨i, hi, rfl⟩ := List.mem_iff_getElem.1 hx
      refine (hlx i _ (List.getElem?_eq_getElem hi)).2.2 fun y hy m hm => hw m ?_
      rw [hdd]
      simp only [DataW.weights, ht]
      refine List.mem_cons_of_mem _ (List.mem_append_left _ ?_)
      clear hx hlen hel hone hlx hdd hr hw hi hll
      induction elems with
      | nil => cases hy
      | cons q qs ihq =>
        simp only [List.map_cons, DataW.weightsAll, List.mem_append]
        rcases List.mem_cons.1 hy with rfl | hy
        · exact .inl hm
        · exact .inr (ihq hy)
theorem Opens.zero {α : Type} {t : TypeId} {f : α → List Value} {R S : α → Prop} : Opens en P W sp hd 0 t f R S := fun cs d ps h => by cases h
end
end Go.Vc
namespace Go.Lx
open Go.Vc Go.ChangeShapes Go.WideShapes Go.ChangeAt Go.RowKit
def ndF : List (TypeId × Nat) := [(49, 0), (50, 1), (51, 2), (2, 3), (52, 4), (9, 5), (53, 6), (3, 7)]
theorem wf8 {x : Int} (h : (Lit.int .u8 x).wf = true) : 0 ≤ x ∧ x ≤ 255 := by
  simp [Lit.wf, IntKind.min, IntKind.max, IntKind.signed, IntKind.bits] at h; omega
theorem wf64 {x : Int} (h : (Lit.int .i64 x).wf = true) : -9223372036854775808 ≤ x ∧ x ≤ 9223372036854775807 := by
  simp [Lit.wf, IntKind.min, IntKind.max, IntKind.signed, IntKind.bits] at h; omega
theorem Wf.mk {t : Nd} (h : t.px.Fit) (hk : ∀ k ∈ t.kids, k.px.Wf) : t.px.Wf := by
  intro y hy
  rw [← nodes_px] at hy
  obtain ⟨x, hx, rfl⟩ := List.mem_map.1 hy
  rw [Nd.nodes_eq] at hx
  rcases List.mem_cons.1 hx with rfl | hx
  · exact h
  · have hL : ∀ l : List Nd, (∀ k ∈ l, k.px.Wf) → x ∈ Nd.nodesL l → x.px.Fit := by
      intro l
      induction l with
      | nil => intro _ h; rw [Nd.nodesL] at h; cases h
      | cons z r ih =>
        intro hz h
        rw [Nd.nodesL] at h
        rcases List.mem_append.1 h with h | h
        · exact Wf.nd (hz z (List.mem_cons_self ..)) x h
        · exact ih (fun k hk => hz k (List.mem_cons_of_mem _ hk)) h
    exact hL _ hk hx
theorem open_nd {H : Type} {en : TypeId × Value → H} {W : World} {sp : Nat → Bool} {hd : Bool} : ∀ n, Opens en P W sp hd n 55 Nd.enc (fun t => NdOk (Imm.all W) [] t ∧ t.px.Wf) (fun t => t.px.ShortP) := by
  intro n
  induction n using Nat.strongRecOn with
  | ind n ih =>
    cases n with
    | zero => exact Opens.zero
    | succ n =>
      have hsl : Opens en P W sp hd n 53 (fun s : SlV Nd => [.slice s.a s.n s.c]) (fun s => SlG (Imm.all W) [] 8 Nd.enc s.a s.n s.l ∧ ∀ x ∈ s.l, NdOk (Imm.all W) [] x ∧ x.px.Wf) (fun s => s.l.length ≤ reachBytes ∧ ∀ x ∈ s.l, x.px.ShortP) := by
        cases n with
        | zero => exact Opens.zero
        | succ n => exact Opens.slice (z := 8) (by' := 72) (by kernel_rfl) (by kernel_rfl) (by decide) (by kernel_rfl) (by decide) Nd.enc_len (ih n (by omega))
      refine (Opens.struct (z := 8) (fs := ndF) (by kernel_rfl) ((OpensF.cons (k := 1) (Opens.int (k := .u8) (by kernel_rfl)) (by kernel_rfl) <| OpensF.cons (k := 1) (Opens.int (k := .u8) (by kernel_rfl)) (by kernel_rfl) <| OpensF.cons (k := 1) (Opens.int (k := .u8) (by kernel_rfl)) (by kernel_rfl) <|
        OpensF.cons (k := 1) (Opens.int (k := .i64) (by kernel_rfl)) (by kernel_rfl) <| OpensF.cons (k := 1) (Opens.int (k := .u8) (by kernel_rfl)) (by kernel_rfl) <| OpensF.cons (k := 1) (Opens.str (by kernel_rfl)) (by kernel_rfl) <| OpensF.cons (k := 1) hsl (by kernel_rfl) <|
        OpensF.cons (k := 1) (Opens.int (k := .i64) (by kernel_rfl)) (by kernel_rfl) OpensF.nil))).map (fun x => Nd.mk x.1 x.2.1 x.2.2.1 x.2.2.2.1 x.2.2.2.2.1 x.2.2.2.2.2.1 x.2.2.2.2.2.2.1.a x.2.2.2.2.2.2.1.c x.2.2.2.2.2.2.1.l x.2.2.2.2.2.2.2.1) ?_ ?_ ?_
      · intro ⟨k, o, ty, m, f, s, ⟨a, l, c, ks⟩, q, u⟩ ⟨_, _, _, _, _, _, ⟨h7, _⟩, _⟩
        have hl : l = ks.length := h7.1
        subst hl; rfl
      · intro ⟨k, o, ty, m, f, s, ⟨a, l, c, ks⟩, q, u⟩ ⟨h1, h2, h3, h4, h5, h6, ⟨h7, h8⟩, h9, _⟩
        have hl : l = ks.length := h7.1
        subst hl
        refine ⟨.mk h7 fun x hx => (h8 x hx).1, Wf.mk ?_ fun x hx => (h8 x hx).2⟩
        unfold Px.Fit
        rw [Nd.px_kind, Nd.px_oper, Nd.px_typ, Nd.px_n, Nd.px_field, Nd.px_pos]
        exact ⟨wf8 h1, wf8 h2, wf8 h3, wf64 h4, wf8 h5, wf64 h9⟩
      · intro ⟨k, o, ty, m, f, s, ⟨a, l, c, ks⟩, q, u⟩ _ ⟨_, _, _, _, _, g6, ⟨g7, g8⟩, _⟩
        refine .mk (by rw [Nd.px_name]; exact g6) (by rw [Nd.px_len]; exact g7) fun x hx => ?_
        rw [Nd.px_kids] at hx
        obtain ⟨y, hy, rfl⟩ := List.mem_map.1 hx
        exact g8 y hy
theorem agg_of {P : Program} {W : World} {r : Reach} {b0 : Nat} {t : TypeId} {v : Value} {fs : List (TypeId × Nat)} {z : Nat} (hst : structB P t fs z = true) (hval : Value.okWide P W r b0 t v) : v = .agg v.cells.toList.toArray := by
  unfold structB at hst
  split at hst
  · rename_i gs hg
    have h5 := okWide_struct hg hval
    obtain ⟨cs, hv, hcs⟩ := h5
    clear hcs
    subst hv
    rfl
  · cases hst
end Go.Lx
namespace Go.Lx
open Go.Vc Go.ChangeShapes Go.WideShapes Go.ChangeAt Go.RowKit
def i64B (x : Int) : Prop := -9223372036854775808 ≤ x ∧ x ≤ 9223372036854775807
def u8B (x : Int) : Prop := 0 ≤ x ∧ x ≤ 255
def DoP.Wf (d : DoP) : Prop := (u8B d.kind ∧ u8B d.order ∧ i64B d.pos) ∧ d.side.Wf ∧ d.qty.Wf ∧ d.price.Wf ∧ d.value.Wf
def RuleP.Wf (r : RuleP) : Prop := i64B r.pos ∧ r.when.Wf ∧ ∀ d ∈ r.dos, d.Wf
def StateP.Wf (x : StateP) : Prop := i64B x.pos ∧ ∀ r ∈ x.rules, r.Wf
def RegP.Wf (r : RegP) : Prop := (u8B r.typ ∧ i64B r.pos) ∧ r.init.Wf
def SlotP.Wf (r : SlotP) : Prop := i64B r.pos
def StgP.Wf (s : StgP) : Prop := (∀ r ∈ s.regs, r.Wf) ∧ (∀ r ∈ s.slots, r.Wf) ∧ ∀ x ∈ s.states, x.Wf
section
variable {H : Type} {en : TypeId × Value → H} {W : World} {sp : Nat → Bool} {hd : Bool}
def regF : List (TypeId × Nat) := [(9, 0), (51, 1), (55, 2), (3, 10)]
theorem open_regS (n : Nat) : Opens en P W sp hd (n + 1) 75 RegN.enc (fun r => r.Ok (Imm.all W) [] ∧ r.p.Wf) (fun r => r.p.Short) := by
  refine (Opens.struct (z := 11) (fs := regF) (by kernel_rfl) (OpensF.cons (k := 1) (Opens.str (by kernel_rfl)) (by kernel_rfl) <| OpensF.cons (k := 1) (Opens.int (k := .u8) (by kernel_rfl)) (by kernel_rfl) <|
    OpensF.cons (k := 8) (open_nd n) (by kernel_rfl) <| OpensF.cons (k := 1) (Opens.int (k := .i64) (by kernel_rfl)) (by kernel_rfl) OpensF.nil)).map (fun x => RegN.mk x.1 x.2.1 x.2.2.1 x.2.2.2.1) ?_ ?_ ?_
  · intro ⟨a, b, c, d, u⟩ _; rfl
  · intro ⟨a, b, c, d, u⟩ ⟨h1, h2, h3, h4, _⟩
    exact ⟨h3.1, ⟨wf8 h2, wf64 h4⟩, h3.2⟩
  · intro ⟨a, b, c, d, u⟩ _ ⟨g1, g2, g3, g4, _⟩
    exact ⟨g1, g3⟩
def slotF : List (TypeId × Nat) := [(9, 0), (3, 1)]
theorem open_slotS (n : Nat) : Opens en P W sp hd (n + 1) 77 SlotP.enc (fun r => r.Wf) (fun r => r.Short) := by
  refine (Opens.struct (z := 2) (fs := slotF) (by kernel_rfl) (OpensF.cons (k := 1) (Opens.str (by kernel_rfl)) (by kernel_rfl) <| OpensF.cons (k := 1) (Opens.int (k := .i64) (by kernel_rfl)) (by kernel_rfl) OpensF.nil)).map (fun x => SlotP.mk x.1 x.2.1) ?_ ?_ ?_
  · intro ⟨a, b, u⟩ _; rfl
  · intro ⟨a, b, u⟩ ⟨h1, h2, _⟩; exact wf64 h2
  · intro ⟨a, b, u⟩ _ ⟨g1, g2, _⟩; exact g1
def doF : List (TypeId × Nat) := [(86, 0), (87, 1), (9, 2), (55, 3), (55, 11), (55, 19), (55, 27), (3, 35)]
theorem open_doS (n : Nat) : Opens en P W sp hd (n + 1) 89 DoN.enc (fun r => r.Ok (Imm.all W) [] ∧ r.p.Wf) (fun r => r.p.Short) := by
  refine (Opens.struct (z := 36) (fs := doF) (by kernel_rfl) (OpensF.cons (k := 1) (Opens.int (k := .u8) (by kernel_rfl)) (by kernel_rfl) <| OpensF.cons (k := 1) (Opens.int (k := .u8) (by kernel_rfl)) (by kernel_rfl) <| OpensF.cons (k := 1) (Opens.str (by kernel_rfl)) (by kernel_rfl) <|
    OpensF.cons (k := 8) (open_nd n) (by kernel_rfl) <| OpensF.cons (k := 8) (open_nd n) (by kernel_rfl) <| OpensF.cons (k := 8) (open_nd n) (by kernel_rfl) <| OpensF.cons (k := 8) (open_nd n) (by kernel_rfl) <| OpensF.cons (k := 1) (Opens.int (k := .i64) (by kernel_rfl)) (by kernel_rfl) OpensF.nil)).map
      (fun x => DoN.mk x.1 x.2.1 x.2.2.1 x.2.2.2.1 x.2.2.2.2.1 x.2.2.2.2.2.1 x.2.2.2.2.2.2.1 x.2.2.2.2.2.2.2.1) ?_ ?_ ?_
  · intro ⟨a, b, c, d, e, f, g, h, u⟩ _; rfl
  · intro ⟨a, b, c, d, e, f, g, h, u⟩ ⟨h1, h2, h3, h4, h5, h6, h7, h8, _⟩
    exact ⟨⟨h4.1, h5.1, h6.1, h7.1⟩, ⟨wf8 h1, wf8 h2, wf64 h8⟩, h4.2, h5.2, h6.2, h7.2⟩
  · intro ⟨a, b, c, d, e, f, g, h, u⟩ _ ⟨g1, g2, g3, g4, g5, g6, g7, g8, _⟩
    refine ⟨g3, fun x hx => ?_⟩
    simp only [DoP.nds, DoN.p, List.mem_cons, List.not_mem_nil, or_false] at hx
    rcases hx with rfl | rfl | rfl | rfl
    · exact g4
    · exact g5
    · exact g6
    · exact g7
def ruleF : List (TypeId × Nat) := [(55, 0), (65, 8), (3, 9)]
theorem open_dosS : ∀ n, Opens en P W sp hd n 65 (fun s : SlV DoN => [.slice s.a s.n s.c]) (fun s => SlG (Imm.all W) [] 36 DoN.enc s.a s.n s.l ∧ ∀ x ∈ s.l, x.Ok (Imm.all W) [] ∧ x.p.Wf) (fun s => s.l.length ≤ reachBytes ∧ ∀ x ∈ s.l, x.p.Short)
  | 0 => Opens.zero
  | 1 => Opens.slice (e := 89) (z := 36) (by' := 320) (by kernel_rfl) (by kernel_rfl) (by decide) (by kernel_rfl) (by decide) (fun _ => rfl) Opens.zero
  | n + 2 => Opens.slice (e := 89) (z := 36) (by' := 320) (by kernel_rfl) (by kernel_rfl) (by decide) (by kernel_rfl) (by decide) (fun _ => rfl) (open_doS n)
theorem open_ruleS (n : Nat) : Opens en P W sp hd (n + 1) 67 RuleN.enc (fun r => r.Ok (Imm.all W) [] ∧ r.p.Wf) (fun r => r.p.Short) := by
  refine (Opens.struct (z := 10) (fs := ruleF) (by kernel_rfl) (OpensF.cons (k := 8) (open_nd n) (by kernel_rfl) <| OpensF.cons (k := 1) (open_dosS n) (by kernel_rfl) <| OpensF.cons (k := 1) (Opens.int (k := .i64) (by kernel_rfl)) (by kernel_rfl) OpensF.nil)).map
    (fun x => RuleN.mk x.1 x.2.1.a x.2.1.c x.2.1.l x.2.2.1) ?_ ?_ ?_
  · intro ⟨a, ⟨sa, sn, sc, sl⟩, c, u⟩ ⟨_, ⟨h2, _⟩, _⟩
    have e : sn = sl.length := h2.1
    subst e; rfl
  · intro ⟨a, ⟨sa, sn, sc, sl⟩, c, u⟩ ⟨h1, ⟨h2, h2'⟩, h3, _⟩
    have e : sn = sl.length := h2.1
    subst e
    refine ⟨⟨h1.1, h2, fun d hd => (h2' d hd).1⟩, wf64 h3, h1.2, fun d hd => ?_⟩
    obtain ⟨d', hd', rfl⟩ := List.mem_map.1 hd
    exact (h2' d' hd').2
  · intro ⟨a, ⟨sa, sn, sc, sl⟩, c, u⟩ _ ⟨g1, ⟨g2, g2'⟩, _⟩
    refine ⟨g1, by simp only [RuleN.p, List.length_map]; exact g2, fun d hd => ?_⟩
    obtain ⟨d', hd', rfl⟩ := List.mem_map.1 hd
    exact g2' d' hd'
def stateF : List (TypeId × Nat) := [(9, 0), (68, 1), (3, 2)]
theorem open_rulesS : ∀ n, Opens en P W sp hd n 68 (fun s : SlV RuleN => [.slice s.a s.n s.c]) (fun s => SlG (Imm.all W) [] 10 RuleN.enc s.a s.n s.l ∧ ∀ x ∈ s.l, x.Ok (Imm.all W) [] ∧ x.p.Wf) (fun s => s.l.length ≤ reachBytes ∧ ∀ x ∈ s.l, x.p.Short)
  | 0 => Opens.zero
  | 1 => Opens.slice (e := 67) (z := 10) (by' := 104) (by kernel_rfl) (by kernel_rfl) (by decide) (by kernel_rfl) (by decide) (fun _ => rfl) Opens.zero
  | n + 2 => Opens.slice (e := 67) (z := 10) (by' := 104) (by kernel_rfl) (by kernel_rfl) (by decide) (by kernel_rfl) (by decide) (fun _ => rfl) (open_ruleS n)
theorem open_stateS (n : Nat) : Opens en P W sp hd (n + 1) 70 StateN.enc (fun r => r.Ok (Imm.all W) [] ∧ r.p.Wf) (fun r => r.p.Short) := by
  refine (Opens.struct (z := 3) (fs := stateF) (by kernel_rfl) (OpensF.cons (k := 1) (Opens.str (by kernel_rfl)) (by kernel_rfl) <| OpensF.cons (k := 1) (open_rulesS n) (by kernel_rfl) <| OpensF.cons (k := 1) (Opens.int (k := .i64) (by kernel_rfl)) (by kernel_rfl) OpensF.nil)).map
    (fun x => StateN.mk x.1 x.2.1.a x.2.1.c x.2.1.l x.2.2.1) ?_ ?_ ?_
  · intro ⟨a, ⟨sa, sn, sc, sl⟩, c, u⟩ ⟨_, ⟨h2, _⟩, _⟩
    have e : sn = sl.length := h2.1
    subst e; rfl
  · intro ⟨a, ⟨sa, sn, sc, sl⟩, c, u⟩ ⟨h1, ⟨h2, h2'⟩, h3, _⟩
    have e : sn = sl.length := h2.1
    subst e
    refine ⟨⟨h2, fun d hd => (h2' d hd).1⟩, wf64 h3, fun d hd => ?_⟩
    obtain ⟨d', hd', rfl⟩ := List.mem_map.1 hd
    exact (h2' d' hd').2
  · intro ⟨a, ⟨sa, sn, sc, sl⟩, c, u⟩ _ ⟨g1, ⟨g2, g2'⟩, _⟩
    refine ⟨g1, by simp only [StateN.p, List.length_map]; exact g2, fun d hd => ?_⟩
    obtain ⟨d', hd', rfl⟩ := List.mem_map.1 hd
    exact g2' d' hd'
def stgF : List (TypeId × Nat) := [(9, 0), (22, 1), (23, 2), (24, 3)]
theorem open_regsS : ∀ n, Opens en P W sp hd n 22 (fun s : SlV RegN => [.slice s.a s.n s.c]) (fun s => SlG (Imm.all W) [] 11 RegN.enc s.a s.n s.l ∧ ∀ x ∈ s.l, x.Ok (Imm.all W) [] ∧ x.p.Wf) (fun s => s.l.length ≤ reachBytes ∧ ∀ x ∈ s.l, x.p.Short)
  | 0 => Opens.zero
  | 1 => Opens.slice (e := 75) (z := 11) (by' := 104) (by kernel_rfl) (by kernel_rfl) (by decide) (by kernel_rfl) (by decide) (fun _ => rfl) Opens.zero
  | n + 2 => Opens.slice (e := 75) (z := 11) (by' := 104) (by kernel_rfl) (by kernel_rfl) (by decide) (by kernel_rfl) (by decide) (fun _ => rfl) (open_regS n)
theorem open_slotsS : ∀ n, Opens en P W sp hd n 23 (fun s : SlV SlotP => [.slice s.a s.n s.c]) (fun s => SlG (Imm.all W) [] 2 SlotP.enc s.a s.n s.l ∧ ∀ x ∈ s.l, x.Wf) (fun s => s.l.length ≤ reachBytes ∧ ∀ x ∈ s.l, x.Short)
  | 0 => Opens.zero
  | 1 => Opens.slice (e := 77) (z := 2) (by' := 24) (by kernel_rfl) (by kernel_rfl) (by decide) (by kernel_rfl) (by decide) (fun _ => rfl) Opens.zero
  | n + 2 => Opens.slice (e := 77) (z := 2) (by' := 24) (by kernel_rfl) (by kernel_rfl) (by decide) (by kernel_rfl) (by decide) (fun _ => rfl) (open_slotS n)
theorem open_statesS : ∀ n, Opens en P W sp hd n 24 (fun s : SlV StateN => [.slice s.a s.n s.c]) (fun s => SlG (Imm.all W) [] 3 StateN.enc s.a s.n s.l ∧ ∀ x ∈ s.l, x.Ok (Imm.all W) [] ∧ x.p.Wf) (fun s => s.l.length ≤ reachBytes ∧ ∀ x ∈ s.l, x.p.Short)
  | 0 => Opens.zero
  | 1 => Opens.slice (e := 70) (z := 3) (by' := 48) (by kernel_rfl) (by kernel_rfl) (by decide) (by kernel_rfl) (by decide) (fun _ => rfl) Opens.zero
  | n + 2 => Opens.slice (e := 70) (z := 3) (by' := 48) (by kernel_rfl) (by kernel_rfl) (by decide) (by kernel_rfl) (by decide) (fun _ => rfl) (open_stateS n)
theorem open_stgS (n : Nat) : Opens en P W sp hd (n + 1) 26 StgN.enc (fun r => r.Ok (Imm.all W) [] ∧ r.p.Wf) (fun r => r.p.Short) := by
  refine (Opens.struct (z := 4) (fs := stgF) (by kernel_rfl) (OpensF.cons (k := 1) (Opens.str (by kernel_rfl)) (by kernel_rfl) <| OpensF.cons (k := 1) (open_regsS n) (by kernel_rfl) <| OpensF.cons (k := 1) (open_slotsS n) (by kernel_rfl) <| OpensF.cons (k := 1) (open_statesS n) (by kernel_rfl) OpensF.nil)).map
    (fun x => StgN.mk x.1 x.2.1.a x.2.1.c x.2.1.l x.2.2.1.a x.2.2.1.c x.2.2.1.l x.2.2.2.1.a x.2.2.2.1.c x.2.2.2.1.l) ?_ ?_ ?_
  · intro ⟨a, ⟨ra, rn, rc, rl⟩, ⟨sa, sn, sc, sl⟩, ⟨ta, tn, tc, tl⟩, u⟩ ⟨_, ⟨h2, _⟩, ⟨h3, _⟩, ⟨h4, _⟩, _⟩
    have e2 : rn = rl.length := h2.1
    have e3 : sn = sl.length := h3.1
    have e4 : tn = tl.length := h4.1
    subst e2 e3 e4; rfl
  · intro ⟨a, ⟨ra, rn, rc, rl⟩, ⟨sa, sn, sc, sl⟩, ⟨ta, tn, tc, tl⟩, u⟩ ⟨h1, ⟨h2, h2'⟩, ⟨h3, h3'⟩, ⟨h4, h4'⟩, _⟩
    have e2 : rn = rl.length := h2.1
    have e3 : sn = sl.length := h3.1
    have e4 : tn = tl.length := h4.1
    subst e2 e3 e4
    refine ⟨⟨h2, fun d hd => (h2' d hd).1, h3, h4, fun d hd => (h4' d hd).1⟩, fun d hd => ?_, h3', fun d hd => ?_⟩
    · obtain ⟨d', hd', rfl⟩ := List.mem_map.1 hd
      exact (h2' d' hd').2
    · obtain ⟨d', hd', rfl⟩ := List.mem_map.1 hd
      exact (h4' d' hd').2
  · intro ⟨a, ⟨ra, rn, rc, rl⟩, ⟨sa, sn, sc, sl⟩, ⟨ta, tn, tc, tl⟩, u⟩ _ ⟨g1, ⟨g2, g2'⟩, ⟨g3, g3'⟩, ⟨g4, g4'⟩, _⟩
    refine ⟨g1, by simp only [StgN.p, List.length_map]; exact g2, fun d hd => ?_, g3, g3', by simp only [StgN.p, List.length_map]; exact g4, fun d hd => ?_⟩
    · obtain ⟨d', hd', rfl⟩ := List.mem_map.1 hd
      exact g2' d' hd'
    · obtain ⟨d', hd', rfl⟩ := List.mem_map.1 hd
      exact g4' d' hd'
end
theorem open_stg {H : Type} {en : TypeId × Value → H} {W : World} {base : Nat} {sp : Nat → Bool} {hd : Bool} {v : Value} {d : DataW H} {ps : List MemPlace} {r : Reach} (hval : Value.okWide P W r base 26 v) (h : DataW.Trod en P W 0 sp hd 26 v d ps) :
    ∃ s : StgN, v = s.v ∧ s.Ok (Imm.all W) [] ∧ s.p.Wf ∧ ((∀ m ∈ d.weights P 26, m ≤ reachBytes) → s.p.Short) := by
  have hv := agg_of (fs := stgF) (z := 4) (by kernel_rfl) hval
  obtain ⟨fuel, hf⟩ := h
  cases fuel with
  | zero => cases hf
  | succ n =>
    obtain ⟨t, e, ⟨h1, h2⟩, h3⟩ := open_stgS n _ d ps hf
    exact ⟨t, by rw [hv, e], h1, h2, h3⟩
end Go.Lx
