import Derived.Test.YtnomldjkblednaaGreatB5
set_option linter.unusedVariables false
set_option linter.unusedSimpArgs false
set_option maxRecDepth 100000
namespace Go.Lx
open Go.Vc
theorem bothDo_spec {a b : Option Addr} {c c' : Nat} {l m : List DoN} {y : Fn} {ya yb : Array Value} (f : DoN → DoN → Bool) (I : Imm) (F : Heap) (hl : l.length ≤ 140737488351232) (ha : SlG I F 36 DoN.enc a l.length l) (hb : SlG I F 36 DoN.enc b m.length m)
    (hcall : ∀ x ∈ l, ∀ u ∈ m, ∀ J, Imm.le I J → TriV P (.func y ya yb) [x.v, u.v] J F (Ret (.bool (f x u)) F)) :
    Tri P 39 #[.slice a l.length c, .slice b m.length c', .func y ya yb] I F (Ret (.bool (bothB f l m)) F) := by
  refine tree_bothDo.vc (fun q i m1 I' F' => F' = F ∧ 0 ≤ i ∧ i ≤ l.length ∧ m1 = (l.length - i).toNat ∧ Imm.le I I' ∧ l.length = m.length ∧ bothB f l m = eachB f ((l.drop i.toNat).map id) ((m.drop i.toNat).map id)) ?_
  unfold tree_bothDo.V
  refine ⟨fun h => ⟨?_, rfl⟩, fun h => ⟨⟨_, rfl, by omega, by omega, rfl, Imm.le_refl I, eq_len h, ?_⟩, fun q i m1 I1 F1 _ ⟨gF, g0, g1, gm, l1, gl, ge⟩ => ?_⟩⟩
  · unfold bothB; rw [neq_len h]; rfl
  · unfold bothB; rw [decide_eq_true (eq_len h), List.map_id, List.map_id]; rfl
  subst gF
  refine ⟨fun hlt => ?_, fun hlt => ⟨?_, rfl⟩⟩
  · have hlt := of_decide_eq_true hlt
    obtain ⟨ad, x, had, hx, hrd, hxm⟩ := SlG.atm (ha.mono l1 fun _ h => h) g0 hlt
    obtain ⟨ad', u, had', hu, hrd', hum⟩ := SlG.atm (hb.mono l1 fun _ h => h) g0 (show i < (m.length : Int) by omega)
    refine ⟨⟨g0, hlt⟩, ad, had, ⟨g0, by omega⟩, ad', had', _, _, _, _, _, _, _, _, _, _, _, _, _, _, _, _, _, _, _, _, _, _, _, _, _, _, _, _, _, _, _, _, _, _, _, _, _, _, _, _, _, _, _, _, hrd, _, _, _, _, _, _, _, _, _, _, _, _, _, _, _, _, _, _, _, _, _, _, _, _, _, _, _, _, _, _, _, _, _, _, _, _, _, _, _, _, _, _, _, _, hrd', (hcall x hxm u hum I1 l1).mono fun e I2 G l2 ⟨he, hG⟩ => ?_⟩
    rw [hG]
    have hT := ge
    rw [eachB_drop hx hu] at hT
    have hT : bothB f l m = (f x u && _) := hT
    refine ⟨_, he, _, .refl _, fun h => ⟨?_, rfl⟩, fun h => ⟨(l.length - (i + 1)).toNat, by omega, rfl, ?_⟩⟩
    · rw [hT, not_f h]; rfl
    · rw [w64 (n := i + 1) (by omega)]
      refine ⟨by omega, by omega, rfl, Imm.le_trans l1 l2, gl, ?_⟩
      rw [hT, not_t h, show (i + 1).toNat = i.toNat + 1 by omega]; rfl
  · have hlt := of_decide_eq_false hlt
    rw [ge, eachB_end (by omega)]
theorem bothRule_spec {a b : Option Addr} {c c' : Nat} {l m : List RuleN} {y : Fn} {ya yb : Array Value} (f : RuleN → RuleN → Bool) (I : Imm) (F : Heap) (hl : l.length ≤ 140737488351232) (ha : SlG I F 10 RuleN.enc a l.length l) (hb : SlG I F 10 RuleN.enc b m.length m)
    (hcall : ∀ x ∈ l, ∀ u ∈ m, ∀ J, Imm.le I J → TriV P (.func y ya yb) [x.v, u.v] J F (Ret (.bool (f x u)) F)) :
    Tri P 41 #[.slice a l.length c, .slice b m.length c', .func y ya yb] I F (Ret (.bool (bothB f l m)) F) := by
  refine tree_bothRule.vc (fun q i m1 I' F' => F' = F ∧ 0 ≤ i ∧ i ≤ l.length ∧ m1 = (l.length - i).toNat ∧ Imm.le I I' ∧ l.length = m.length ∧ bothB f l m = eachB f ((l.drop i.toNat).map id) ((m.drop i.toNat).map id)) ?_
  unfold tree_bothRule.V
  refine ⟨fun h => ⟨?_, rfl⟩, fun h => ⟨⟨_, rfl, by omega, by omega, rfl, Imm.le_refl I, eq_len h, ?_⟩, fun q i m1 I1 F1 _ ⟨gF, g0, g1, gm, l1, gl, ge⟩ => ?_⟩⟩
  · unfold bothB; rw [neq_len h]; rfl
  · unfold bothB; rw [decide_eq_true (eq_len h), List.map_id, List.map_id]; rfl
  subst gF
  refine ⟨fun hlt => ?_, fun hlt => ⟨?_, rfl⟩⟩
  · have hlt := of_decide_eq_true hlt
    obtain ⟨ad, x, had, hx, hrd, hxm⟩ := SlG.atm (ha.mono l1 fun _ h => h) g0 hlt
    obtain ⟨ad', u, had', hu, hrd', hum⟩ := SlG.atm (hb.mono l1 fun _ h => h) g0 (show i < (m.length : Int) by omega)
    refine ⟨⟨g0, hlt⟩, ad, had, ⟨g0, by omega⟩, ad', had', _, _, _, _, _, _, _, _, _, _, _, _, _, _, hrd, _, _, _, _, _, _, _, _, _, _, _, _, _, _, hrd', (hcall x hxm u hum I1 l1).mono fun e I2 G l2 ⟨he, hG⟩ => ?_⟩
    rw [hG]
    have hT := ge
    rw [eachB_drop hx hu] at hT
    have hT : bothB f l m = (f x u && _) := hT
    refine ⟨_, he, _, .refl _, fun h => ⟨?_, rfl⟩, fun h => ⟨(l.length - (i + 1)).toNat, by omega, rfl, ?_⟩⟩
    · rw [hT, not_f h]; rfl
    · rw [w64 (n := i + 1) (by omega)]
      refine ⟨by omega, by omega, rfl, Imm.le_trans l1 l2, gl, ?_⟩
      rw [hT, not_t h, show (i + 1).toNat = i.toNat + 1 by omega]; rfl
  · have hlt := of_decide_eq_false hlt
    rw [ge, eachB_end (by omega)]
theorem bothReg_spec {a b : Option Addr} {c c' : Nat} {l m : List RegN} {y : Fn} {ya yb : Array Value} (f : RegN → RegN → Bool) (I : Imm) (F : Heap) (hl : l.length ≤ 140737488351232) (ha : SlG I F 11 RegN.enc a l.length l) (hb : SlG I F 11 RegN.enc b m.length m)
    (hcall : ∀ x ∈ l, ∀ u ∈ m, ∀ J, Imm.le I J → TriV P (.func y ya yb) [x.v, u.v] J F (Ret (.bool (f x u)) F)) :
    Tri P 42 #[.slice a l.length c, .slice b m.length c', .func y ya yb] I F (Ret (.bool (bothB f l m)) F) := by
  refine tree_bothReg.vc (fun q i m1 I' F' => F' = F ∧ 0 ≤ i ∧ i ≤ l.length ∧ m1 = (l.length - i).toNat ∧ Imm.le I I' ∧ l.length = m.length ∧ bothB f l m = eachB f ((l.drop i.toNat).map id) ((m.drop i.toNat).map id)) ?_
  unfold tree_bothReg.V
  refine ⟨fun h => ⟨?_, rfl⟩, fun h => ⟨⟨_, rfl, by omega, by omega, rfl, Imm.le_refl I, eq_len h, ?_⟩, fun q i m1 I1 F1 _ ⟨gF, g0, g1, gm, l1, gl, ge⟩ => ?_⟩⟩
  · unfold bothB; rw [neq_len h]; rfl
  · unfold bothB; rw [decide_eq_true (eq_len h), List.map_id, List.map_id]; rfl
  subst gF
  refine ⟨fun hlt => ?_, fun hlt => ⟨?_, rfl⟩⟩
  · have hlt := of_decide_eq_true hlt
    obtain ⟨ad, x, had, hx, hrd, hxm⟩ := SlG.atm (ha.mono l1 fun _ h => h) g0 hlt
    obtain ⟨ad', u, had', hu, hrd', hum⟩ := SlG.atm (hb.mono l1 fun _ h => h) g0 (show i < (m.length : Int) by omega)
    refine ⟨⟨g0, hlt⟩, ad, had, ⟨g0, by omega⟩, ad', had', _, _, _, _, _, _, _, _, _, _, _, _, _, hrd, _, _, _, _, _, _, _, _, _, _, _, _, _, hrd', (hcall x hxm u hum I1 l1).mono fun e I2 G l2 ⟨he, hG⟩ => ?_⟩
    rw [hG]
    have hT := ge
    rw [eachB_drop hx hu] at hT
    have hT : bothB f l m = (f x u && _) := hT
    refine ⟨_, he, _, .refl _, fun h => ⟨?_, rfl⟩, fun h => ⟨(l.length - (i + 1)).toNat, by omega, rfl, ?_⟩⟩
    · rw [hT, not_f h]; rfl
    · rw [w64 (n := i + 1) (by omega)]
      refine ⟨by omega, by omega, rfl, Imm.le_trans l1 l2, gl, ?_⟩
      rw [hT, not_t h, show (i + 1).toNat = i.toNat + 1 by omega]; rfl
  · have hlt := of_decide_eq_false hlt
    rw [ge, eachB_end (by omega)]
theorem bothSlot_spec {a b : Option Addr} {c c' : Nat} {l m : List SlotP} {y : Fn} {ya yb : Array Value} (f : SlotP → SlotP → Bool) (I : Imm) (F : Heap) (hl : l.length ≤ 140737488351232) (ha : SlG I F 2 SlotP.enc a l.length l) (hb : SlG I F 2 SlotP.enc b m.length m)
    (hcall : ∀ x ∈ l, ∀ u ∈ m, ∀ J, Imm.le I J → TriV P (.func y ya yb) [x.v, u.v] J F (Ret (.bool (f x u)) F)) :
    Tri P 43 #[.slice a l.length c, .slice b m.length c', .func y ya yb] I F (Ret (.bool (bothB f l m)) F) := by
  refine tree_bothSlot.vc (fun q i m1 I' F' => F' = F ∧ 0 ≤ i ∧ i ≤ l.length ∧ m1 = (l.length - i).toNat ∧ Imm.le I I' ∧ l.length = m.length ∧ bothB f l m = eachB f ((l.drop i.toNat).map id) ((m.drop i.toNat).map id)) ?_
  unfold tree_bothSlot.V
  refine ⟨fun h => ⟨?_, rfl⟩, fun h => ⟨⟨_, rfl, by omega, by omega, rfl, Imm.le_refl I, eq_len h, ?_⟩, fun q i m1 I1 F1 _ ⟨gF, g0, g1, gm, l1, gl, ge⟩ => ?_⟩⟩
  · unfold bothB; rw [neq_len h]; rfl
  · unfold bothB; rw [decide_eq_true (eq_len h), List.map_id, List.map_id]; rfl
  subst gF
  refine ⟨fun hlt => ?_, fun hlt => ⟨?_, rfl⟩⟩
  · have hlt := of_decide_eq_true hlt
    obtain ⟨ad, x, had, hx, hrd, hxm⟩ := SlG.atm (ha.mono l1 fun _ h => h) g0 hlt
    obtain ⟨ad', u, had', hu, hrd', hum⟩ := SlG.atm (hb.mono l1 fun _ h => h) g0 (show i < (m.length : Int) by omega)
    refine ⟨⟨g0, hlt⟩, ad, had, ⟨g0, by omega⟩, ad', had', _, _, hrd, _, _, hrd', (hcall x hxm u hum I1 l1).mono fun e I2 G l2 ⟨he, hG⟩ => ?_⟩
    rw [hG]
    have hT := ge
    rw [eachB_drop hx hu] at hT
    have hT : bothB f l m = (f x u && _) := hT
    refine ⟨_, he, _, .refl _, fun h => ⟨?_, rfl⟩, fun h => ⟨(l.length - (i + 1)).toNat, by omega, rfl, ?_⟩⟩
    · rw [hT, not_f h]; rfl
    · rw [w64 (n := i + 1) (by omega)]
      refine ⟨by omega, by omega, rfl, Imm.le_trans l1 l2, gl, ?_⟩
      rw [hT, not_t h, show (i + 1).toNat = i.toNat + 1 by omega]; rfl
  · have hlt := of_decide_eq_false hlt
    rw [ge, eachB_end (by omega)]
theorem bothState_spec {a b : Option Addr} {c c' : Nat} {l m : List StateN} {y : Fn} {ya yb : Array Value} (f : StateN → StateN → Bool) (I : Imm) (F : Heap) (hl : l.length ≤ 140737488351232) (ha : SlG I F 3 StateN.enc a l.length l) (hb : SlG I F 3 StateN.enc b m.length m)
    (hcall : ∀ x ∈ l, ∀ u ∈ m, ∀ J, Imm.le I J → TriV P (.func y ya yb) [x.v, u.v] J F (Ret (.bool (f x u)) F)) :
    Tri P 44 #[.slice a l.length c, .slice b m.length c', .func y ya yb] I F (Ret (.bool (bothB f l m)) F) := by
  refine tree_bothState.vc (fun q i m1 I' F' => F' = F ∧ 0 ≤ i ∧ i ≤ l.length ∧ m1 = (l.length - i).toNat ∧ Imm.le I I' ∧ l.length = m.length ∧ bothB f l m = eachB f ((l.drop i.toNat).map id) ((m.drop i.toNat).map id)) ?_
  unfold tree_bothState.V
  refine ⟨fun h => ⟨?_, rfl⟩, fun h => ⟨⟨_, rfl, by omega, by omega, rfl, Imm.le_refl I, eq_len h, ?_⟩, fun q i m1 I1 F1 _ ⟨gF, g0, g1, gm, l1, gl, ge⟩ => ?_⟩⟩
  · unfold bothB; rw [neq_len h]; rfl
  · unfold bothB; rw [decide_eq_true (eq_len h), List.map_id, List.map_id]; rfl
  subst gF
  refine ⟨fun hlt => ?_, fun hlt => ⟨?_, rfl⟩⟩
  · have hlt := of_decide_eq_true hlt
    obtain ⟨ad, x, had, hx, hrd, hxm⟩ := SlG.atm (ha.mono l1 fun _ h => h) g0 hlt
    obtain ⟨ad', u, had', hu, hrd', hum⟩ := SlG.atm (hb.mono l1 fun _ h => h) g0 (show i < (m.length : Int) by omega)
    refine ⟨⟨g0, hlt⟩, ad, had, ⟨g0, by omega⟩, ad', had', _, _, _, _, _, hrd, _, _, _, _, _, hrd', (hcall x hxm u hum I1 l1).mono fun e I2 G l2 ⟨he, hG⟩ => ?_⟩
    rw [hG]
    have hT := ge
    rw [eachB_drop hx hu] at hT
    have hT : bothB f l m = (f x u && _) := hT
    refine ⟨_, he, _, .refl _, fun h => ⟨?_, rfl⟩, fun h => ⟨(l.length - (i + 1)).toNat, by omega, rfl, ?_⟩⟩
    · rw [hT, not_f h]; rfl
    · rw [w64 (n := i + 1) (by omega)]
      refine ⟨by omega, by omega, rfl, Imm.le_trans l1 l2, gl, ?_⟩
      rw [hT, not_t h, show (i + 1).toNat = i.toNat + 1 by omega]; rfl
  · have hlt := of_decide_eq_false hlt
    rw [ge, eachB_end (by omega)]
theorem eachDo_spec {a : Option Addr} {c : Nat} {l : List DoN} {y : Fn} {ya yb : Array Value} {γ : Type} (p : DoN → γ) (q : γ → γ) (I : Imm) (F : Heap) (hl : l.length ≤ 1048576) (ha : SlG I F 36 DoN.enc a l.length l)
    (hcall : ∀ x ∈ l, ∀ J G, Imm.le I J → (∀ e, e ∈ F → e ∈ G) → TriV P (.func y ya yb) [x.v] J G fun e J' G' => ∃ (x' : DoN) (H : Heap), e = .returned x'.v ∧ p x' = q (p x) ∧ DoOwn false x' H ∧ G'.Perm (H ++ G)) :
    Tri P 53 #[.slice a l.length c, .func y ya yb] I F fun e I' G => ∃ (a' : Option Addr) (c' : Nat) (l' : List DoN) (H : Heap), e = .returned (.slice a' l'.length c') ∧ l'.map p = (l.map p).map q ∧ OwnL false 36 DoN.enc 89 (DoOwn false) a' l'.length c' l' H ∧ G.Perm (H ++ F) := by
  refine tree_eachDo.vc (fun a n c i m I' F' => 0 ≤ i ∧ i ≤ l.length ∧ m = (l.length - i).toNat ∧ Imm.le I I' ∧ ∃ ks : List DoN, ks.map p = ((l.take i.toNat).map p).map q ∧ Part 36 DoN.enc 89 (DoOwn false) a n c ks F F') ?_
  unfold tree_eachDo.V
  refine ⟨⟨_, by omega, by omega, rfl, Imm.le_refl I, [], by simp, Part.nil⟩, fun oa on oc i m1 I1 F1 _ ⟨g0, g1, gm, l1, ks, gk, gP⟩ => ⟨fun hlt => ?_, fun hlt => ?_⟩⟩
  · have hlt := of_decide_eq_true hlt
    obtain ⟨ad, x, had, hx, hrd, hxm⟩ := SlG.atm (ha.mono l1 gP.mem) g0 hlt
    have hkl := map_len gk (by omega)
    refine ⟨⟨g0, hlt⟩, ad, had, _, _, _, _, _, _, _, _, _, _, _, _, _, _, _, _, _, _, _, _, _, _, _, _, _, _, _, _, _, _, _, _, _, _, _, _, _, _, _, _, _, _, _, _, hrd, fun b_x => (hcall x hxm I1 _ l1 fun e he => .tail _ (gP.mem e he)).mono fun e I2 G l2 ⟨x', Hx, he, px, ox, hG⟩ => ?_⟩
    subst he
    refine ⟨_, _, _, _, _, _, _, _, _, _, _, _, _, _, _, _, _, _, _, _, _, _, _, _, _, _, _, _, _, _, _, _, _, _, _, _, _, _, _, _, _, _, _, _, rfl, Hx ++ F1, hG.trans (perm_of fun z => by simp only [cn_app, cn_cons, cn_nil]; omega), fun b I3 l3 hb => ?_⟩
    refine TriE.mono (push_spec (f := DoN.enc) (fun _ => rfl) (zv := (⟨0, 0, ⟨#[]⟩, zNd, zNd, zNd, zNd, 0⟩ : DoN).v) (by' := 320) (by kernel_rfl) (by kernel_rfl) rfl (by decide) gP (x := x') (fun u hu => ?_) (R0 := [(b_x, Obj.cells x.enc.toArray 89 (0, 0))]) rfl hb (Hx := Hx) ox (.refl _) (by omega)) fun v I4 G2 l4 ⟨a', n', c', hv, F3, hG2, hP2⟩ => ?_
    · simp only [DoN.enc, List.mem_cons, List.not_mem_nil, or_false] at hu
      rcases hu with rfl | rfl | rfl | rfl | rfl | rfl | rfl | rfl | rfl | rfl | rfl | rfl | rfl | rfl | rfl | rfl | rfl | rfl | rfl | rfl | rfl | rfl | rfl | rfl | rfl | rfl | rfl | rfl | rfl | rfl | rfl | rfl | rfl | rfl | rfl | rfl <;> rfl
    · refine ⟨a', n', c', hv, F3, hG2, (l.length - (i + 1)).toNat, by omega, ?_⟩
      rw [w64 (n := i + 1) (by omega)]
      refine ⟨by omega, by omega, rfl, Imm.le_trans l1 (Imm.le_trans l2 (Imm.le_trans l3 l4)), _, ?_, hP2⟩
      rw [show (i + 1).toNat = i.toNat + 1 by omega, map_snoc hx, List.map_append, gk, List.map_singleton, px]
  · have hlt := of_decide_eq_false hlt
    have hn := gP.len
    subst hn
    obtain ⟨H, hO, hp⟩ := gP.own
    exact ⟨oa, oc, ks, H, rfl, by rw [gk, List.take_of_length_le (by omega)], hO, hp⟩
theorem eachRule_spec {a : Option Addr} {c : Nat} {l : List RuleN} {y : Fn} {ya yb : Array Value} {γ : Type} (p : RuleN → γ) (q : γ → γ) (I : Imm) (F : Heap) (hl : l.length ≤ 1048576) (ha : SlG I F 10 RuleN.enc a l.length l)
    (hcall : ∀ x ∈ l, ∀ J G, Imm.le I J → (∀ e, e ∈ F → e ∈ G) → TriV P (.func y ya yb) [x.v] J G fun e J' G' => ∃ (x' : RuleN) (H : Heap), e = .returned x'.v ∧ p x' = q (p x) ∧ RuleOwn false x' H ∧ G'.Perm (H ++ G)) :
    Tri P 51 #[.slice a l.length c, .func y ya yb] I F fun e I' G => ∃ (a' : Option Addr) (c' : Nat) (l' : List RuleN) (H : Heap), e = .returned (.slice a' l'.length c') ∧ l'.map p = (l.map p).map q ∧ OwnL false 10 RuleN.enc 67 (RuleOwn false) a' l'.length c' l' H ∧ G.Perm (H ++ F) := by
  refine tree_eachRule.vc (fun a n c i m I' F' => 0 ≤ i ∧ i ≤ l.length ∧ m = (l.length - i).toNat ∧ Imm.le I I' ∧ ∃ ks : List RuleN, ks.map p = ((l.take i.toNat).map p).map q ∧ Part 10 RuleN.enc 67 (RuleOwn false) a n c ks F F') ?_
  unfold tree_eachRule.V
  refine ⟨⟨_, by omega, by omega, rfl, Imm.le_refl I, [], by simp, Part.nil⟩, fun oa on oc i m1 I1 F1 _ ⟨g0, g1, gm, l1, ks, gk, gP⟩ => ⟨fun hlt => ?_, fun hlt => ?_⟩⟩
  · have hlt := of_decide_eq_true hlt
    obtain ⟨ad, x, had, hx, hrd, hxm⟩ := SlG.atm (ha.mono l1 gP.mem) g0 hlt
    have hkl := map_len gk (by omega)
    refine ⟨⟨g0, hlt⟩, ad, had, _, _, _, _, _, _, _, _, _, _, _, _, _, _, hrd, fun b_x => (hcall x hxm I1 _ l1 fun e he => .tail _ (gP.mem e he)).mono fun e I2 G l2 ⟨x', Hx, he, px, ox, hG⟩ => ?_⟩
    subst he
    refine ⟨_, _, _, _, _, _, _, _, _, _, _, _, _, _, rfl, Hx ++ F1, hG.trans (perm_of fun z => by simp only [cn_app, cn_cons, cn_nil]; omega), fun b I3 l3 hb => ?_⟩
    refine TriE.mono (push_spec (f := RuleN.enc) (fun _ => rfl) (zv := (⟨zNd, none, 0, [], 0⟩ : RuleN).v) (by' := 104) (by kernel_rfl) (by kernel_rfl) rfl (by decide) gP (x := x') (fun u hu => ?_) (R0 := [(b_x, Obj.cells x.enc.toArray 67 (0, 0))]) rfl hb (Hx := Hx) ox (.refl _) (by omega)) fun v I4 G2 l4 ⟨a', n', c', hv, F3, hG2, hP2⟩ => ?_
    · simp only [RuleN.enc, List.mem_cons, List.not_mem_nil, or_false] at hu
      rcases hu with rfl | rfl | rfl | rfl | rfl | rfl | rfl | rfl | rfl | rfl <;> rfl
    · refine ⟨a', n', c', hv, F3, hG2, (l.length - (i + 1)).toNat, by omega, ?_⟩
      rw [w64 (n := i + 1) (by omega)]
      refine ⟨by omega, by omega, rfl, Imm.le_trans l1 (Imm.le_trans l2 (Imm.le_trans l3 l4)), _, ?_, hP2⟩
      rw [show (i + 1).toNat = i.toNat + 1 by omega, map_snoc hx, List.map_append, gk, List.map_singleton, px]
  · have hlt := of_decide_eq_false hlt
    have hn := gP.len
    subst hn
    obtain ⟨H, hO, hp⟩ := gP.own
    exact ⟨oa, oc, ks, H, rfl, by rw [gk, List.take_of_length_le (by omega)], hO, hp⟩
theorem eachReg_spec {a : Option Addr} {c : Nat} {l : List RegN} {y : Fn} {ya yb : Array Value} {γ : Type} (p : RegN → γ) (q : γ → γ) (I : Imm) (F : Heap) (hl : l.length ≤ 1048576) (ha : SlG I F 11 RegN.enc a l.length l)
    (hcall : ∀ x ∈ l, ∀ J G, Imm.le I J → (∀ e, e ∈ F → e ∈ G) → TriV P (.func y ya yb) [x.v] J G fun e J' G' => ∃ (x' : RegN) (H : Heap), e = .returned x'.v ∧ p x' = q (p x) ∧ RegOwn false x' H ∧ G'.Perm (H ++ G)) :
    Tri P 45 #[.slice a l.length c, .func y ya yb] I F fun e I' G => ∃ (a' : Option Addr) (c' : Nat) (l' : List RegN) (H : Heap), e = .returned (.slice a' l'.length c') ∧ l'.map p = (l.map p).map q ∧ OwnL false 11 RegN.enc 75 (RegOwn false) a' l'.length c' l' H ∧ G.Perm (H ++ F) := by
  refine tree_eachReg.vc (fun a n c i m I' F' => 0 ≤ i ∧ i ≤ l.length ∧ m = (l.length - i).toNat ∧ Imm.le I I' ∧ ∃ ks : List RegN, ks.map p = ((l.take i.toNat).map p).map q ∧ Part 11 RegN.enc 75 (RegOwn false) a n c ks F F') ?_
  unfold tree_eachReg.V
  refine ⟨⟨_, by omega, by omega, rfl, Imm.le_refl I, [], by simp, Part.nil⟩, fun oa on oc i m1 I1 F1 _ ⟨g0, g1, gm, l1, ks, gk, gP⟩ => ⟨fun hlt => ?_, fun hlt => ?_⟩⟩
  · have hlt := of_decide_eq_true hlt
    obtain ⟨ad, x, had, hx, hrd, hxm⟩ := SlG.atm (ha.mono l1 gP.mem) g0 hlt
    have hkl := map_len gk (by omega)
    refine ⟨⟨g0, hlt⟩, ad, had, _, _, _, _, _, _, _, _, _, _, _, _, _, hrd, fun b_x => (hcall x hxm I1 _ l1 fun e he => .tail _ (gP.mem e he)).mono fun e I2 G l2 ⟨x', Hx, he, px, ox, hG⟩ => ?_⟩
    subst he
    refine ⟨_, _, _, _, _, _, _, _, _, _, _, _, _, rfl, Hx ++ F1, hG.trans (perm_of fun z => by simp only [cn_app, cn_cons, cn_nil]; omega), fun b I3 l3 hb => ?_⟩
    refine TriE.mono (push_spec (f := RegN.enc) (fun _ => rfl) (zv := (⟨⟨#[]⟩, 0, zNd, 0⟩ : RegN).v) (by' := 104) (by kernel_rfl) (by kernel_rfl) rfl (by decide) gP (x := x') (fun u hu => ?_) (R0 := [(b_x, Obj.cells x.enc.toArray 75 (0, 0))]) rfl hb (Hx := Hx) ox (.refl _) (by omega)) fun v I4 G2 l4 ⟨a', n', c', hv, F3, hG2, hP2⟩ => ?_
    · simp only [RegN.enc, List.mem_cons, List.not_mem_nil, or_false] at hu
      rcases hu with rfl | rfl | rfl | rfl | rfl | rfl | rfl | rfl | rfl | rfl | rfl <;> rfl
    · refine ⟨a', n', c', hv, F3, hG2, (l.length - (i + 1)).toNat, by omega, ?_⟩
      rw [w64 (n := i + 1) (by omega)]
      refine ⟨by omega, by omega, rfl, Imm.le_trans l1 (Imm.le_trans l2 (Imm.le_trans l3 l4)), _, ?_, hP2⟩
      rw [show (i + 1).toNat = i.toNat + 1 by omega, map_snoc hx, List.map_append, gk, List.map_singleton, px]
  · have hlt := of_decide_eq_false hlt
    have hn := gP.len
    subst hn
    obtain ⟨H, hO, hp⟩ := gP.own
    exact ⟨oa, oc, ks, H, rfl, by rw [gk, List.take_of_length_le (by omega)], hO, hp⟩
theorem eachSlot_spec {a : Option Addr} {c : Nat} {l : List SlotP} {y : Fn} {ya yb : Array Value} {γ : Type} (p : SlotP → γ) (q : γ → γ) (I : Imm) (F : Heap) (hl : l.length ≤ 1048576) (ha : SlG I F 2 SlotP.enc a l.length l)
    (hcall : ∀ x ∈ l, ∀ J G, Imm.le I J → (∀ e, e ∈ F → e ∈ G) → TriV P (.func y ya yb) [x.v] J G fun e J' G' => ∃ (x' : SlotP) (H : Heap), e = .returned x'.v ∧ p x' = q (p x) ∧ SlotOwn x' H ∧ G'.Perm (H ++ G)) :
    Tri P 47 #[.slice a l.length c, .func y ya yb] I F fun e I' G => ∃ (a' : Option Addr) (c' : Nat) (l' : List SlotP) (H : Heap), e = .returned (.slice a' l'.length c') ∧ l'.map p = (l.map p).map q ∧ OwnL false 2 SlotP.enc 77 (SlotOwn) a' l'.length c' l' H ∧ G.Perm (H ++ F) := by
  refine tree_eachSlot.vc (fun a n c i m I' F' => 0 ≤ i ∧ i ≤ l.length ∧ m = (l.length - i).toNat ∧ Imm.le I I' ∧ ∃ ks : List SlotP, ks.map p = ((l.take i.toNat).map p).map q ∧ Part 2 SlotP.enc 77 (SlotOwn) a n c ks F F') ?_
  unfold tree_eachSlot.V
  refine ⟨⟨_, by omega, by omega, rfl, Imm.le_refl I, [], by simp, Part.nil⟩, fun oa on oc i m1 I1 F1 _ ⟨g0, g1, gm, l1, ks, gk, gP⟩ => ⟨fun hlt => ?_, fun hlt => ?_⟩⟩
  · have hlt := of_decide_eq_true hlt
    obtain ⟨ad, x, had, hx, hrd, hxm⟩ := SlG.atm (ha.mono l1 gP.mem) g0 hlt
    have hkl := map_len gk (by omega)
    refine ⟨⟨g0, hlt⟩, ad, had, _, _, hrd, fun b_x => (hcall x hxm I1 _ l1 fun e he => .tail _ (gP.mem e he)).mono fun e I2 G l2 ⟨x', Hx, he, px, ox, hG⟩ => ?_⟩
    subst he
    refine ⟨_, _, rfl, Hx ++ F1, hG.trans (perm_of fun z => by simp only [cn_app, cn_cons, cn_nil]; omega), fun b I3 l3 hb => ?_⟩
    refine TriE.mono (push_spec (f := SlotP.enc) (fun _ => rfl) (zv := (⟨⟨#[]⟩, 0⟩ : SlotP).v) (by' := 24) (by kernel_rfl) (by kernel_rfl) rfl (by decide) gP (x := x') (fun u hu => ?_) (R0 := [(b_x, Obj.cells x.enc.toArray 77 (0, 0))]) rfl hb (Hx := Hx) ox (.refl _) (by omega)) fun v I4 G2 l4 ⟨a', n', c', hv, F3, hG2, hP2⟩ => ?_
    · simp only [SlotP.enc, List.mem_cons, List.not_mem_nil, or_false] at hu
      rcases hu with rfl | rfl <;> rfl
    · refine ⟨a', n', c', hv, F3, hG2, (l.length - (i + 1)).toNat, by omega, ?_⟩
      rw [w64 (n := i + 1) (by omega)]
      refine ⟨by omega, by omega, rfl, Imm.le_trans l1 (Imm.le_trans l2 (Imm.le_trans l3 l4)), _, ?_, hP2⟩
      rw [show (i + 1).toNat = i.toNat + 1 by omega, map_snoc hx, List.map_append, gk, List.map_singleton, px]
  · have hlt := of_decide_eq_false hlt
    have hn := gP.len
    subst hn
    obtain ⟨H, hO, hp⟩ := gP.own
    exact ⟨oa, oc, ks, H, rfl, by rw [gk, List.take_of_length_le (by omega)], hO, hp⟩
theorem eachState_spec {a : Option Addr} {c : Nat} {l : List StateN} {y : Fn} {ya yb : Array Value} {γ : Type} (p : StateN → γ) (q : γ → γ) (I : Imm) (F : Heap) (hl : l.length ≤ 1048576) (ha : SlG I F 3 StateN.enc a l.length l)
    (hcall : ∀ x ∈ l, ∀ J G, Imm.le I J → (∀ e, e ∈ F → e ∈ G) → TriV P (.func y ya yb) [x.v] J G fun e J' G' => ∃ (x' : StateN) (H : Heap), e = .returned x'.v ∧ p x' = q (p x) ∧ StateOwn false x' H ∧ G'.Perm (H ++ G)) :
    Tri P 49 #[.slice a l.length c, .func y ya yb] I F fun e I' G => ∃ (a' : Option Addr) (c' : Nat) (l' : List StateN) (H : Heap), e = .returned (.slice a' l'.length c') ∧ l'.map p = (l.map p).map q ∧ OwnL false 3 StateN.enc 70 (StateOwn false) a' l'.length c' l' H ∧ G.Perm (H ++ F) := by
  refine tree_eachState.vc (fun a n c i m I' F' => 0 ≤ i ∧ i ≤ l.length ∧ m = (l.length - i).toNat ∧ Imm.le I I' ∧ ∃ ks : List StateN, ks.map p = ((l.take i.toNat).map p).map q ∧ Part 3 StateN.enc 70 (StateOwn false) a n c ks F F') ?_
  unfold tree_eachState.V
  refine ⟨⟨_, by omega, by omega, rfl, Imm.le_refl I, [], by simp, Part.nil⟩, fun oa on oc i m1 I1 F1 _ ⟨g0, g1, gm, l1, ks, gk, gP⟩ => ⟨fun hlt => ?_, fun hlt => ?_⟩⟩
  · have hlt := of_decide_eq_true hlt
    obtain ⟨ad, x, had, hx, hrd, hxm⟩ := SlG.atm (ha.mono l1 gP.mem) g0 hlt
    have hkl := map_len gk (by omega)
    refine ⟨⟨g0, hlt⟩, ad, had, _, _, _, _, _, hrd, fun b_x => (hcall x hxm I1 _ l1 fun e he => .tail _ (gP.mem e he)).mono fun e I2 G l2 ⟨x', Hx, he, px, ox, hG⟩ => ?_⟩
    subst he
    refine ⟨_, _, _, _, _, rfl, Hx ++ F1, hG.trans (perm_of fun z => by simp only [cn_app, cn_cons, cn_nil]; omega), fun b I3 l3 hb => ?_⟩
    refine TriE.mono (push_spec (f := StateN.enc) (fun _ => rfl) (zv := (⟨⟨#[]⟩, none, 0, [], 0⟩ : StateN).v) (by' := 48) (by kernel_rfl) (by kernel_rfl) rfl (by decide) gP (x := x') (fun u hu => ?_) (R0 := [(b_x, Obj.cells x.enc.toArray 70 (0, 0))]) rfl hb (Hx := Hx) ox (.refl _) (by omega)) fun v I4 G2 l4 ⟨a', n', c', hv, F3, hG2, hP2⟩ => ?_
    · simp only [StateN.enc, List.mem_cons, List.not_mem_nil, or_false] at hu
      rcases hu with rfl | rfl | rfl <;> rfl
    · refine ⟨a', n', c', hv, F3, hG2, (l.length - (i + 1)).toNat, by omega, ?_⟩
      rw [w64 (n := i + 1) (by omega)]
      refine ⟨by omega, by omega, rfl, Imm.le_trans l1 (Imm.le_trans l2 (Imm.le_trans l3 l4)), _, ?_, hP2⟩
      rw [show (i + 1).toNat = i.toNat + 1 by omega, map_snoc hx, List.map_append, gk, List.map_singleton, px]
  · have hlt := of_decide_eq_false hlt
    have hn := gP.len
    subst hn
    obtain ⟨H, hO, hp⟩ := gP.own
    exact ⟨oa, oc, ks, H, rfl, by rw [gk, List.take_of_length_le (by omega)], hO, hp⟩
end Go.Lx
namespace Go.Lx
open Go.Vc
theorem enters_s1 : Enters P 35 := hP_of [35] (by kernel_rfl) _ (by decide)
theorem enters_s2 : Enters P 36 := hP_of [36] (by kernel_rfl) _ (by decide)
theorem enters_s3 : Enters P 37 := hP_of [37] (by kernel_rfl) _ (by decide)
theorem enters_s4 : Enters P 38 := hP_of [38] (by kernel_rfl) _ (by decide)
theorem enters_s5 : Enters P 40 := hP_of [40] (by kernel_rfl) _ (by decide)
theorem s1_spec (r q : RegN) (hs : r.init.px.size ≤ 1048576) (I : Imm) (F : Heap) (hr : r.Ok I F) (hq : q.Ok I F) : Tri P 35 #[r.v, q.v] I F (Ret (.bool (r.p.like q.p)) F) := by
  refine tree_Same_1.vc ?_
  unfold tree_Same_1.V
  intro b_a b_b
  have hdef : r.p.like q.p = (r.name.toList == q.name.toList && (r.typ == q.typ && r.init.px.like q.init.px)) := rfl
  rw [hdef]
  refine ⟨fun h1 => ⟨fun h2 => Tri.ret (sameExpr_spec r.init hs q.init I _ (NdOk.mono hr (Imm.le_refl I) fun a ha => .tail _ (.tail _ ha)) (NdOk.mono hq (Imm.le_refl I) fun a ha => .tail _ (.tail _ ha))) fun I1 l1 => ⟨_, rfl, F, .refl _, ?_, rfl⟩, fun h2 => ⟨?_, rfl⟩⟩, fun h1 => ⟨?_, rfl⟩⟩
  · rw [h1, h2]; rfl
  · rw [h1, h2]; rfl
  · rw [h1]; rfl
theorem s2_spec (r q : SlotP) (I : Imm) (F : Heap) : Tri P 36 #[r.v, q.v] I F (Ret (.bool (r.like q)) F) := by
  refine tree_Same_2.vc ?_
  unfold tree_Same_2.V
  intro b_a b_b
  exact ⟨rfl, rfl⟩
theorem s3_spec (d e : DoN) (hs : d.p.Light) (I : Imm) (F : Heap) (hd : d.Ok I F) (he : e.Ok I F) : Tri P 37 #[d.v, e.v] I F (Ret (.bool (d.p.like e.p)) F) := by
  refine tree_Same_3.vc ?_
  unfold tree_Same_3.V
  intro b_a b_b
  simp only [DoP.Light, Small, DoP.nds, DoN.p, List.mem_cons, List.not_mem_nil, or_false] at hs
  have z1 := hs _ (.inl rfl)
  have z2 := hs _ (.inr (.inl rfl))
  have z3 := hs _ (.inr (.inr (.inl rfl)))
  have z4 := hs _ (.inr (.inr (.inr rfl)))
  have od : ∀ {J : Imm}, Imm.le I J → d.Ok J ((b_a, Obj.cells #[.int .u8 d.kind, .int .u8 d.order, .string d.name, .int .u8 d.side.kind, .int .u8 d.side.oper, .int .u8 d.side.typ, .int .i64 d.side.n, .int .u8 d.side.field, .string d.side.name, .slice d.side.a d.side.kids.length d.side.c, .int .i64 d.side.pos, .int .u8 d.qty.kind, .int .u8 d.qty.oper, .int .u8 d.qty.typ, .int .i64 d.qty.n, .int .u8 d.qty.field, .string d.qty.name, .slice d.qty.a d.qty.kids.length d.qty.c, .int .i64 d.qty.pos, .int .u8 d.price.kind, .int .u8 d.price.oper, .int .u8 d.price.typ, .int .i64 d.price.n, .int .u8 d.price.field, .string d.price.name, .slice d.price.a d.price.kids.length d.price.c, .int .i64 d.price.pos, .int .u8 d.value.kind, .int .u8 d.value.oper, .int .u8 d.value.typ, .int .i64 d.value.n, .int .u8 d.value.field, .string d.value.name, .slice d.value.a d.value.kids.length d.value.c, .int .i64 d.value.pos, .int .i64 d.pos] 89 (0, 0)) :: (b_b, Obj.cells #[.int .u8 e.kind, .int .u8 e.order, .string e.name, .int .u8 e.side.kind, .int .u8 e.side.oper, .int .u8 e.side.typ, .int .i64 e.side.n, .int .u8 e.side.field, .string e.side.name, .slice e.side.a e.side.kids.length e.side.c, .int .i64 e.side.pos, .int .u8 e.qty.kind, .int .u8 e.qty.oper, .int .u8 e.qty.typ, .int .i64 e.qty.n, .int .u8 e.qty.field, .string e.qty.name, .slice e.qty.a e.qty.kids.length e.qty.c, .int .i64 e.qty.pos, .int .u8 e.price.kind, .int .u8 e.price.oper, .int .u8 e.price.typ, .int .i64 e.price.n, .int .u8 e.price.field, .string e.price.name, .slice e.price.a e.price.kids.length e.price.c, .int .i64 e.price.pos, .int .u8 e.value.kind, .int .u8 e.value.oper, .int .u8 e.value.typ, .int .i64 e.value.n, .int .u8 e.value.field, .string e.value.name, .slice e.value.a e.value.kids.length e.value.c, .int .i64 e.value.pos, .int .i64 e.pos] 89 (0, 0)) :: F) := fun hl => (hd.mono hl fun _ h => h).cons.cons
  have oe : ∀ {J : Imm}, Imm.le I J → e.Ok J ((b_a, Obj.cells #[.int .u8 d.kind, .int .u8 d.order, .string d.name, .int .u8 d.side.kind, .int .u8 d.side.oper, .int .u8 d.side.typ, .int .i64 d.side.n, .int .u8 d.side.field, .string d.side.name, .slice d.side.a d.side.kids.length d.side.c, .int .i64 d.side.pos, .int .u8 d.qty.kind, .int .u8 d.qty.oper, .int .u8 d.qty.typ, .int .i64 d.qty.n, .int .u8 d.qty.field, .string d.qty.name, .slice d.qty.a d.qty.kids.length d.qty.c, .int .i64 d.qty.pos, .int .u8 d.price.kind, .int .u8 d.price.oper, .int .u8 d.price.typ, .int .i64 d.price.n, .int .u8 d.price.field, .string d.price.name, .slice d.price.a d.price.kids.length d.price.c, .int .i64 d.price.pos, .int .u8 d.value.kind, .int .u8 d.value.oper, .int .u8 d.value.typ, .int .i64 d.value.n, .int .u8 d.value.field, .string d.value.name, .slice d.value.a d.value.kids.length d.value.c, .int .i64 d.value.pos, .int .i64 d.pos] 89 (0, 0)) :: (b_b, Obj.cells #[.int .u8 e.kind, .int .u8 e.order, .string e.name, .int .u8 e.side.kind, .int .u8 e.side.oper, .int .u8 e.side.typ, .int .i64 e.side.n, .int .u8 e.side.field, .string e.side.name, .slice e.side.a e.side.kids.length e.side.c, .int .i64 e.side.pos, .int .u8 e.qty.kind, .int .u8 e.qty.oper, .int .u8 e.qty.typ, .int .i64 e.qty.n, .int .u8 e.qty.field, .string e.qty.name, .slice e.qty.a e.qty.kids.length e.qty.c, .int .i64 e.qty.pos, .int .u8 e.price.kind, .int .u8 e.price.oper, .int .u8 e.price.typ, .int .i64 e.price.n, .int .u8 e.price.field, .string e.price.name, .slice e.price.a e.price.kids.length e.price.c, .int .i64 e.price.pos, .int .u8 e.value.kind, .int .u8 e.value.oper, .int .u8 e.value.typ, .int .i64 e.value.n, .int .u8 e.value.field, .string e.value.name, .slice e.value.a e.value.kids.length e.value.c, .int .i64 e.value.pos, .int .i64 e.pos] 89 (0, 0)) :: F) := fun hl => (he.mono hl fun _ h => h).cons.cons
  have hdef : d.p.like e.p = (d.kind == e.kind && (d.order == e.order && (d.name.toList == e.name.toList && (d.side.px.like e.side.px && (d.qty.px.like e.qty.px && (d.price.px.like e.price.px && d.value.px.like e.value.px)))))) := rfl
  rw [hdef]
  refine ⟨fun h1 => ⟨fun h2 => ⟨fun h3 => ?_, fun h3 => ⟨?_, rfl⟩⟩, fun h2 => ⟨?_, rfl⟩⟩, fun h1 => ⟨?_, rfl⟩⟩
  · refine Tri.ret (sameExpr_spec d.side z1 e.side I _ (od (Imm.le_refl I)).1 (oe (Imm.le_refl I)).1) fun I1 l1 => ⟨_, rfl, F, .refl _, fun h4 => ?_, fun h4 => ⟨?_, rfl⟩⟩
    · refine Tri.ret (sameExpr_spec d.qty z2 e.qty I1 _ (od l1).2.1 (oe l1).2.1) fun I2 h2' => ⟨_, rfl, F, .refl _, fun h5 => ?_, fun h5 => ⟨?_, rfl⟩⟩
      · have l2 := Imm.le_trans l1 h2'
        refine Tri.ret (sameExpr_spec d.price z3 e.price I2 _ (od l2).2.2.1 (oe l2).2.2.1) fun I3 h3' => ⟨_, rfl, F, .refl _, fun h6 => ?_, fun h6 => ⟨?_, rfl⟩⟩
        · have l3 := Imm.le_trans l2 h3'
          refine Tri.ret (sameExpr_spec d.value z4 e.value I3 _ (od l3).2.2.2 (oe l3).2.2.2) fun I4 h4' => ⟨_, rfl, F, .refl _, ?_, rfl⟩
          rw [h1, h2, h3, h4, h5, h6]; rfl
        · rw [h1, h2, h3, h4, h5, h6]; rfl
      · rw [h1, h2, h3, h4, h5]; rfl
    · rw [h1, h2, h3, h4]; rfl
  · rw [h1, h2, h3]; rfl
  · rw [h1, h2]; rfl
  · rw [h1]; rfl
theorem bothB_map {α β γ δ : Type} {f : γ → δ → Bool} {f' : α → β → Bool} {g : α → γ} {h : β → δ} {l : List α} {m : List β} (k : ∀ x ∈ l, ∀ y, f (g x) (h y) = f' x y) : bothB f (l.map g) (m.map h) = bothB f' l m := by
  unfold bothB; rw [List.length_map, List.length_map, eachB_map k]
def Holds (f : Nat) (cap : Array Value) (c : Addr) (I : Imm) (F : Heap) : Prop := ∀ J G, Imm.le I J → (∀ a, a ∈ F → a ∈ G) → Rd J G c [.func (.func f) #[] cap]
theorem s4_spec (r q : RuleN) (hs : r.p.Light) (I : Imm) (F : Heap) (hr : r.Ok I F) (hq : q.Ok I F) {c : Addr} (hc : Holds 37 #[] c I F) : Tri P 38 #[r.v, q.v, .pointer (some c)] I F (Ret (.bool (r.p.like q.p)) F) := by
  refine tree_Same_4.vc ?_
  unfold tree_Same_4.V
  intro b_a b_b
  have hl := hs.2.1
  simp only [RuleN.p, List.length_map] at hl
  have hdef : r.p.like q.p = (r.when.px.like q.when.px && bothB (fun d e : DoN => d.p.like e.p) r.dos q.dos) := by
    show (r.when.px.like q.when.px && bothB DoP.like (r.dos.map DoN.p) (q.dos.map DoN.p)) = _
    rw [bothB_map fun _ _ _ => rfl]
  have hsub : ∀ a, a ∈ F → a ∈ ((b_a, Obj.cells #[.int .u8 r.when.kind, .int .u8 r.when.oper, .int .u8 r.when.typ, .int .i64 r.when.n, .int .u8 r.when.field, .string r.when.name, .slice r.when.a r.when.kids.length r.when.c, .int .i64 r.when.pos, .slice r.a r.dos.length r.c, .int .i64 r.pos] 67 (0, 0)) :: (b_b, Obj.cells #[.int .u8 q.when.kind, .int .u8 q.when.oper, .int .u8 q.when.typ, .int .i64 q.when.n, .int .u8 q.when.field, .string q.when.name, .slice q.when.a q.when.kids.length q.when.c, .int .i64 q.when.pos, .slice q.a q.dos.length q.c, .int .i64 q.pos] 67 (0, 0)) :: F) := fun a ha => .tail _ (.tail _ ha)
  refine Tri.ret (sameExpr_spec r.when hs.1 q.when I _ hr.cons.cons.1 hq.cons.cons.1) fun I1 l1 => ⟨_, rfl, F, .refl _, fun h1 => ⟨_, _, _, hc _ _ l1 hsub, ?_⟩, fun h1 => ⟨?_, rfl⟩⟩
  · have hr1 := hr.mono l1 hsub
    have hq1 := hq.mono l1 hsub
    refine Tri.ret (bothDo_spec (fun d e : DoN => d.p.like e.p) I1 _ (by omega) hr1.2.1 hq1.2.1 fun x hx u hu J hl => TriV.fn enters_s3 (vs := #[x.v, u.v]) (by simp) (s3_spec x u (hs.2.2 _ (List.mem_map_of_mem hx)) J _ ((hr1.2.2 x hx).mono hl fun _ h => h) ((hq1.2.2 u hu).mono hl fun _ h => h))) fun I2 l2 => ⟨_, rfl, F, .refl _, ?_, rfl⟩
    rw [hdef, h1]; rfl
  · rw [hdef, h1]; rfl
theorem s5_spec (x y : StateN) (hs : x.p.Light) (I : Imm) (F : Heap) (hx : x.Ok I F) (hy : y.Ok I F) {c c' : Addr} (hc : Holds 38 #[.pointer (some c')] c I F) (hc' : Holds 37 #[] c' I F) :
    Tri P 40 #[x.v, y.v, .pointer (some c)] I F (Ret (.bool (x.p.like y.p)) F) := by
  refine tree_Same_5.vc ?_
  unfold tree_Same_5.V
  intro b_a b_b
  have hl := hs.1
  simp only [StateN.p, List.length_map] at hl
  have hdef : x.p.like y.p = (x.name.toList == y.name.toList && bothB (fun d e : RuleN => d.p.like e.p) x.rules y.rules) := by
    show (x.name.toList == y.name.toList && bothB RuleP.like (x.rules.map RuleN.p) (y.rules.map RuleN.p)) = _
    rw [bothB_map fun _ _ _ => rfl]
  have hsub : ∀ a, a ∈ F → a ∈ ((b_a, Obj.cells #[.string x.name, .slice x.a x.rules.length x.c, .int .i64 x.pos] 70 (0, 0)) :: (b_b, Obj.cells #[.string y.name, .slice y.a y.rules.length y.c, .int .i64 y.pos] 70 (0, 0)) :: F) := fun a ha => .tail _ (.tail _ ha)
  refine ⟨fun h1 => ⟨_, _, _, hc _ _ (Imm.le_refl I) hsub, ?_⟩, fun h1 => ⟨?_, rfl⟩⟩
  · have hr1 := hx.mono (Imm.le_refl I) hsub
    have hq1 := hy.mono (Imm.le_refl I) hsub
    refine Tri.ret (bothRule_spec (fun d e : RuleN => d.p.like e.p) I _ (by omega) hr1.1 hq1.1 fun r hr q hq J hl => TriV.fn enters_s4 (vs := #[r.v, q.v, .pointer (some c')]) (by simp) (s4_spec r q (hs.2 _ (List.mem_map_of_mem hr)) J _ ((hr1.2 r hr).mono hl fun _ h => h) ((hq1.2 q hq).mono hl fun _ h => h) fun J' G' hl' hs' => hc' _ _ (Imm.le_trans hl hl') fun a ha => hs' a (hsub a ha))) fun I2 l2 => ⟨_, rfl, F, .refl _, ?_, rfl⟩
    rw [hdef, h1]; rfl
  · rw [hdef, h1]; rfl
theorem Same_spec (s u : StgN) (hs : s.p.Light) (I : Imm) (F : Heap) (hx : s.Ok I F) (hy : u.Ok I F) : Tri P 8 #[s.v, u.v] I F fun e I' G => e = .returned (.bool (s.p.like u.p)) ∧ ∃ H, G.Perm (H ++ F) := by
  refine tree_Same.vc ?_
  unfold tree_Same.V
  intro b_a b_b b_dos
  have lr := hs.regs
  have ls := hs.slots
  have lt := hs.states
  simp only [StgN.p, List.length_map] at lr ls lt
  have hdef : s.p.like u.p = (s.name.toList == u.name.toList && (bothB (fun d e : RegN => d.p.like e.p) s.regs u.regs && (bothB SlotP.like s.slots u.slots && bothB (fun d e : StateN => d.p.like e.p) s.states u.states))) := by
    show (s.name.toList == u.name.toList && (bothB RegP.like (s.regs.map RegN.p) (u.regs.map RegN.p) && (bothB SlotP.like s.slots u.slots && bothB StateP.like (s.states.map StateN.p) (u.states.map StateN.p)))) = _
    rw [bothB_map fun _ _ _ => rfl, bothB_map fun _ _ _ => rfl]
  refine ⟨[.nilFunc], 90, F, .refl _, rfl, Nat.le_refl _, fun b_rules => ⟨[.nilFunc], 92, (b_dos, Obj.cells #[.func (.func 37) #[] #[]] 90 (0, 0)) :: F, .refl _, rfl, Nat.le_refl _, fun h1 => ?_, fun h1 => ⟨?_, [_, _], .refl _⟩⟩⟩
  · have hsub : ∀ {G : Heap}, (∀ a, a ∈ F → a ∈ G) → ∀ a, a ∈ F → a ∈ G := fun h => h
    have sub4 : ∀ (x1 x2 x3 x4 : Nat × Obj), ∀ a, a ∈ F → a ∈ x1 :: x2 :: x3 :: x4 :: F := fun _ _ _ _ a ha => .tail _ (.tail _ (.tail _ (.tail _ ha)))
    refine Tri.ret (bothReg_spec (fun d e : RegN => d.p.like e.p) I _ (by omega) (hx.mono (Imm.le_refl I) (sub4 _ _ _ _)).regs (hy.mono (Imm.le_refl I) (sub4 _ _ _ _)).regs fun r hr q hq J hl => TriV.fn enters_s1 (vs := #[r.v, q.v]) (by simp) (s1_spec r q (hs.reg _ (List.mem_map_of_mem hr)) J _ ((hx.reg r hr).mono hl (sub4 _ _ _ _)) ((hy.reg q hq).mono hl (sub4 _ _ _ _)))) fun I1 l1 => ⟨_, rfl, _, .refl _, fun h2 => ?_, fun h2 => ⟨?_, [_, _], .refl _⟩⟩
    · refine Tri.ret (bothSlot_spec SlotP.like I1 _ (by omega) (hx.mono l1 (sub4 _ _ _ _)).slots (hy.mono l1 (sub4 _ _ _ _)).slots fun r hr q hq J hl => TriV.fn enters_s2 (vs := #[r.v, q.v]) (by simp) (s2_spec r q J _)) fun I2 l2' => ⟨_, rfl, _, .refl _, fun h3 => ?_, fun h3 => ⟨?_, [_, _], .refl _⟩⟩
      · have l2 := Imm.le_trans l1 l2'
        refine Tri.ret (bothState_spec (fun d e : StateN => d.p.like e.p) I2 _ (by omega) (hx.mono l2 (sub4 _ _ _ _)).states (hy.mono l2 (sub4 _ _ _ _)).states fun r hr q hq J hl => TriV.fn enters_s5 (vs := #[r.v, q.v, .pointer (some ⟨b_rules, 0, none⟩)]) (by simp)
          (s5_spec r q (hs.state _ (List.mem_map_of_mem hr)) J _ ((hx.state r hr).mono (Imm.le_trans l2 hl) (sub4 _ _ _ _)) ((hy.state q hq).mono (Imm.le_trans l2 hl) (sub4 _ _ _ _)) (c := ⟨b_rules, 0, none⟩) (c' := ⟨b_dos, 0, none⟩)
            (fun J' G' _ hs' => Rd.of_own (hs' _ (.tail _ (.tail _ (List.mem_cons_self ..)))) 0 fun j hj => ?_) (fun J' G' _ hs' => Rd.of_own (hs' _ (.tail _ (.tail _ (.tail _ (List.mem_cons_self ..))))) 0 fun j hj => ?_))) fun I3 l3 => ⟨_, rfl, _, .refl _, ?_, [_, _], .refl _⟩
        · obtain rfl : j = 0 := by simpa using hj
          rfl
        · obtain rfl : j = 0 := by simpa using hj
          rfl
        · rw [hdef, h1, h2, h3]; rfl
      · rw [hdef, h1, h2, h3]; rfl
    · rw [hdef, h1, h2]; rfl
  · rw [hdef, h1]; rfl
end Go.Lx
namespace Go.Lx
open Go.Vc
theorem enters_b1 : Enters P 46 := hP_of [46] (by kernel_rfl) _ (by decide)
theorem enters_b2 : Enters P 48 := hP_of [48] (by kernel_rfl) _ (by decide)
theorem enters_b3 : Enters P 50 := hP_of [50] (by kernel_rfl) _ (by decide)
theorem enters_b31 : Enters P 52 := hP_of [52] (by kernel_rfl) _ (by decide)
theorem enters_b311 : Enters P 54 := hP_of [54] (by kernel_rfl) _ (by decide)
theorem b1_spec (r : RegN) (hs : r.init.px.size ≤ 1048576) (I : Imm) (F : Heap) (hr : r.Ok I F) : Tri P 46 #[r.v] I F fun e I' G => ∃ (r' : RegN) (H : Heap), e = .returned r'.v ∧ r'.p = r.p.bare ∧ RegOwn false r' H ∧ G.Perm (H ++ F) := by
  refine tree_Bare_1.vc ?_
  unfold tree_Bare_1.V
  intro b_r b
  refine (bareExpr_spec r.init hs I _ (NdOk.mono hr (Imm.le_refl I) fun a ha => .tail _ (.tail _ ha))).mono fun e I1 G l1 ⟨w, Hw, he, pw, ow, hG⟩ => ?_
  subst he
  refine ⟨_, _, _, _, _, _, _, _, _, _, rfl, Hw ++ F, hG.trans (perm_of fun z => by simp only [cn_app, cn_cons, cn_nil]; omega), ⟨r.name, r.typ, w, 0⟩, Hw, rfl, ?_, ow, .refl _⟩
  show RegP.mk r.name r.typ w.px 0 = ⟨r.name, r.typ, r.init.px.bare, 0⟩
  rw [pw]
theorem b2_spec (r : SlotP) (I : Imm) (F : Heap) : Tri P 48 #[r.v] I F fun e I' G => ∃ (r' : SlotP) (H : Heap), e = .returned r'.v ∧ r' = r.bare ∧ SlotOwn r' H ∧ G.Perm (H ++ F) := by
  refine tree_Bare_2.vc ?_
  unfold tree_Bare_2.V
  intro b_x b
  exact ⟨r.bare, [], rfl, rfl, rfl, .refl _⟩
theorem b311_spec (d : DoN) (hs : d.p.Light) (I : Imm) (F : Heap) (hd : d.Ok I F) : Tri P 54 #[d.v] I F fun e I' G => ∃ (d' : DoN) (H : Heap), e = .returned d'.v ∧ d'.p = d.p.bare ∧ DoOwn false d' H ∧ G.Perm (H ++ F) := by
  refine tree_Bare_3_1_1.vc ?_
  unfold tree_Bare_3_1_1.V
  intro b_d b
  simp only [DoP.Light, Small, DoP.nds, DoN.p, List.mem_cons, List.not_mem_nil, or_false] at hs
  refine (bareExpr_spec d.side (hs _ (.inl rfl)) I _ hd.1.cons.cons).mono fun e I1 G l1 ⟨t1, H1, he, p1, o1, hG⟩ => ?_
  subst he
  refine ⟨_, _, _, _, _, _, _, _, _, _, rfl, H1 ++ F, hG.trans (perm_of fun z => by simp only [cn_app, cn_cons, cn_nil]; omega), ?_⟩
  have k1 : d.Ok I1 (H1 ++ F) := hd.mono l1 fun a ha => List.mem_append_right _ ha
  refine (bareExpr_spec d.qty (hs _ (.inr (.inl rfl))) I1 _ k1.2.1.cons.cons).mono fun e I2 G l2 ⟨t2, H2, he, p2, o2, hG⟩ => ?_
  subst he
  refine ⟨_, _, _, _, _, _, _, _, _, _, rfl, H2 ++ (H1 ++ F), hG.trans (perm_of fun z => by simp only [cn_app, cn_cons, cn_nil]; omega), ?_⟩
  have k2 : d.Ok I2 (H2 ++ (H1 ++ F)) := k1.mono l2 fun a ha => List.mem_append_right _ ha
  refine (bareExpr_spec d.price (hs _ (.inr (.inr (.inl rfl)))) I2 _ k2.2.2.1.cons.cons).mono fun e I3 G l3 ⟨t3, H3, he, p3, o3, hG⟩ => ?_
  subst he
  refine ⟨_, _, _, _, _, _, _, _, _, _, rfl, H3 ++ (H2 ++ (H1 ++ F)), hG.trans (perm_of fun z => by simp only [cn_app, cn_cons, cn_nil]; omega), ?_⟩
  have k3 : d.Ok I3 (H3 ++ (H2 ++ (H1 ++ F))) := k2.mono l3 fun a ha => List.mem_append_right _ ha
  refine (bareExpr_spec d.value (hs _ (.inr (.inr (.inr rfl)))) I3 _ k3.2.2.2.cons.cons).mono fun e I4 G l4 ⟨t4, H4, he, p4, o4, hG⟩ => ?_
  subst he
  refine ⟨_, _, _, _, _, _, _, _, _, _, rfl, H4 ++ (H3 ++ (H2 ++ (H1 ++ F))), hG.trans (perm_of fun z => by simp only [cn_app, cn_cons, cn_nil]; omega), ⟨d.kind, d.order, d.name, t1, t2, t3, t4, 0⟩, H1 ++ (H2 ++ (H3 ++ H4)), rfl, ?_, ⟨H1, H2, H3, H4, rfl, o1, o2, o3, o4⟩, (perm_of fun z => by simp only [cn_app, cn_cons, cn_nil]; omega)⟩
  show DoP.mk _ _ _ _ _ _ _ _ = _
  rw [p1, p2, p3, p4]; rfl
theorem b31_spec (r : RuleN) (hs : r.p.Light) (I : Imm) (F : Heap) (hr : r.Ok I F) : Tri P 52 #[r.v] I F fun e I' G => ∃ (r' : RuleN) (H : Heap), e = .returned r'.v ∧ r'.p = r.p.bare ∧ RuleOwn false r' H ∧ G.Perm (H ++ F) := by
  refine tree_Bare_3_1.vc ?_
  unfold tree_Bare_3_1.V
  intro b_r b
  have hl := hs.2.1
  simp only [RuleN.p, List.length_map] at hl
  refine (bareExpr_spec r.when hs.1 I _ hr.cons.cons.1).mono fun e I1 G l1 ⟨w, Hw, he, pw, ow, hG⟩ => ?_
  subst he
  refine ⟨_, _, _, _, _, _, _, _, _, _, rfl, Hw ++ F, hG.trans (perm_of fun z => by simp only [cn_app, cn_cons, cn_nil]; omega), ?_⟩
  have sub : ∀ (x y : Nat × Obj), ∀ a, a ∈ F → a ∈ x :: y :: (Hw ++ F) := fun _ _ a ha => .tail _ (.tail _ (List.mem_append_right _ ha))
  refine (eachDo_spec DoN.p DoP.bare I1 _ hl (hr.mono l1 (sub _ _)).2.1 fun d hd J G hj hs' => TriV.fn enters_b311 (vs := #[d.v]) (by simp) (b311_spec d (hs.2.2 _ (List.mem_map_of_mem hd)) J G (((hr.mono l1 (sub _ _)).2.2 d hd).mono hj hs'))).mono fun e I2 G l2 ⟨a', c', ds, Hd, he, pd, od, hG⟩ => ?_
  subst he
  refine ⟨_, _, _, rfl, Hd ++ (Hw ++ F), hG.trans (perm_of fun z => by simp only [cn_app, cn_cons, cn_nil]; omega), ⟨w, a', c', ds, 0⟩, Hw ++ Hd, rfl, ?_, ⟨Hw, Hd, rfl, ow, od⟩, (perm_of fun z => by simp only [cn_app, cn_cons, cn_nil]; omega)⟩
  show RuleP.mk w.px (ds.map DoN.p) 0 = ⟨r.when.px.bare, (r.dos.map DoN.p).map DoP.bare, 0⟩
  rw [pw, pd]
theorem b3_spec (x : StateN) (hs : x.p.Light) (I : Imm) (F : Heap) (hx : x.Ok I F) : Tri P 50 #[x.v] I F fun e I' G => ∃ (x' : StateN) (H : Heap), e = .returned x'.v ∧ x'.p = x.p.bare ∧ StateOwn false x' H ∧ G.Perm (H ++ F) := by
  refine tree_Bare_3.vc ?_
  unfold tree_Bare_3.V
  intro b_x b
  have hl := hs.1
  simp only [StateN.p, List.length_map] at hl
  have sub : ∀ (x y : Nat × Obj), ∀ a, a ∈ F → a ∈ x :: y :: F := fun _ _ a ha => .tail _ (.tail _ ha)
  refine (eachRule_spec RuleN.p RuleP.bare I _ hl (hx.mono (Imm.le_refl I) (sub _ _)).1 fun d hd J G hj hs' => TriV.fn enters_b31 (vs := #[d.v]) (by simp) (b31_spec d (hs.2 _ (List.mem_map_of_mem hd)) J G (((hx.mono (Imm.le_refl I) (sub _ _)).2 d hd).mono hj hs'))).mono fun e I2 G l2 ⟨a', c', ks, H, he, pk, ok, hG⟩ => ?_
  subst he
  refine ⟨_, _, _, rfl, H ++ F, hG.trans (perm_of fun z => by simp only [cn_app, cn_cons, cn_nil]; omega), ⟨x.name, a', c', ks, 0⟩, H, rfl, ?_, ok, .refl _⟩
  show StateP.mk x.name (ks.map RuleN.p) 0 = ⟨x.name, (x.rules.map RuleN.p).map RuleP.bare, 0⟩
  rw [pk]
theorem Bare_spec (s : StgN) (hs : s.p.Light) (I : Imm) (F : Heap) (hx : s.Ok I F) : Tri P 9 #[s.v] I F fun e I' G => ∃ (s' : StgN) (H : Heap), e = .returned s'.v ∧ s'.p = s.p.bare ∧ StgOwn false s' H ∧ G.Perm (H ++ F) := by
  refine tree_Bare.vc ?_
  unfold tree_Bare.V
  intro b_s b
  have lr := hs.regs
  have ls := hs.slots
  have lt := hs.states
  simp only [StgN.p, List.length_map] at lr ls lt
  have s1 : ∀ (x y : Nat × Obj), ∀ a, a ∈ F → a ∈ x :: y :: F := fun _ _ a ha => .tail _ (.tail _ ha)
  refine (eachReg_spec RegN.p RegP.bare I _ lr (hx.mono (Imm.le_refl I) (s1 _ _)).regs fun d hd J G hj hs' => TriV.fn enters_b1 (vs := #[d.v]) (by simp) (b1_spec d (hs.reg _ (List.mem_map_of_mem hd)) J G (((hx.mono (Imm.le_refl I) (s1 _ _)).reg d hd).mono hj hs'))).mono fun e I1 G l1 ⟨a1, c1, rs, H1, he, p1, o1, hG⟩ => ?_
  subst he
  have s2 : ∀ (x y : Nat × Obj), ∀ a, a ∈ F → a ∈ x :: y :: (H1 ++ F) := fun _ _ a ha => .tail _ (.tail _ (List.mem_append_right _ ha))
  refine ⟨_, _, _, rfl, H1 ++ F, hG.trans (perm_of fun z => by simp only [cn_app, cn_cons, cn_nil]; omega), (eachSlot_spec id SlotP.bare I1 _ ls (hx.mono l1 (s2 _ _)).slots fun d hd J G hj hs' => TriV.fn enters_b2 (vs := #[d.v]) (by simp) (b2_spec d J G)).mono fun e I2 G l2' ⟨a2, c2, ss, H2, he, p2, o2, hG⟩ => ?_⟩
  subst he
  have l2 := Imm.le_trans l1 l2'
  have s3 : ∀ (x y : Nat × Obj), ∀ a, a ∈ F → a ∈ x :: y :: (H2 ++ (H1 ++ F)) := fun _ _ a ha => .tail _ (.tail _ (List.mem_append_right _ (List.mem_append_right _ ha)))
  refine ⟨_, _, _, rfl, H2 ++ (H1 ++ F), hG.trans (perm_of fun z => by simp only [cn_app, cn_cons, cn_nil]; omega), (eachState_spec StateN.p StateP.bare I2 _ lt (hx.mono l2 (s3 _ _)).states fun d hd J G hj hs' => TriV.fn enters_b3 (vs := #[d.v]) (by simp) (b3_spec d (hs.state _ (List.mem_map_of_mem hd)) J G (((hx.mono l2 (s3 _ _)).state d hd).mono hj hs'))).mono fun e I3 G l3 ⟨a3, c3, ts, H3, he, p3, o3, hG⟩ => ?_⟩
  subst he
  refine ⟨_, _, _, rfl, H3 ++ (H2 ++ (H1 ++ F)), hG.trans (perm_of fun z => by simp only [cn_app, cn_cons, cn_nil]; omega), ⟨s.name, a1, c1, rs, a2, c2, ss, a3, c3, ts⟩, H1 ++ (H2 ++ H3), rfl, ?_, ⟨H1, H2, H3, rfl, o1, o2, o3⟩, (perm_of fun z => by simp only [cn_app, cn_cons, cn_nil]; omega)⟩
  show StgP.mk s.name (rs.map RegN.p) ss (ts.map StateN.p) = ⟨s.name, (s.regs.map RegN.p).map RegP.bare, s.slots.map SlotP.bare, (s.states.map StateN.p).map StateP.bare⟩
  rw [List.map_id, List.map_id] at p2
  rw [p1, p2, p3]
end Go.Lx
namespace Go.Lx
open Go.Vc
def shT_t8 : List (Nat × List Sh) := [(0, []), (3, [.one (.int .i64)]), (4, [.one .bool]), (22, [.one .slc]), (23, [.one .slc]), (24, [.one .slc]), (36, [.one .slc]), (37, [.one .slc]), (38, [.one .slc]), (39, [.one .slc]), (40, [.one .slc]), (55, [.agg [(.int .u8), (.int .u8), (.int .u8), (.int .i64), (.int .u8), .str, .slc, (.int .i64)]]), (65, [.one .slc]), (67, [.agg [(.int .u8), (.int .u8), (.int .u8), (.int .i64), (.int .u8), .str, .slc, (.int .i64), .slc, (.int .i64)]]), (68, [.one .slc]), (70, [.agg [.str, .slc, (.int .i64)]]), (75, [.agg [.str, (.int .u8), (.int .u8), (.int .u8), (.int .u8), (.int .i64), (.int .u8), .str, .slc, (.int .i64), (.int .i64)]]), (77, [.agg [.str, (.int .i64)]]), (89, [.agg [(.int .u8), (.int .u8), .str, (.int .u8), (.int .u8), (.int .u8), (.int .i64), (.int .u8), .str, .slc, (.int .i64), (.int .u8), (.int .u8), (.int .u8), (.int .i64), (.int .u8), .str, .slc, (.int .i64), (.int .u8), (.int .u8), (.int .u8), (.int .i64), (.int .u8), .str, .slc, (.int .i64), (.int .u8), (.int .u8), (.int .u8), (.int .i64), (.int .u8), .str, .slc, (.int .i64), (.int .i64)]])]
def ref00_LendStrategy.V (l w : Nat → Nat × Obj) (nV : Int → Int → Int → Int → Int → Bs → OA → Nat → Nat → Int → Value) (nL : Int → Int → Int → Int → Int → Bs → OA → Nat → Nat → Int → List Value) (vb vi : Int → Value) (vs : Bs → Value) (vl : OA → Nat → Nat → Value) (wr : Int → Int) (r : Bs) (ai : OA) (a bh : Nat) (aZ : OA) (c bi : Nat) (a0 : OA) (h bj : Nat) (I : Imm) (F : Heap) (Q : PostQ) (Inv10 : OA → OA → OA → Nat → Nat → Int → Nat → Imm → Heap → Imm → Heap → Prop) (Inv33 : OA → OA → OA → Nat → Nat → Int → OA → Nat → Nat → Int → Nat → Imm → Heap → Imm → Heap → Prop) (Inv54 : OA → OA → OA → Nat → Nat → Int → OA → Nat → Nat → Int → OA → Nat → Nat → Int → Nat → Imm → Heap → Imm → Heap → Prop) : Prop := ∀ j : Nat, ∀ b : Nat, ∀ k : Nat, TriE P (Instr.makeSlice 22 (vi (wr (((a : Nat) : Int) + 2))) (vi (wr (((a : Nat) : Int) + 2)))) I ((l j) :: (b, Obj.cells #[vs (⟨#[]⟩ : Bs), vl none 0 0, vl none 0 0, vl none 0 0] 26 (0, 0)) :: (w k) :: F) fun v I1 G1 => ∃ (d : OA) (n e : Nat), v = vl d n e ∧ ∃ F1 : Heap, List.Perm G1 ((l j) :: (b, Obj.cells #[vs (⟨#[]⟩ : Bs), vl none 0 0, vl none 0 0, vl none 0 0] 26 (0, 0)) :: (w k) :: F1) ∧ (∃ m : Nat, Inv10 (some ⟨j, 0, none⟩) (some ⟨k, 0, none⟩) d n e 0 m I1 F1 I1 F1) ∧ ∀ (i : Int) (m1 : Nat) (I2 : Imm) (F2 : Heap), Imm.le I1 I2 → Inv10 (some ⟨j, 0, none⟩) (some ⟨k, 0, none⟩) d n e i m1 I1 F1 I2 F2 → ((decide (i < ((a : Nat) : Int)) = true → ((0 ≤ i ∧ i < (a : Int)) ∧ ∃ ad : Addr, ai = some ad ∧ ∃ (ax : Bs) (ay az aA aB aC aD : Int) (aE : Bs) (ae : OA) (af ag : Nat) (aF ah : Int), Rd I2 ((l j) :: (b, Obj.cells #[vs (⟨#[]⟩ : Bs), vl none 0 0, vl none 0 0, vl none 0 0] 26 (0, 0)) :: (w k) :: F2) (ad.add (Int.toNat (i) * 11)) [vs ax, vb ay, vb az, vb aA, vb aB, vi aC, vb aD, vs aE, vl ae af ag, vi aF, vi ah] ∧ ((0 ≤ i ∧ i < (n : Int)) ∧ ∃ u : Addr, d = some u ∧ ∃ (cs : List Value) (el : Nat) (F3 : Heap), List.Perm F2 (((u.add (Int.toNat (i) * 11)).block, Obj.cells cs.toArray el (0, 0)) :: F3) ∧ (u.add (Int.toNat (i) * 11)).spot = none ∧ (u.add (Int.toNat (i) * 11)).off + 11 ≤ cs.length ∧ ((0 ≤ i ∧ i < (a : Int)) ∧ ∃ be : Addr, ai = some be ∧ ∃ (aG aH aI aJ aK : Int) (aL : Bs) (aj : OA) (ak al : Nat) (aM : Int), Rd I2 ((l j) :: (b, Obj.cells #[vs (⟨#[]⟩ : Bs), vl none 0 0, vl none 0 0, vl none 0 0] 26 (0, 0)) :: (w k) :: (((u.add (Int.toNat (i) * 11)).block, Obj.cells (splice (u.add (Int.toNat (i) * 11)).off [vs ax, vb ay, vb az, vb aA, vb aB, vi aC, vb aD, vs aE, vl ae af ag, vi aF, vi ah] cs).toArray el (0, 0)) :: F3)) ((be.add (Int.toNat (i) * 11)).add 2) (nL aG aH aI aJ aK aL aj ak al aM) ∧ Tri P 27 (#[nV aG aH aI aJ aK aL aj ak al aM]) I2 ((l j) :: (b, Obj.cells #[vs (⟨#[]⟩ : Bs), vl none 0 0, vl none 0 0, vl none 0 0] 26 (0, 0)) :: (w k) :: (((u.add (Int.toNat (i) * 11)).block, Obj.cells (splice (u.add (Int.toNat (i) * 11)).off [vs ax, vb ay, vb az, vb aA, vb aB, vi aC, vb aD, vs aE, vl ae af ag, vi aF, vi ah] cs).toArray el (0, 0)) :: F3)) fun e1 I3 G2 => ∃ (a1 a2 a3 a4 a5 : Int) (a6 : Bs) (am : OA) (an ao : Nat) (a7 : Int), e1 = .returned (nV a1 a2 a3 a4 a5 a6 am an ao a7) ∧ ∃ F4 : Heap, List.Perm G2 ((l j) :: (b, Obj.cells #[vs (⟨#[]⟩ : Bs), vl none 0 0, vl none 0 0, vl none 0 0] 26 (0, 0)) :: (w k) :: F4) ∧ ((0 ≤ i ∧ i < (n : Int)) ∧ ∃ y : Addr, d = some y ∧ ∃ (aN : List Value) (a8 : Nat) (F5 : Heap), List.Perm F4 ((((y.add (Int.toNat (i) * 11)).add 2).block, Obj.cells aN.toArray a8 (0, 0)) :: F5) ∧ ((y.add (Int.toNat (i) * 11)).add 2).spot = none ∧ ((y.add (Int.toNat (i) * 11)).add 2).off + 8 ≤ aN.length ∧ (∃ m2 : Nat, m2 < m1 ∧ Inv10 (some ⟨j, 0, none⟩) (some ⟨k, 0, none⟩) d n e (wr (i + 1)) m2 I1 F1 I3 ((((y.add (Int.toNat (i) * 11)).add 2).block, Obj.cells (splice ((y.add (Int.toNat (i) * 11)).add 2).off (nL a1 a2 a3 a4 a5 a6 am an ao a7) aN).toArray a8 (0, 0)) :: F5))))))) ∧ (decide (i < ((a : Nat) : Int)) = false → ((0 ≤ ((a : Nat) : Int) ∧ ((a : Nat) : Int) < (n : Int)) ∧ ∃ z : Addr, d = some z ∧ ∃ (aO : List Value) (a9 : Nat) (F6 : Heap), List.Perm F2 ((((z.add (Int.toNat (((a : Nat) : Int)) * 11)).add 10).block, Obj.cells aO.toArray a9 (0, 0)) :: F6) ∧ ((z.add (Int.toNat (((a : Nat) : Int)) * 11)).add 10).spot = none ∧ ((z.add (Int.toNat (((a : Nat) : Int)) * 11)).add 10).off + 1 ≤ aO.length ∧ ((0 ≤ (0 : Int) ∧ (0 : Int) ≤ ((a : Nat) : Int) ∧ ((a : Nat) : Int) ≤ (e : Int)) ∧ TriE P (Instr.makeSlice 23 (vi (wr (((c : Nat) : Int) + 2))) (vi (wr (((c : Nat) : Int) + 2)))) I2 ((l j) :: (b, Obj.cells #[vs (⟨#[]⟩ : Bs), vl none 0 0, vl none 0 0, vl none 0 0] 26 (0, 0)) :: (k, Obj.cells #[vs r, vl (if e = Int.toNat ((0 : Int)) then d else Option.map (fun x => x.add (Int.toNat ((0 : Int)) * 11)) d) (Int.toNat (((a : Nat) : Int)) - Int.toNat ((0 : Int))) (e - Int.toNat ((0 : Int))), vl none 0 0, vl none 0 0] 26 (0, 0)) :: ((((z.add (Int.toNat (((a : Nat) : Int)) * 11)).add 10).block, Obj.cells (splice ((z.add (Int.toNat (((a : Nat) : Int)) * 11)).add 10).off [vi (-771)] aO).toArray a9 (0, 0)) :: F6)) fun v1 I4 G3 => ∃ (f : OA) (o g : Nat), v1 = vl f o g ∧ ∃ F7 : Heap, List.Perm G3 ((l j) :: (b, Obj.cells #[vs (⟨#[]⟩ : Bs), vl none 0 0, vl none 0 0, vl none 0 0] 26 (0, 0)) :: (k, Obj.cells #[vs r, vl (if e = Int.toNat ((0 : Int)) then d else Option.map (fun x => x.add (Int.toNat ((0 : Int)) * 11)) d) (Int.toNat (((a : Nat) : Int)) - Int.toNat ((0 : Int))) (e - Int.toNat ((0 : Int))), vl none 0 0, vl none 0 0] 26 (0, 0)) :: F7) ∧ (∃ m3 : Nat, Inv33 (some ⟨j, 0, none⟩) (some ⟨k, 0, none⟩) d n e i f o g 0 m3 I4 F7 I4 F7) ∧ ∀ (i1 : Int) (m4 : Nat) (I5 : Imm) (F8 : Heap), Imm.le I4 I5 → Inv33 (some ⟨j, 0, none⟩) (some ⟨k, 0, none⟩) d n e i f o g i1 m4 I4 F7 I5 F8 → ((decide (i1 < ((c : Nat) : Int)) = true → ((0 ≤ i1 ∧ i1 < (c : Int)) ∧ ∃ bf : Addr, aZ = some bf ∧ ∃ (aP : Bs) (aQ : Int), Rd I5 ((l j) :: (b, Obj.cells #[vs (⟨#[]⟩ : Bs), vl none 0 0, vl none 0 0, vl none 0 0] 26 (0, 0)) :: (k, Obj.cells #[vs r, vl (if e = Int.toNat ((0 : Int)) then d else Option.map (fun x => x.add (Int.toNat ((0 : Int)) * 11)) d) (Int.toNat (((a : Nat) : Int)) - Int.toNat ((0 : Int))) (e - Int.toNat ((0 : Int))), vl none 0 0, vl none 0 0] 26 (0, 0)) :: F8) (bf.add (Int.toNat (i1) * 2)) [vs aP, vi aQ] ∧ ((0 ≤ i1 ∧ i1 < (o : Int)) ∧ ∃ aa : Addr, f = some aa ∧ ∃ (aR : List Value) (ba : Nat) (F9 : Heap), List.Perm F8 (((aa.add (Int.toNat (i1) * 2)).block, Obj.cells aR.toArray ba (0, 0)) :: F9) ∧ (aa.add (Int.toNat (i1) * 2)).spot = none ∧ (aa.add (Int.toNat (i1) * 2)).off + 2 ≤ aR.length ∧ (∃ m5 : Nat, m5 < m4 ∧ Inv33 (some ⟨j, 0, none⟩) (some ⟨k, 0, none⟩) d n e i f o g (wr (i1 + 1)) m5 I4 F7 I5 (((aa.add (Int.toNat (i1) * 2)).block, Obj.cells (splice (aa.add (Int.toNat (i1) * 2)).off [vs aP, vi aQ] aR).toArray ba (0, 0)) :: F9))))) ∧ (decide (i1 < ((c : Nat) : Int)) = false → ((0 ≤ ((c : Nat) : Int) ∧ ((c : Nat) : Int) < (o : Int)) ∧ ∃ ab : Addr, f = some ab ∧ ∃ (aS : List Value) (bb : Nat) (F10 : Heap), List.Perm F8 ((((ab.add (Int.toNat (((c : Nat) : Int)) * 2)).add 1).block, Obj.cells aS.toArray bb (0, 0)) :: F10) ∧ ((ab.add (Int.toNat (((c : Nat) : Int)) * 2)).add 1).spot = none ∧ ((ab.add (Int.toNat (((c : Nat) : Int)) * 2)).add 1).off + 1 ≤ aS.length ∧ ((0 ≤ (0 : Int) ∧ (0 : Int) ≤ ((c : Nat) : Int) ∧ ((c : Nat) : Int) ≤ (g : Int)) ∧ TriE P (Instr.makeSlice 24 (vi (wr (((h : Nat) : Int) + 2))) (vi (wr (((h : Nat) : Int) + 2)))) I5 ((l j) :: (b, Obj.cells #[vs (⟨#[]⟩ : Bs), vl none 0 0, vl none 0 0, vl none 0 0] 26 (0, 0)) :: (k, Obj.cells #[vs r, vl (if e = Int.toNat ((0 : Int)) then d else Option.map (fun x => x.add (Int.toNat ((0 : Int)) * 11)) d) (Int.toNat (((a : Nat) : Int)) - Int.toNat ((0 : Int))) (e - Int.toNat ((0 : Int))), vl (if g = Int.toNat ((0 : Int)) then f else Option.map (fun x => x.add (Int.toNat ((0 : Int)) * 2)) f) (Int.toNat (((c : Nat) : Int)) - Int.toNat ((0 : Int))) (g - Int.toNat ((0 : Int))), vl none 0 0] 26 (0, 0)) :: ((((ab.add (Int.toNat (((c : Nat) : Int)) * 2)).add 1).block, Obj.cells (splice ((ab.add (Int.toNat (((c : Nat) : Int)) * 2)).add 1).off [vi (-771)] aS).toArray bb (0, 0)) :: F10)) fun v2 I6 G4 => ∃ (p : OA) (s q : Nat), v2 = vl p s q ∧ ∃ F11 : Heap, List.Perm G4 ((l j) :: (b, Obj.cells #[vs (⟨#[]⟩ : Bs), vl none 0 0, vl none 0 0, vl none 0 0] 26 (0, 0)) :: (k, Obj.cells #[vs r, vl (if e = Int.toNat ((0 : Int)) then d else Option.map (fun x => x.add (Int.toNat ((0 : Int)) * 11)) d) (Int.toNat (((a : Nat) : Int)) - Int.toNat ((0 : Int))) (e - Int.toNat ((0 : Int))), vl (if g = Int.toNat ((0 : Int)) then f else Option.map (fun x => x.add (Int.toNat ((0 : Int)) * 2)) f) (Int.toNat (((c : Nat) : Int)) - Int.toNat ((0 : Int))) (g - Int.toNat ((0 : Int))), vl none 0 0] 26 (0, 0)) :: F11) ∧ (∃ m6 : Nat, Inv54 (some ⟨j, 0, none⟩) (some ⟨k, 0, none⟩) d n e i f o g i1 p s q 0 m6 I6 F11 I6 F11) ∧ ∀ (i2 : Int) (m7 : Nat) (I7 : Imm) (F12 : Heap), Imm.le I6 I7 → Inv54 (some ⟨j, 0, none⟩) (some ⟨k, 0, none⟩) d n e i f o g i1 p s q i2 m7 I6 F11 I7 F12 → ((decide (i2 < ((h : Nat) : Int)) = true → ((0 ≤ i2 ∧ i2 < (h : Int)) ∧ ∃ bg : Addr, a0 = some bg ∧ ∃ (aT : Bs) (ap : OA) (aq ar : Nat) (aU : Int), Rd I7 ((l j) :: (b, Obj.cells #[vs (⟨#[]⟩ : Bs), vl none 0 0, vl none 0 0, vl none 0 0] 26 (0, 0)) :: (k, Obj.cells #[vs r, vl (if e = Int.toNat ((0 : Int)) then d else Option.map (fun x => x.add (Int.toNat ((0 : Int)) * 11)) d) (Int.toNat (((a : Nat) : Int)) - Int.toNat ((0 : Int))) (e - Int.toNat ((0 : Int))), vl (if g = Int.toNat ((0 : Int)) then f else Option.map (fun x => x.add (Int.toNat ((0 : Int)) * 2)) f) (Int.toNat (((c : Nat) : Int)) - Int.toNat ((0 : Int))) (g - Int.toNat ((0 : Int))), vl none 0 0] 26 (0, 0)) :: F12) (bg.add (Int.toNat (i2) * 3)) [vs aT, vl ap aq ar, vi aU] ∧ Tri P 28 (#[.agg #[vs aT, vl ap aq ar, vi aU]]) I7 ((l j) :: (b, Obj.cells #[vs (⟨#[]⟩ : Bs), vl none 0 0, vl none 0 0, vl none 0 0] 26 (0, 0)) :: (k, Obj.cells #[vs r, vl (if e = Int.toNat ((0 : Int)) then d else Option.map (fun x => x.add (Int.toNat ((0 : Int)) * 11)) d) (Int.toNat (((a : Nat) : Int)) - Int.toNat ((0 : Int))) (e - Int.toNat ((0 : Int))), vl (if g = Int.toNat ((0 : Int)) then f else Option.map (fun x => x.add (Int.toNat ((0 : Int)) * 2)) f) (Int.toNat (((c : Nat) : Int)) - Int.toNat ((0 : Int))) (g - Int.toNat ((0 : Int))), vl none 0 0] 26 (0, 0)) :: F12) fun e2 I8 G5 => ∃ (aV : Bs) (au : OA) (av aw : Nat) (aW : Int), e2 = .returned (.agg #[vs aV, vl au av aw, vi aW]) ∧ ∃ F13 : Heap, List.Perm G5 ((l j) :: (b, Obj.cells #[vs (⟨#[]⟩ : Bs), vl none 0 0, vl none 0 0, vl none 0 0] 26 (0, 0)) :: (k, Obj.cells #[vs r, vl (if e = Int.toNat ((0 : Int)) then d else Option.map (fun x => x.add (Int.toNat ((0 : Int)) * 11)) d) (Int.toNat (((a : Nat) : Int)) - Int.toNat ((0 : Int))) (e - Int.toNat ((0 : Int))), vl (if g = Int.toNat ((0 : Int)) then f else Option.map (fun x => x.add (Int.toNat ((0 : Int)) * 2)) f) (Int.toNat (((c : Nat) : Int)) - Int.toNat ((0 : Int))) (g - Int.toNat ((0 : Int))), vl none 0 0] 26 (0, 0)) :: F13) ∧ ((0 ≤ i2 ∧ i2 < (s : Int)) ∧ ∃ ac : Addr, p = some ac ∧ ∃ (aX : List Value) (bc : Nat) (F14 : Heap), List.Perm F13 (((ac.add (Int.toNat (i2) * 3)).block, Obj.cells aX.toArray bc (0, 0)) :: F14) ∧ (ac.add (Int.toNat (i2) * 3)).spot = none ∧ (ac.add (Int.toNat (i2) * 3)).off + 3 ≤ aX.length ∧ (∃ m8 : Nat, m8 < m7 ∧ Inv54 (some ⟨j, 0, none⟩) (some ⟨k, 0, none⟩) d n e i f o g i1 p s q (wr (i2 + 1)) m8 I6 F11 I8 (((ac.add (Int.toNat (i2) * 3)).block, Obj.cells (splice (ac.add (Int.toNat (i2) * 3)).off [vs aV, vl au av aw, vi aW] aX).toArray bc (0, 0)) :: F14))))) ∧ (decide (i2 < ((h : Nat) : Int)) = false → ((0 ≤ ((h : Nat) : Int) ∧ ((h : Nat) : Int) < (s : Int)) ∧ ∃ t : Addr, p = some t ∧ ∃ (aY : List Value) (bd : Nat) (F15 : Heap), List.Perm F12 ((((t.add (Int.toNat (((h : Nat) : Int)) * 3)).add 2).block, Obj.cells aY.toArray bd (0, 0)) :: F15) ∧ ((t.add (Int.toNat (((h : Nat) : Int)) * 3)).add 2).spot = none ∧ ((t.add (Int.toNat (((h : Nat) : Int)) * 3)).add 2).off + 1 ≤ aY.length ∧ ((0 ≤ (0 : Int) ∧ (0 : Int) ≤ ((h : Nat) : Int) ∧ ((h : Nat) : Int) ≤ (q : Int)) ∧ Q (.returned (.agg #[vs r, vl (if e = Int.toNat ((0 : Int)) then d else Option.map (fun x => x.add (Int.toNat ((0 : Int)) * 11)) d) (Int.toNat (((a : Nat) : Int)) - Int.toNat ((0 : Int))) (e - Int.toNat ((0 : Int))), vl (if g = Int.toNat ((0 : Int)) then f else Option.map (fun x => x.add (Int.toNat ((0 : Int)) * 2)) f) (Int.toNat (((c : Nat) : Int)) - Int.toNat ((0 : Int))) (g - Int.toNat ((0 : Int))), vl (if q = Int.toNat ((0 : Int)) then p else Option.map (fun x => x.add (Int.toNat ((0 : Int)) * 3)) p) (Int.toNat (((h : Nat) : Int)) - Int.toNat ((0 : Int))) (q - Int.toNat ((0 : Int)))])) I7 (((((t.add (Int.toNat (((h : Nat) : Int)) * 3)).add 2).block, Obj.cells (splice ((t.add (Int.toNat (((h : Nat) : Int)) * 3)).add 2).off [vi (-771)] aY).toArray bd (0, 0)) :: F15))))))))))))))
theorem ref00_LendStrategy.vc {s_0 : Bs} {s_1_a : OA} {s_1_n s_1_c : Nat} {s_2_a : OA} {s_2_n s_2_c : Nat} {s_3_a : OA} {s_3_n s_3_c : Nat} {I : Imm} {F : Heap} {Q : PostQ} (Inv10 : OA → OA → OA → Nat → Nat → Int → Nat → Imm → Heap → Imm → Heap → Prop) (Inv33 : OA → OA → OA → Nat → Nat → Int → OA → Nat → Nat → Int → Nat → Imm → Heap → Imm → Heap → Prop) (Inv54 : OA → OA → OA → Nat → Nat → Int → OA → Nat → Nat → Int → OA → Nat → Nat → Int → Nat → Imm → Heap → Imm → Heap → Prop) (h : ref00_LendStrategy.V (fun b => (b, Obj.cells #[.string s_0, .slice s_1_a s_1_n s_1_c, .slice s_2_a s_2_n s_2_c, .slice s_3_a s_3_n s_3_c] 26 (0, 0))) (fun b => (b, Obj.cells #[.string s_0, .slice none 0 0, .slice none 0 0, .slice none 0 0] 26 (0, 0))) (fun k o t n f s a l c q => .agg #[.int .u8 k, .int .u8 o, .int .u8 t, .int .i64 n, .int .u8 f, .string s, .slice a l c, .int .i64 q]) (fun k o t n f s a l c q => [.int .u8 k, .int .u8 o, .int .u8 t, .int .i64 n, .int .u8 f, .string s, .slice a l c, .int .i64 q]) (.int .u8) (.int .i64) .string .slice (IntKind.wrap .i64) s_0 s_1_a s_1_n s_1_c s_2_a s_2_n s_2_c s_3_a s_3_n s_3_c I F Q Inv10 Inv33 Inv54) : Tri P 6 #[.agg #[.string s_0, .slice s_1_a s_1_n s_1_c, .slice s_2_a s_2_n s_2_c, .slice s_3_a s_3_n s_3_c]] I (F) Q :=
  tv (A := (annL [4004, 12004, 19004] [] [27, 28] shT_t8 [(10, ⟨[(5, (.int .i64))], [], fun fs I0 F0 vs m I F => match fs, vs with | [.pointer y0, .pointer y1, .slice y2 y3 y4], [.int _ y5] => Inv10 y0 y1 y2 y3 y4 y5 m I0 F0 I F | _, _ => False, [1, 3, 4], []⟩), (33, ⟨[(7, (.int .i64))], [], fun fs I0 F0 vs m I F => match fs, vs with | [.pointer y0, .pointer y1, .slice y2 y3 y4, .int _ y5, .slice y6 y7 y8], [.int _ y9] => Inv33 y0 y1 y2 y3 y4 y5 y6 y7 y8 y9 m I0 F0 I F | _, _ => False, [1, 3, 4, 5, 6], []⟩), (54, ⟨[(9, (.int .i64))], [], fun fs I0 F0 vs m I F => match fs, vs with | [.pointer y0, .pointer y1, .slice y2 y3 y4, .int _ y5, .slice y6 y7 y8, .int _ y9, .slice y10 y11 y12], [.int _ y13] => Inv54 y0 y1 y2 y3 y4 y5 y6 y7 y8 y9 y10 y11 y12 y13 m I0 F0 I F | _, _ => False, [1, 3, 4, 5, 6, 7, 8], []⟩)] [] [] [] [] [] [])) (args := [.a (.v (.agg #[.string s_0, .slice s_1_a s_1_n s_1_c, .slice s_2_a s_2_n s_2_c, .slice s_3_a s_3_n s_3_c]))]) (own := []) (keep := []) [27, 28] Go.Proofs.Tryz.func6 h
def ref00_lendState.V (t : Nat → Nat × Obj) (nV : Int → Int → Int → Int → Int → Bs → OA → Nat → Nat → Int → Value) (vb vi : Int → Value) (vs : Bs → Value) (vl : OA → Nat → Nat → Value) (wr : Int → Int) (b1 : Bs) (bW : OA) (c b3 : Nat) (b2 : Int) (I : Imm) (F : Heap) (Q : PostQ) (Inv8 : OA → OA → Nat → Nat → Int → Nat → Imm → Heap → Imm → Heap → Prop) (Inv25 : OA → OA → Nat → Nat → Int → OA → OA → Nat → Nat → Int → Nat → Imm → Heap → Imm → Heap → Prop) : Prop := ∀ j : Nat, ∀ b : Nat, TriE P (Instr.makeSlice 68 (vi (wr (((c : Nat) : Int) + 2))) (vi (wr (((c : Nat) : Int) + 2)))) I ((t j) :: (b, Obj.cells #[vs (⟨#[]⟩ : Bs), vl none 0 0, vi 0] 70 (0, 0)) :: F) fun v I1 G1 => ∃ (aC : OA) (aN aL : Nat), v = vl aC aN aL ∧ ∃ F1 : Heap, List.Perm G1 ((t j) :: (b, Obj.cells #[vs (⟨#[]⟩ : Bs), vl none 0 0, vi 0] 70 (0, 0)) :: F1) ∧ (∃ m : Nat, Inv8 (some ⟨j, 0, none⟩) aC aN aL 0 m I1 F1 I1 F1) ∧ ∀ (i : Int) (m1 : Nat) (I2 : Imm) (F2 : Heap), Imm.le I1 I2 → Inv8 (some ⟨j, 0, none⟩) aC aN aL i m1 I1 F1 I2 F2 → ((decide (i < ((c : Nat) : Int)) = true → ((0 ≤ i ∧ i < (c : Int)) ∧ ∃ ad : Addr, bW = some ad ∧ ∃ (w y z aa ab : Int) (ac : Bs) (d : OA) (e f : Nat) (ae : Int) (g : OA) (a h : Nat) (af : Int), Rd I2 ((t j) :: (b, Obj.cells #[vs (⟨#[]⟩ : Bs), vl none 0 0, vi 0] 70 (0, 0)) :: F2) (ad.add (Int.toNat (i) * 10)) [vb w, vb y, vb z, vi aa, vb ab, vs ac, vl d e f, vi ae, vl g a h, vi af] ∧ ∀ u : Nat, TriE P (Instr.makeSlice 65 (vi (wr (((a : Nat) : Int) + 2))) (vi (wr (((a : Nat) : Int) + 2)))) I2 ((t j) :: (b, Obj.cells #[vs (⟨#[]⟩ : Bs), vl none 0 0, vi 0] 70 (0, 0)) :: (u, Obj.cells #[vb w, vb y, vb z, vi aa, vb ab, vs ac, vl d e f, vi ae, vl g a h, vi af] 67 (0, 0)) :: F2) fun v1 I3 G2 => ∃ (aD : OA) (aR aM : Nat), v1 = vl aD aR aM ∧ ∃ F3 : Heap, List.Perm G2 ((t j) :: (b, Obj.cells #[vs (⟨#[]⟩ : Bs), vl none 0 0, vi 0] 70 (0, 0)) :: (u, Obj.cells #[vb w, vb y, vb z, vi aa, vb ab, vs ac, vl d e f, vi ae, vl g a h, vi af] 67 (0, 0)) :: F3) ∧ (∃ m2 : Nat, Inv25 (some ⟨j, 0, none⟩) aC aN aL i (some ⟨u, 0, none⟩) aD aR aM 0 m2 I3 F3 I3 F3) ∧ ∀ (k : Int) (m3 : Nat) (I4 : Imm) (F4 : Heap), Imm.le I3 I4 → Inv25 (some ⟨j, 0, none⟩) aC aN aL i (some ⟨u, 0, none⟩) aD aR aM k m3 I3 F3 I4 F4 → ((decide (k < ((a : Nat) : Int)) = true → ((0 ≤ k ∧ k < (a : Int)) ∧ ∃ b0 : Addr, g = some b0 ∧ ∃ (ak al : Int) (am : Bs) (bk bl bm bD bn : Int) (bE : Bs) (bd : OA) (be bf : Nat) (bo aK aS aT aU aV : Int) (aW : Bs) (aw : OA) (ax ay : Nat) (aX aE aF ag aG aH : Int) (aI : Bs) (q : OA) (r s : Nat) (aJ an ao ap aq p : Int) (ar : Bs) (l : OA) (n o : Nat) (au av : Int), Rd I4 ((t j) :: (b, Obj.cells #[vs (⟨#[]⟩ : Bs), vl none 0 0, vi 0] 70 (0, 0)) :: (u, Obj.cells #[vb w, vb y, vb z, vi aa, vb ab, vs ac, vl d e f, vi ae, vl g a h, vi af] 67 (0, 0)) :: F4) (b0.add (Int.toNat (k) * 36)) [vb ak, vb al, vs am, vb bk, vb bl, vb bm, vi bD, vb bn, vs bE, vl bd be bf, vi bo, vb aK, vb aS, vb aT, vi aU, vb aV, vs aW, vl aw ax ay, vi aX, vb aE, vb aF, vb ag, vi aG, vb aH, vs aI, vl q r s, vi aJ, vb an, vb ao, vb ap, vi aq, vb p, vs ar, vl l n o, vi au, vi av] ∧ ∀ bc : Nat, Tri P 27 (#[nV bk bl bm bD bn bE bd be bf bo]) I4 ((t j) :: (b, Obj.cells #[vs (⟨#[]⟩ : Bs), vl none 0 0, vi 0] 70 (0, 0)) :: (u, Obj.cells #[vb w, vb y, vb z, vi aa, vb ab, vs ac, vl d e f, vi ae, vl g a h, vi af] 67 (0, 0)) :: (bc, Obj.cells #[vb ak, vb al, vs am, vb bk, vb bl, vb bm, vi bD, vb bn, vs bE, vl bd be bf, vi bo, vb aK, vb aS, vb aT, vi aU, vb aV, vs aW, vl aw ax ay, vi aX, vb aE, vb aF, vb ag, vi aG, vb aH, vs aI, vl q r s, vi aJ, vb an, vb ao, vb ap, vi aq, vb p, vs ar, vl l n o, vi au, vi av] 89 (0, 0)) :: F4) fun e1 I5 G3 => ∃ (a5 a6 a7 a8 a9 : Int) (ba : Bs) (ah : OA) (ai aj : Nat) (bb : Int), e1 = .returned (nV a5 a6 a7 a8 a9 ba ah ai aj bb) ∧ ∃ F5 : Heap, List.Perm G3 ((t j) :: (b, Obj.cells #[vs (⟨#[]⟩ : Bs), vl none 0 0, vi 0] 70 (0, 0)) :: (u, Obj.cells #[vb w, vb y, vb z, vi aa, vb ab, vs ac, vl d e f, vi ae, vl g a h, vi af] 67 (0, 0)) :: (bc, Obj.cells #[vb ak, vb al, vs am, vb bk, vb bl, vb bm, vi bD, vb bn, vs bE, vl bd be bf, vi bo, vb aK, vb aS, vb aT, vi aU, vb aV, vs aW, vl aw ax ay, vi aX, vb aE, vb aF, vb ag, vi aG, vb aH, vs aI, vl q r s, vi aJ, vb an, vb ao, vb ap, vi aq, vb p, vs ar, vl l n o, vi au, vi av] 89 (0, 0)) :: F5) ∧ Tri P 27 (#[nV aK aS aT aU aV aW aw ax ay aX]) I5 ((t j) :: (b, Obj.cells #[vs (⟨#[]⟩ : Bs), vl none 0 0, vi 0] 70 (0, 0)) :: (u, Obj.cells #[vb w, vb y, vb z, vi aa, vb ab, vs ac, vl d e f, vi ae, vl g a h, vi af] 67 (0, 0)) :: (bc, Obj.cells #[vb ak, vb al, vs am, vb a5, vb a6, vb a7, vi a8, vb a9, vs ba, vl ah ai aj, vi bb, vb aK, vb aS, vb aT, vi aU, vb aV, vs aW, vl aw ax ay, vi aX, vb aE, vb aF, vb ag, vi aG, vb aH, vs aI, vl q r s, vi aJ, vb an, vb ao, vb ap, vi aq, vb p, vs ar, vl l n o, vi au, vi av] 89 (0, 0)) :: F5) fun e2 I6 G4 => ∃ (aY aZ a0 a1 a2 : Int) (a3 : Bs) (az : OA) (aA aB : Nat) (a4 : Int), e2 = .returned (nV aY aZ a0 a1 a2 a3 az aA aB a4) ∧ ∃ F6 : Heap, List.Perm G4 ((t j) :: (b, Obj.cells #[vs (⟨#[]⟩ : Bs), vl none 0 0, vi 0] 70 (0, 0)) :: (u, Obj.cells #[vb w, vb y, vb z, vi aa, vb ab, vs ac, vl d e f, vi ae, vl g a h, vi af] 67 (0, 0)) :: (bc, Obj.cells #[vb ak, vb al, vs am, vb a5, vb a6, vb a7, vi a8, vb a9, vs ba, vl ah ai aj, vi bb, vb aK, vb aS, vb aT, vi aU, vb aV, vs aW, vl aw ax ay, vi aX, vb aE, vb aF, vb ag, vi aG, vb aH, vs aI, vl q r s, vi aJ, vb an, vb ao, vb ap, vi aq, vb p, vs ar, vl l n o, vi au, vi av] 89 (0, 0)) :: F6) ∧ Tri P 27 (#[nV aE aF ag aG aH aI q r s aJ]) I6 ((t j) :: (b, Obj.cells #[vs (⟨#[]⟩ : Bs), vl none 0 0, vi 0] 70 (0, 0)) :: (u, Obj.cells #[vb w, vb y, vb z, vi aa, vb ab, vs ac, vl d e f, vi ae, vl g a h, vi af] 67 (0, 0)) :: (bc, Obj.cells #[vb ak, vb al, vs am, vb a5, vb a6, vb a7, vi a8, vb a9, vs ba, vl ah ai aj, vi bb, vb aY, vb aZ, vb a0, vi a1, vb a2, vs a3, vl az aA aB, vi a4, vb aE, vb aF, vb ag, vi aG, vb aH, vs aI, vl q r s, vi aJ, vb an, vb ao, vb ap, vi aq, vb p, vs ar, vl l n o, vi au, vi av] 89 (0, 0)) :: F6) fun e3 I7 G5 => ∃ (bp bq br bs bt : Int) (bu : Bs) (aO : OA) (aP aQ : Nat) (bv : Int), e3 = .returned (nV bp bq br bs bt bu aO aP aQ bv) ∧ ∃ F7 : Heap, List.Perm G5 ((t j) :: (b, Obj.cells #[vs (⟨#[]⟩ : Bs), vl none 0 0, vi 0] 70 (0, 0)) :: (u, Obj.cells #[vb w, vb y, vb z, vi aa, vb ab, vs ac, vl d e f, vi ae, vl g a h, vi af] 67 (0, 0)) :: (bc, Obj.cells #[vb ak, vb al, vs am, vb a5, vb a6, vb a7, vi a8, vb a9, vs ba, vl ah ai aj, vi bb, vb aY, vb aZ, vb a0, vi a1, vb a2, vs a3, vl az aA aB, vi a4, vb aE, vb aF, vb ag, vi aG, vb aH, vs aI, vl q r s, vi aJ, vb an, vb ao, vb ap, vi aq, vb p, vs ar, vl l n o, vi au, vi av] 89 (0, 0)) :: F7) ∧ Tri P 27 (#[nV an ao ap aq p ar l n o au]) I7 ((t j) :: (b, Obj.cells #[vs (⟨#[]⟩ : Bs), vl none 0 0, vi 0] 70 (0, 0)) :: (u, Obj.cells #[vb w, vb y, vb z, vi aa, vb ab, vs ac, vl d e f, vi ae, vl g a h, vi af] 67 (0, 0)) :: (bc, Obj.cells #[vb ak, vb al, vs am, vb a5, vb a6, vb a7, vi a8, vb a9, vs ba, vl ah ai aj, vi bb, vb aY, vb aZ, vb a0, vi a1, vb a2, vs a3, vl az aA aB, vi a4, vb bp, vb bq, vb br, vi bs, vb bt, vs bu, vl aO aP aQ, vi bv, vb an, vb ao, vb ap, vi aq, vb p, vs ar, vl l n o, vi au, vi av] 89 (0, 0)) :: F7) fun e4 I8 G6 => ∃ (bF bG bH bI bJ : Int) (bK : Bs) (bw : OA) (bx bz : Nat) (bL : Int), e4 = .returned (nV bF bG bH bI bJ bK bw bx bz bL) ∧ ∃ F8 : Heap, List.Perm G6 ((t j) :: (b, Obj.cells #[vs (⟨#[]⟩ : Bs), vl none 0 0, vi 0] 70 (0, 0)) :: (u, Obj.cells #[vb w, vb y, vb z, vi aa, vb ab, vs ac, vl d e f, vi ae, vl g a h, vi af] 67 (0, 0)) :: (bc, Obj.cells #[vb ak, vb al, vs am, vb a5, vb a6, vb a7, vi a8, vb a9, vs ba, vl ah ai aj, vi bb, vb aY, vb aZ, vb a0, vi a1, vb a2, vs a3, vl az aA aB, vi a4, vb bp, vb bq, vb br, vi bs, vb bt, vs bu, vl aO aP aQ, vi bv, vb an, vb ao, vb ap, vi aq, vb p, vs ar, vl l n o, vi au, vi av] 89 (0, 0)) :: F8) ∧ ((0 ≤ k ∧ k < (aR : Int)) ∧ ∃ bg : Addr, aD = some bg ∧ ∃ (cs : List Value) (el : Nat) (F9 : Heap), List.Perm F8 (((bg.add (Int.toNat (k) * 36)).block, Obj.cells cs.toArray el (0, 0)) :: F9) ∧ (bg.add (Int.toNat (k) * 36)).spot = none ∧ (bg.add (Int.toNat (k) * 36)).off + 36 ≤ cs.length ∧ (∃ m4 : Nat, m4 < m3 ∧ Inv25 (some ⟨j, 0, none⟩) aC aN aL i (some ⟨u, 0, none⟩) aD aR aM (wr (k + 1)) m4 I3 F3 I8 (((bg.add (Int.toNat (k) * 36)).block, Obj.cells (splice (bg.add (Int.toNat (k) * 36)).off [vb ak, vb al, vs am, vb a5, vb a6, vb a7, vi a8, vb a9, vs ba, vl ah ai aj, vi bb, vb aY, vb aZ, vb a0, vi a1, vb a2, vs a3, vl az aA aB, vi a4, vb bp, vb bq, vb br, vi bs, vb bt, vs bu, vl aO aP aQ, vi bv, vb bF, vb bG, vb bH, vi bI, vb bJ, vs bK, vl bw bx bz, vi bL, vi av] cs).toArray el (0, 0)) :: F9))))) ∧ (decide (k < ((a : Nat) : Int)) = false → ((0 ≤ ((a : Nat) : Int) ∧ ((a : Nat) : Int) < (aR : Int)) ∧ ∃ bh : Addr, aD = some bh ∧ ∃ (bM : List Value) (bX : Nat) (F10 : Heap), List.Perm F4 ((((bh.add (Int.toNat (((a : Nat) : Int)) * 36)).add 35).block, Obj.cells bM.toArray bX (0, 0)) :: F10) ∧ ((bh.add (Int.toNat (((a : Nat) : Int)) * 36)).add 35).spot = none ∧ ((bh.add (Int.toNat (((a : Nat) : Int)) * 36)).add 35).off + 1 ≤ bM.length ∧ ((0 ≤ (0 : Int) ∧ (0 : Int) ≤ ((a : Nat) : Int) ∧ ((a : Nat) : Int) ≤ (aM : Int)) ∧ Tri P 27 (#[nV w y z aa ab ac d e f ae]) I4 ((t j) :: (b, Obj.cells #[vs (⟨#[]⟩ : Bs), vl none 0 0, vi 0] 70 (0, 0)) :: (u, Obj.cells #[vb w, vb y, vb z, vi aa, vb ab, vs ac, vl d e f, vi ae, vl g a h, vi af] 67 (0, 0)) :: ((((bh.add (Int.toNat (((a : Nat) : Int)) * 36)).add 35).block, Obj.cells (splice ((bh.add (Int.toNat (((a : Nat) : Int)) * 36)).add 35).off [vi (-771)] bM).toArray bX (0, 0)) :: F10)) fun e5 I9 G7 => ∃ (bN bO bP bQ bR : Int) (bS : Bs) (bA : OA) (bB bC : Nat) (bT : Int), e5 = .returned (nV bN bO bP bQ bR bS bA bB bC bT) ∧ ∃ F11 : Heap, List.Perm G7 ((t j) :: (b, Obj.cells #[vs (⟨#[]⟩ : Bs), vl none 0 0, vi 0] 70 (0, 0)) :: (u, Obj.cells #[vb w, vb y, vb z, vi aa, vb ab, vs ac, vl d e f, vi ae, vl g a h, vi af] 67 (0, 0)) :: F11) ∧ ((0 ≤ i ∧ i < (aN : Int)) ∧ ∃ bi : Addr, aC = some bi ∧ ∃ (bU : List Value) (bY : Nat) (F12 : Heap), List.Perm F11 (((bi.add (Int.toNat (i) * 10)).block, Obj.cells bU.toArray bY (0, 0)) :: F12) ∧ (bi.add (Int.toNat (i) * 10)).spot = none ∧ (bi.add (Int.toNat (i) * 10)).off + 10 ≤ bU.length ∧ (∃ m5 : Nat, m5 < m1 ∧ Inv8 (some ⟨j, 0, none⟩) aC aN aL (wr (i + 1)) m5 I1 F1 I9 (((bi.add (Int.toNat (i) * 10)).block, Obj.cells (splice (bi.add (Int.toNat (i) * 10)).off [vb bN, vb bO, vb bP, vi bQ, vb bR, vs bS, vl bA bB bC, vi bT, vl (if aM = Int.toNat ((0 : Int)) then aD else Option.map (fun x => x.add (Int.toNat ((0 : Int)) * 36)) aD) (Int.toNat (((a : Nat) : Int)) - Int.toNat ((0 : Int))) (aM - Int.toNat ((0 : Int))), vi af] bU).toArray bY (0, 0)) :: F12))))))))) ∧ (decide (i < ((c : Nat) : Int)) = false → ((0 ≤ ((c : Nat) : Int) ∧ ((c : Nat) : Int) < (aN : Int)) ∧ ∃ bj : Addr, aC = some bj ∧ ∃ (bV : List Value) (bZ : Nat) (F13 : Heap), List.Perm F2 ((((bj.add (Int.toNat (((c : Nat) : Int)) * 10)).add 9).block, Obj.cells bV.toArray bZ (0, 0)) :: F13) ∧ ((bj.add (Int.toNat (((c : Nat) : Int)) * 10)).add 9).spot = none ∧ ((bj.add (Int.toNat (((c : Nat) : Int)) * 10)).add 9).off + 1 ≤ bV.length ∧ ((0 ≤ (0 : Int) ∧ (0 : Int) ≤ ((c : Nat) : Int) ∧ ((c : Nat) : Int) ≤ (aL : Int)) ∧ Q (.returned (.agg #[vs b1, vl (if aL = Int.toNat ((0 : Int)) then aC else Option.map (fun x => x.add (Int.toNat ((0 : Int)) * 10)) aC) (Int.toNat (((c : Nat) : Int)) - Int.toNat ((0 : Int))) (aL - Int.toNat ((0 : Int))), vi b2])) I2 (((((bj.add (Int.toNat (((c : Nat) : Int)) * 10)).add 9).block, Obj.cells (splice ((bj.add (Int.toNat (((c : Nat) : Int)) * 10)).add 9).off [vi (-771)] bV).toArray bZ (0, 0)) :: F13))))))
theorem ref00_lendState.vc {s_0 : Bs} {s_1_a : OA} {s_1_n s_1_c : Nat} {s_2 : Int} {I : Imm} {F : Heap} {Q : PostQ} (Inv8 : OA → OA → Nat → Nat → Int → Nat → Imm → Heap → Imm → Heap → Prop) (Inv25 : OA → OA → Nat → Nat → Int → OA → OA → Nat → Nat → Int → Nat → Imm → Heap → Imm → Heap → Prop) (h : ref00_lendState.V (fun b => (b, Obj.cells #[.string s_0, .slice s_1_a s_1_n s_1_c, .int .i64 s_2] 70 (0, 0))) (fun k o t n f s a l c q => .agg #[.int .u8 k, .int .u8 o, .int .u8 t, .int .i64 n, .int .u8 f, .string s, .slice a l c, .int .i64 q]) (.int .u8) (.int .i64) .string .slice (IntKind.wrap .i64) s_0 s_1_a s_1_n s_1_c s_2 I F Q Inv8 Inv25) : Tri P 28 #[.agg #[.string s_0, .slice s_1_a s_1_n s_1_c, .int .i64 s_2]] I (F) Q :=
  tv (A := (annL [3004, 8004] [] [27] shT_t8 [(8, ⟨[(4, (.int .i64))], [], fun fs I0 F0 vs m I F => match fs, vs with | [.pointer y0, .slice y1 y2 y3], [.int _ y4] => Inv8 y0 y1 y2 y3 y4 m I0 F0 I F | _, _ => False, [1, 3], []⟩), (25, ⟨[(7, (.int .i64))], [], fun fs I0 F0 vs m I F => match fs, vs with | [.pointer y0, .slice y1 y2 y3, .int _ y4, .pointer y5, .slice y6 y7 y8], [.int _ y9] => Inv25 y0 y1 y2 y3 y4 y5 y6 y7 y8 y9 m I0 F0 I F | _, _ => False, [1, 3, 4, 5, 6], []⟩)] [] [] [] [] [(17, [0, 1, 2, 5, 6, 10, 7, 8, 9, 11, 3, 4, 12, 13, 14]), (19, [0, 2, 3, 7, 1, 4, 5, 6, 8, 9, 10])] [] [] [(17, [7, 11], 14)])) (args := [.a (.v (.agg #[.string s_0, .slice s_1_a s_1_n s_1_c, .int .i64 s_2]))]) (own := []) (keep := []) [27] Go.Proofs.Tryz.func28 h
def ref00_WholeStrategy.V (a d : Nat → Nat × Obj) (vb vi : Int → Value) (vs : Bs → Value) (vl : OA → Nat → Nat → Value) (vt : Bool → Value) (wr : Int → Int) (aL : Bs) (n : OA) (g o : Nat) (p : OA) (h q : Nat) (j : OA) (c s : Nat) (am : Bs) (ab : OA) (ac ae : Nat) (af : OA) (ag ah : Nat) (ai : OA) (aj ak : Nat) (I : Imm) (F : Heap) (Q : PostQ) (Inv30 : Bool → Int → Nat → Imm → Heap → Imm → Heap → Prop) (Inv54 : Int → Bool → Int → Nat → Imm → Heap → Imm → Heap → Prop) : Prop := ∀ e : Nat, ∀ b : Nat, Tri P 12 (#[.agg #[vs aL, vl n g o, vl p h q, vl j c s], .agg #[vs am, vl ab ac ae, vl af ag ah, vl ai aj ak]]) I ((d e) :: (a b) :: F) fun e1 I1 G1 => ∃ (r : Bool), e1 = .returned (vt r) ∧ ∃ F1 : Heap, List.Perm G1 ((d e) :: (a b) :: F1) ∧ (((!r) = true → Q (.returned (vt false)) I1 (F1)) ∧ ((!r) = false → ((0 ≤ (0 : Int) ∧ (0 : Int) ≤ (wr (((g : Nat) : Int) + 1)) ∧ (wr (((g : Nat) : Int) + 1)) ≤ (o : Int)) ∧ ((0 ≤ (0 : Int) ∧ (0 : Int) ≤ (wr (((h : Nat) : Int) + 1)) ∧ (wr (((h : Nat) : Int) + 1)) ≤ (q : Int)) ∧ ((0 ≤ (0 : Int) ∧ (0 : Int) ≤ (wr (((c : Nat) : Int) + 1)) ∧ (wr (((c : Nat) : Int) + 1)) ≤ (s : Int)) ∧ ((0 ≤ ((g : Nat) : Int) ∧ ((g : Nat) : Int) < ((Int.toNat ((wr (((g : Nat) : Int) + 1))) - Int.toNat ((0 : Int))) : Int)) ∧ ∃ ad : Addr, (if o = Int.toNat ((0 : Int)) then n else Option.map (fun x => x.add (Int.toNat ((0 : Int)) * 11)) n) = some ad ∧ ∃ (m : Int), Rd I1 ((d e) :: (a b) :: F1) ((ad.add (Int.toNat (((g : Nat) : Int)) * 11)).add 10) [vi m] ∧ (((m != (-771)) = true → Q (.returned (vt false)) I1 (F1)) ∧ ((m != (-771)) = false → ((0 ≤ ((h : Nat) : Int) ∧ ((h : Nat) : Int) < ((Int.toNat ((wr (((h : Nat) : Int) + 1))) - Int.toNat ((0 : Int))) : Int)) ∧ ∃ aw : Addr, (if q = Int.toNat ((0 : Int)) then p else Option.map (fun x => x.add (Int.toNat ((0 : Int)) * 2)) p) = some aw ∧ ∃ (m1 : Int), Rd I1 ((d e) :: (a b) :: F1) ((aw.add (Int.toNat (((h : Nat) : Int)) * 2)).add 1) [vi m1] ∧ (((m1 != (-771)) = true → Q (.returned (vt false)) I1 (F1)) ∧ ((m1 != (-771)) = false → ((0 ≤ ((c : Nat) : Int) ∧ ((c : Nat) : Int) < ((Int.toNat ((wr (((c : Nat) : Int) + 1))) - Int.toNat ((0 : Int))) : Int)) ∧ ∃ ax : Addr, (if s = Int.toNat ((0 : Int)) then j else Option.map (fun x => x.add (Int.toNat ((0 : Int)) * 3)) j) = some ax ∧ ∃ (m2 : Int), Rd I1 ((d e) :: (a b) :: F1) ((ax.add (Int.toNat (((c : Nat) : Int)) * 3)).add 2) [vi m2] ∧ (((m2 != (-771)) = true → Q (.returned (vt false)) I1 (F1)) ∧ ((m2 != (-771)) = false → (∃ m3 : Nat, Inv30 false 0 m3 I1 F1 I1 F1) ∧ ∀ (x : Bool) (i : Int) (m4 : Nat) (I2 : Imm) (F2 : Heap), Imm.le I1 I2 → Inv30 x i m4 I1 F1 I2 F2 → ((decide (i < ((c : Nat) : Int)) = true → ((0 ≤ i ∧ i < (c : Int)) ∧ ∃ ay : Addr, j = some ay ∧ ∃ (l : OA) (f al : Nat), Rd I2 ((d e) :: (a b) :: F2) ((ay.add (Int.toNat (i) * 3)).add 1) [vl l f al] ∧ ((0 ≤ (0 : Int) ∧ (0 : Int) ≤ (wr (((f : Nat) : Int) + 1)) ∧ (wr (((f : Nat) : Int) + 1)) ≤ (al : Int)) ∧ ((0 ≤ ((f : Nat) : Int) ∧ ((f : Nat) : Int) < ((Int.toNat ((wr (((f : Nat) : Int) + 1))) - Int.toNat ((0 : Int))) : Int)) ∧ ∃ az : Addr, (if al = Int.toNat ((0 : Int)) then l else Option.map (fun x => x.add (Int.toNat ((0 : Int)) * 10)) l) = some az ∧ ∃ (m5 : Int), Rd I2 ((d e) :: (a b) :: F2) ((az.add (Int.toNat (((f : Nat) : Int)) * 10)).add 9) [vi m5] ∧ (((m5 != (-771)) = true → Q (.returned (vt false)) I2 (F2)) ∧ ((m5 != (-771)) = false → (∃ m6 : Nat, Inv54 i x 0 m6 I2 F2 I2 F2) ∧ ∀ (x1 : Bool) (k : Int) (m7 : Nat) (I3 : Imm) (F3 : Heap), Imm.le I2 I3 → Inv54 i x1 k m7 I2 F2 I3 F3 → ((decide (k < ((f : Nat) : Int)) = true → ((0 ≤ k ∧ k < (f : Int)) ∧ ∃ aA : Addr, l = some aA ∧ ∃ (v : OA) (aG w : Nat), Rd I3 ((d e) :: (a b) :: F3) ((aA.add (Int.toNat (k) * 10)).add 8) [vl v aG w] ∧ ((0 ≤ k ∧ k < (f : Int)) ∧ ∃ aB : Addr, l = some aB ∧ ∃ (aH : OA) (t aI : Nat), Rd I3 ((d e) :: (a b) :: F3) ((aB.add (Int.toNat (k) * 10)).add 8) [vl aH t aI] ∧ ((0 ≤ (0 : Int) ∧ (0 : Int) ≤ (wr (((t : Nat) : Int) + 1)) ∧ (wr (((t : Nat) : Int) + 1)) ≤ (w : Int)) ∧ ((0 ≤ k ∧ k < (f : Int)) ∧ ∃ aC : Addr, l = some aC ∧ ∃ (an ao ap aq ar : Int) (au : Bs) (y : OA) (z aa : Nat) (av : Int), Rd I3 ((d e) :: (a b) :: F3) ((aC.add (Int.toNat (k) * 10)).add 0) [vb an, vb ao, vb ap, vi aq, vb ar, vs au, vl y z aa, vi av] ∧ Tri P 55 (#[.agg #[vb an, vb ao, vb ap, vi aq, vb ar, vs au, vl y z aa, vi av]]) I3 ((d e) :: (a b) :: F3) fun e2 I4 G2 => ∃ (r1 : Bool), e2 = .returned (vt r1) ∧ ∃ F4 : Heap, List.Perm G2 ((d e) :: (a b) :: F4) ∧ (((!r1) = true → Q (.returned (vt false)) I4 (F4)) ∧ ((!r1) = false → ((0 ≤ k ∧ k < (f : Int)) ∧ ∃ aD : Addr, l = some aD ∧ ∃ (aJ : OA) (u aK : Nat), Rd I4 ((d e) :: (a b) :: F4) ((aD.add (Int.toNat (k) * 10)).add 8) [vl aJ u aK] ∧ ((0 ≤ ((u : Nat) : Int) ∧ ((u : Nat) : Int) < ((Int.toNat ((wr (((t : Nat) : Int) + 1))) - Int.toNat ((0 : Int))) : Int)) ∧ ∃ aE : Addr, (if w = Int.toNat ((0 : Int)) then v else Option.map (fun x => x.add (Int.toNat ((0 : Int)) * 36)) v) = some aE ∧ ∃ (m8 : Int), Rd I4 ((d e) :: (a b) :: F4) ((aE.add (Int.toNat (((u : Nat) : Int)) * 36)).add 35) [vi m8] ∧ (((m8 != (-771)) = true → Q (.returned (vt false)) I4 (F4)) ∧ ((m8 != (-771)) = false → (∃ m9 : Nat, m9 < m7 ∧ Inv54 i x1 (wr (k + 1)) m9 I2 F2 I4 F4)))))))))))) ∧ (decide (k < ((f : Nat) : Int)) = false → (∃ aF : Nat, aF < m4 ∧ Inv30 x1 (wr (i + 1)) aF I1 F1 I3 F3))))))))) ∧ (decide (i < ((c : Nat) : Int)) = false → Q (.returned (vt true)) I2 (F2)))))))))))))))))
theorem ref00_WholeStrategy.vc {x_0 : Bs} {x_1_a : OA} {x_1_n x_1_c : Nat} {x_2_a : OA} {x_2_n x_2_c : Nat} {x_3_a : OA} {x_3_n x_3_c : Nat} {was_0 : Bs} {was_1_a : OA} {was_1_n was_1_c : Nat} {was_2_a : OA} {was_2_n was_2_c : Nat} {was_3_a : OA} {was_3_n was_3_c : Nat} {I : Imm} {F : Heap} {Q : PostQ} (Inv30 : Bool → Int → Nat → Imm → Heap → Imm → Heap → Prop) (Inv54 : Int → Bool → Int → Nat → Imm → Heap → Imm → Heap → Prop) (h : ref00_WholeStrategy.V (fun b => (b, Obj.cells #[.string was_0, .slice was_1_a was_1_n was_1_c, .slice was_2_a was_2_n was_2_c, .slice was_3_a was_3_n was_3_c] 26 (0, 0))) (fun b => (b, Obj.cells #[.string x_0, .slice x_1_a x_1_n x_1_c, .slice x_2_a x_2_n x_2_c, .slice x_3_a x_3_n x_3_c] 26 (0, 0))) (.int .u8) (.int .i64) .string .slice .bool (IntKind.wrap .i64) x_0 x_1_a x_1_n x_1_c x_2_a x_2_n x_2_c x_3_a x_3_n x_3_c was_0 was_1_a was_1_n was_1_c was_2_a was_2_n was_2_c was_3_a was_3_n was_3_c I F Q Inv30 Inv54) : Tri P 10 #[.agg #[.string x_0, .slice x_1_a x_1_n x_1_c, .slice x_2_a x_2_n x_2_c, .slice x_3_a x_3_n x_3_c], .agg #[.string was_0, .slice was_1_a was_1_n was_1_c, .slice was_2_a was_2_n was_2_c, .slice was_3_a was_3_n was_3_c]] I (F) Q :=
  tv (A := (annL [2001, 7007, 7016, 7026, 10004, 14006, 17003, 21001, 21013] [] [12, 55] shT_t8 [(30, ⟨[(4, .bool), (9, (.int .i64))], [], fun fs I0 F0 vs m I F => match fs, vs with | [], [.bool y0, .int _ y1] => Inv30 y0 y1 m I0 F0 I F | _, _ => False, [], []⟩), (54, ⟨[(4, .bool), (12, (.int .i64))], [], fun fs I0 F0 vs m I F => match fs, vs with | [.int _ y0], [.bool y1, .int _ y2] => Inv54 y0 y1 y2 m I0 F0 I F | _, _ => False, [9], []⟩)] [] [] [] [] [] [])) (args := [.a (.v (.agg #[.string x_0, .slice x_1_a x_1_n x_1_c, .slice x_2_a x_2_n x_2_c, .slice x_3_a x_3_n x_3_c])), .a (.v (.agg #[.string was_0, .slice was_1_a was_1_n was_1_c, .slice was_2_a was_2_n was_2_c, .slice was_3_a was_3_n was_3_c]))]) (own := []) (keep := []) [12, 55] Go.Proofs.Tryz.func10 h
def ref00_Trees_Strategy.V (a : Nat → Nat × Obj) (nV : Int → Int → Int → Int → Int → Bs → OA → Nat → Nat → Int → Value) (nL : Int → Int → Int → Int → Int → Bs → OA → Nat → Nat → Int → List Value) (vb vi : Int → Value) (vs : Bs → Value) (vl : OA → Nat → Nat → Value) (vp : OA → Value) (wr : Int → Int) (b : Addr) (cj : Bs) (bc : OA) (aL bP : Nat) (bQ : OA) (bR bS : Nat) (bd : OA) (aM bT : Nat) (I : Imm) (F : Heap) (Q : PostQ) (Inv8 : Int → Nat → Imm → Heap → Imm → Heap → Prop) (Inv26 : Int → Nat → Imm → Heap → Imm → Heap → Prop) (Inv42 : Int → Int → Nat → Imm → Heap → Imm → Heap → Prop) (Inv58 : Int → Int → Int → Nat → Imm → Heap → Imm → Heap → Prop) : Prop := ∀ c : Nat, ∃ ad : Addr, some b = some ad ∧ ∃ (bU : OA) (bV bW : Nat), Rd I ((a c) :: F) (ad.add 2) [vl bU bV bW] ∧ ∀ (b1 : Nat) (I1 : Imm), Imm.le I I1 → I1 b1 = some (Obj.cells #[vl bc aL bP] 22 (0, 0)) → TriE P (Builtin.append_ #[36, 36] 36 #[vl bU bV bW, vl (some ⟨b1, 0, none⟩) 1 1]) I1 ((a c) :: F) fun v I2 G1 => ∃ (aZ : OA) (a0 a1 : Nat), v = vl aZ a0 a1 ∧ ∃ F1 : Heap, List.Perm G1 ((a c) :: F1) ∧ ∃ aC : Addr, some b = some aC ∧ ∃ (cs : List Value) (el : Nat) (F2 : Heap), List.Perm F1 (((aC.add 2).block, Obj.cells cs.toArray el (0, 0)) :: F2) ∧ (aC.add 2).spot = none ∧ (aC.add 2).off + 1 ≤ cs.length ∧ (∃ m : Nat, Inv8 0 m I2 (((aC.add 2).block, Obj.cells (splice (aC.add 2).off [vl aZ a0 a1] cs).toArray el (0, 0)) :: F2) I2 (((aC.add 2).block, Obj.cells (splice (aC.add 2).off [vl aZ a0 a1] cs).toArray el (0, 0)) :: F2)) ∧ ∀ (i : Int) (m1 : Nat) (I3 : Imm) (F3 : Heap), Imm.le I2 I3 → Inv8 i m1 I2 (((aC.add 2).block, Obj.cells (splice (aC.add 2).off [vl aZ a0 a1] cs).toArray el (0, 0)) :: F2) I3 F3 → ((decide (i < ((aL : Nat) : Int)) = true → ((0 ≤ i ∧ i < (aL : Int)) ∧ ∃ b9 : Addr, bc = some b9 ∧ ∃ (bX bY bZ b0 b6 : Int) (b7 : Bs) (be : OA) (bf bg : Nat) (b8 : Int), Rd I3 ((a c) :: F3) ((b9.add (Int.toNat (i) * 11)).add 2) (nL bX bY bZ b0 b6 b7 be bf bg b8) ∧ Tri P 60 (#[vp (some b), nV bX bY bZ b0 b6 b7 be bf bg b8]) I3 ((a c) :: F3) fun e1 I4 G2 => e1 = .returned (.tuple #[]) ∧ ∃ F4 : Heap, List.Perm G2 ((a c) :: F4) ∧ (∃ m2 : Nat, m2 < m1 ∧ Inv8 (wr (i + 1)) m2 I2 (((aC.add 2).block, Obj.cells (splice (aC.add 2).off [vl aZ a0 a1] cs).toArray el (0, 0)) :: F2) I4 F4))) ∧ (decide (i < ((aL : Nat) : Int)) = false → ∃ ca : Addr, some b = some ca ∧ ∃ (bi : OA) (bj bk : Nat), Rd I3 ((a c) :: F3) (ca.add 3) [vl bi bj bk] ∧ ∀ (b2 : Nat) (I5 : Imm), Imm.le I3 I5 → I5 b2 = some (Obj.cells #[vl bQ bR bS] 23 (0, 0)) → TriE P (Builtin.append_ #[37, 37] 37 #[vl bi bj bk, vl (some ⟨b2, 0, none⟩) 1 1]) I5 ((a c) :: F3) fun v1 I6 G3 => ∃ (a8 : OA) (a9 ba : Nat), v1 = vl a8 a9 ba ∧ ∃ F5 : Heap, List.Perm G3 ((a c) :: F5) ∧ ∃ aJ : Addr, some b = some aJ ∧ ∃ (bh : List Value) (bl : Nat) (F6 : Heap), List.Perm F5 (((aJ.add 3).block, Obj.cells bh.toArray bl (0, 0)) :: F6) ∧ (aJ.add 3).spot = none ∧ (aJ.add 3).off + 1 ≤ bh.length ∧ ∃ cb : Addr, some b = some cb ∧ ∃ (bm : OA) (bn bo : Nat), Rd I6 ((a c) :: (((aJ.add 3).block, Obj.cells (splice (aJ.add 3).off [vl a8 a9 ba] bh).toArray bl (0, 0)) :: F6)) (cb.add 4) [vl bm bn bo] ∧ ∀ (b3 : Nat) (I7 : Imm), Imm.le I6 I7 → I7 b3 = some (Obj.cells #[vl bd aM bT] 24 (0, 0)) → TriE P (Builtin.append_ #[38, 38] 38 #[vl bm bn bo, vl (some ⟨b3, 0, none⟩) 1 1]) I7 ((a c) :: (((aJ.add 3).block, Obj.cells (splice (aJ.add 3).off [vl a8 a9 ba] bh).toArray bl (0, 0)) :: F6)) fun v2 I8 G4 => ∃ (aN : OA) (aO aP : Nat), v2 = vl aN aO aP ∧ ∃ F7 : Heap, List.Perm G4 ((a c) :: F7) ∧ ∃ aD : Addr, some b = some aD ∧ ∃ (aW : List Value) (a2 : Nat) (F8 : Heap), List.Perm F7 (((aD.add 4).block, Obj.cells aW.toArray a2 (0, 0)) :: F8) ∧ (aD.add 4).spot = none ∧ (aD.add 4).off + 1 ≤ aW.length ∧ (∃ m3 : Nat, Inv26 0 m3 I8 (((aD.add 4).block, Obj.cells (splice (aD.add 4).off [vl aN aO aP] aW).toArray a2 (0, 0)) :: F8) I8 (((aD.add 4).block, Obj.cells (splice (aD.add 4).off [vl aN aO aP] aW).toArray a2 (0, 0)) :: F8)) ∧ ∀ (i1 : Int) (m4 : Nat) (I9 : Imm) (F9 : Heap), Imm.le I8 I9 → Inv26 i1 m4 I8 (((aD.add 4).block, Obj.cells (splice (aD.add 4).off [vl aN aO aP] aW).toArray a2 (0, 0)) :: F8) I9 F9 → ((decide (i1 < ((aM : Nat) : Int)) = true → ((0 ≤ i1 ∧ i1 < (aM : Int)) ∧ ∃ cc : Addr, bd = some cc ∧ ∃ (aI : OA) (aF bp : Nat), Rd I9 ((a c) :: F9) ((cc.add (Int.toNat (i1) * 3)).add 1) [vl aI aF bp] ∧ ∃ cd : Addr, some b = some cd ∧ ∃ (bq : OA) (br bs : Nat), Rd I9 ((a c) :: F9) (cd.add 5) [vl bq br bs] ∧ ∀ (b4 : Nat) (I10 : Imm), Imm.le I9 I10 → I10 b4 = some (Obj.cells #[vl aI aF bp] 68 (0, 0)) → TriE P (Builtin.append_ #[39, 39] 39 #[vl bq br bs, vl (some ⟨b4, 0, none⟩) 1 1]) I10 ((a c) :: F9) fun v3 I11 G5 => ∃ (aQ : OA) (aR aS : Nat), v3 = vl aQ aR aS ∧ ∃ F10 : Heap, List.Perm G5 ((a c) :: F10) ∧ ∃ aE : Addr, some b = some aE ∧ ∃ (aX : List Value) (a3 : Nat) (F11 : Heap), List.Perm F10 (((aE.add 5).block, Obj.cells aX.toArray a3 (0, 0)) :: F11) ∧ (aE.add 5).spot = none ∧ (aE.add 5).off + 1 ≤ aX.length ∧ (∃ m5 : Nat, Inv42 i1 0 m5 I11 (((aE.add 5).block, Obj.cells (splice (aE.add 5).off [vl aQ aR aS] aX).toArray a3 (0, 0)) :: F11) I11 (((aE.add 5).block, Obj.cells (splice (aE.add 5).off [vl aQ aR aS] aX).toArray a3 (0, 0)) :: F11)) ∧ ∀ (k : Int) (m6 : Nat) (I12 : Imm) (F12 : Heap), Imm.le I11 I12 → Inv42 i1 k m6 I11 (((aE.add 5).block, Obj.cells (splice (aE.add 5).off [vl aQ aR aS] aX).toArray a3 (0, 0)) :: F11) I12 F12 → ((decide (k < ((aF : Nat) : Int)) = true → ((0 ≤ k ∧ k < (aF : Int)) ∧ ∃ bJ : Addr, aI = some bJ ∧ ∃ (bt bu bv bw bx : Int) (bz : Bs) (a4 : OA) (a5 a6 : Nat) (bA : Int), Rd I12 ((a c) :: F12) ((bJ.add (Int.toNat (k) * 10)).add 0) (nL bt bu bv bw bx bz a4 a5 a6 bA) ∧ Tri P 60 (#[vp (some b), nV bt bu bv bw bx bz a4 a5 a6 bA]) I12 ((a c) :: F12) fun e2 I13 G6 => e2 = .returned (.tuple #[]) ∧ ∃ F13 : Heap, List.Perm G6 ((a c) :: F13) ∧ ∃ bK : Addr, some b = some bK ∧ ((0 ≤ k ∧ k < (aF : Int)) ∧ ∃ bL : Addr, aI = some bL ∧ ∃ (bB : OA) (bC bD : Nat), Rd I13 ((a c) :: F13) (bK.add 6) [vl bB bC bD] ∧ ∃ (bE : OA) (bF bG : Nat), Rd I13 ((a c) :: F13) ((bL.add (Int.toNat (k) * 10)).add 8) [vl bE bF bG] ∧ ∀ (b5 : Nat) (I14 : Imm), Imm.le I13 I14 → I14 b5 = some (Obj.cells #[vl bE bF bG] 65 (0, 0)) → TriE P (Builtin.append_ #[40, 40] 40 #[vl bB bC bD, vl (some ⟨b5, 0, none⟩) 1 1]) I14 ((a c) :: F13) fun v4 I15 G7 => ∃ (aT : OA) (aU aV : Nat), v4 = vl aT aU aV ∧ ∃ F14 : Heap, List.Perm G7 ((a c) :: F14) ∧ ∃ aa : Addr, some b = some aa ∧ ∃ (aY : List Value) (a7 : Nat) (F15 : Heap), List.Perm F14 (((aa.add 6).block, Obj.cells aY.toArray a7 (0, 0)) :: F15) ∧ (aa.add 6).spot = none ∧ (aa.add 6).off + 1 ≤ aY.length ∧ (∃ m7 : Nat, Inv58 i1 k 0 m7 I15 (((aa.add 6).block, Obj.cells (splice (aa.add 6).off [vl aT aU aV] aY).toArray a7 (0, 0)) :: F15) I15 (((aa.add 6).block, Obj.cells (splice (aa.add 6).off [vl aT aU aV] aY).toArray a7 (0, 0)) :: F15)) ∧ ∀ (j : Int) (m8 : Nat) (I16 : Imm) (F16 : Heap), Imm.le I15 I16 → Inv58 i1 k j m8 I15 (((aa.add 6).block, Obj.cells (splice (aa.add 6).off [vl aT aU aV] aY).toArray a7 (0, 0)) :: F15) I16 F16 → ((0 ≤ k ∧ k < (aF : Int)) ∧ ∃ bM : Addr, aI = some bM ∧ ∃ (cg : OA) (bb ch : Nat), Rd I16 ((a c) :: F16) ((bM.add (Int.toNat (k) * 10)).add 8) [vl cg bb ch] ∧ ((decide (j < ((bb : Nat) : Int)) = true → ((0 ≤ k ∧ k < (aF : Int)) ∧ ∃ bN : Addr, aI = some bN ∧ ∃ (bH : OA) (bI ci : Nat), Rd I16 ((a c) :: F16) ((bN.add (Int.toNat (k) * 10)).add 8) [vl bH bI ci] ∧ ((0 ≤ j ∧ j < (bI : Int)) ∧ ∃ bO : Addr, bH = some bO ∧ ∃ (ay az : Int) (aA : Bs) (ab ac ae aG af : Int) (aH : Bs) (q : OA) (r s : Nat) (ag t u ah ai aj : Int) (ak : Bs) (d : OA) (e f : Nat) (al am an w x ao : Int) (ap : Bs) (g : OA) (h l : Nat) (aq ar au av aw y : Int) (z : Bs) (n : OA) (o p : Nat) (ax aB : Int), Rd I16 ((a c) :: F16) (bO.add (Int.toNat (j) * 36)) [vb ay, vb az, vs aA, vb ab, vb ac, vb ae, vi aG, vb af, vs aH, vl q r s, vi ag, vb t, vb u, vb ah, vi ai, vb aj, vs ak, vl d e f, vi al, vb am, vb an, vb w, vi x, vb ao, vs ap, vl g h l, vi aq, vb ar, vb au, vb av, vi aw, vb y, vs z, vl n o p, vi ax, vi aB] ∧ ∀ aK : Nat, Tri P 60 (#[vp (some b), nV ab ac ae aG af aH q r s ag]) I16 ((a c) :: (aK, Obj.cells #[vb ay, vb az, vs aA, vb ab, vb ac, vb ae, vi aG, vb af, vs aH, vl q r s, vi ag, vb t, vb u, vb ah, vi ai, vb aj, vs ak, vl d e f, vi al, vb am, vb an, vb w, vi x, vb ao, vs ap, vl g h l, vi aq, vb ar, vb au, vb av, vi aw, vb y, vs z, vl n o p, vi ax, vi aB] 89 (0, 0)) :: F16) fun e3 I17 G8 => e3 = .returned (.tuple #[]) ∧ ∃ F17 : Heap, List.Perm G8 ((a c) :: (aK, Obj.cells #[vb ay, vb az, vs aA, vb ab, vb ac, vb ae, vi aG, vb af, vs aH, vl q r s, vi ag, vb t, vb u, vb ah, vi ai, vb aj, vs ak, vl d e f, vi al, vb am, vb an, vb w, vi x, vb ao, vs ap, vl g h l, vi aq, vb ar, vb au, vb av, vi aw, vb y, vs z, vl n o p, vi ax, vi aB] 89 (0, 0)) :: F17) ∧ Tri P 60 (#[vp (some b), nV t u ah ai aj ak d e f al]) I17 ((a c) :: (aK, Obj.cells #[vb ay, vb az, vs aA, vb ab, vb ac, vb ae, vi aG, vb af, vs aH, vl q r s, vi ag, vb t, vb u, vb ah, vi ai, vb aj, vs ak, vl d e f, vi al, vb am, vb an, vb w, vi x, vb ao, vs ap, vl g h l, vi aq, vb ar, vb au, vb av, vi aw, vb y, vs z, vl n o p, vi ax, vi aB] 89 (0, 0)) :: F17) fun e4 I18 G9 => e4 = .returned (.tuple #[]) ∧ ∃ F18 : Heap, List.Perm G9 ((a c) :: (aK, Obj.cells #[vb ay, vb az, vs aA, vb ab, vb ac, vb ae, vi aG, vb af, vs aH, vl q r s, vi ag, vb t, vb u, vb ah, vi ai, vb aj, vs ak, vl d e f, vi al, vb am, vb an, vb w, vi x, vb ao, vs ap, vl g h l, vi aq, vb ar, vb au, vb av, vi aw, vb y, vs z, vl n o p, vi ax, vi aB] 89 (0, 0)) :: F18) ∧ Tri P 60 (#[vp (some b), nV am an w x ao ap g h l aq]) I18 ((a c) :: (aK, Obj.cells #[vb ay, vb az, vs aA, vb ab, vb ac, vb ae, vi aG, vb af, vs aH, vl q r s, vi ag, vb t, vb u, vb ah, vi ai, vb aj, vs ak, vl d e f, vi al, vb am, vb an, vb w, vi x, vb ao, vs ap, vl g h l, vi aq, vb ar, vb au, vb av, vi aw, vb y, vs z, vl n o p, vi ax, vi aB] 89 (0, 0)) :: F18) fun e5 I19 G10 => e5 = .returned (.tuple #[]) ∧ ∃ F19 : Heap, List.Perm G10 ((a c) :: (aK, Obj.cells #[vb ay, vb az, vs aA, vb ab, vb ac, vb ae, vi aG, vb af, vs aH, vl q r s, vi ag, vb t, vb u, vb ah, vi ai, vb aj, vs ak, vl d e f, vi al, vb am, vb an, vb w, vi x, vb ao, vs ap, vl g h l, vi aq, vb ar, vb au, vb av, vi aw, vb y, vs z, vl n o p, vi ax, vi aB] 89 (0, 0)) :: F19) ∧ Tri P 60 (#[vp (some b), nV ar au av aw y z n o p ax]) I19 ((a c) :: (aK, Obj.cells #[vb ay, vb az, vs aA, vb ab, vb ac, vb ae, vi aG, vb af, vs aH, vl q r s, vi ag, vb t, vb u, vb ah, vi ai, vb aj, vs ak, vl d e f, vi al, vb am, vb an, vb w, vi x, vb ao, vs ap, vl g h l, vi aq, vb ar, vb au, vb av, vi aw, vb y, vs z, vl n o p, vi ax, vi aB] 89 (0, 0)) :: F19) fun e6 I20 G11 => e6 = .returned (.tuple #[]) ∧ ∃ F20 : Heap, List.Perm G11 ((a c) :: (aK, Obj.cells #[vb ay, vb az, vs aA, vb ab, vb ac, vb ae, vi aG, vb af, vs aH, vl q r s, vi ag, vb t, vb u, vb ah, vi ai, vb aj, vs ak, vl d e f, vi al, vb am, vb an, vb w, vi x, vb ao, vs ap, vl g h l, vi aq, vb ar, vb au, vb av, vi aw, vb y, vs z, vl n o p, vi ax, vi aB] 89 (0, 0)) :: F20) ∧ (∃ m9 : Nat, m9 < m8 ∧ Inv58 i1 k (wr (j + 1)) m9 I15 (((aa.add 6).block, Obj.cells (splice (aa.add 6).off [vl aT aU aV] aY).toArray a7 (0, 0)) :: F15) I20 F20)))) ∧ (decide (j < ((bb : Nat) : Int)) = false → (∃ ce : Nat, ce < m6 ∧ Inv42 i1 (wr (k + 1)) ce I11 (((aE.add 5).block, Obj.cells (splice (aE.add 5).off [vl aQ aR aS] aX).toArray a3 (0, 0)) :: F11) I16 F16))))))) ∧ (decide (k < ((aF : Nat) : Int)) = false → (∃ cf : Nat, cf < m4 ∧ Inv26 (wr (i1 + 1)) cf I8 (((aD.add 4).block, Obj.cells (splice (aD.add 4).off [vl aN aO aP] aW).toArray a2 (0, 0)) :: F8) I12 F12))))) ∧ (decide (i1 < ((aM : Nat) : Int)) = false → Q (.returned (.tuple #[])) I9 (F9)))))
theorem ref00_Trees_Strategy.vc {b : Addr} {s_0 : Bs} {s_1_a : OA} {s_1_n s_1_c : Nat} {s_2_a : OA} {s_2_n s_2_c : Nat} {s_3_a : OA} {s_3_n s_3_c : Nat} {I : Imm} {F : Heap} {Q : PostQ} (Inv8 : Int → Nat → Imm → Heap → Imm → Heap → Prop) (Inv26 : Int → Nat → Imm → Heap → Imm → Heap → Prop) (Inv42 : Int → Int → Nat → Imm → Heap → Imm → Heap → Prop) (Inv58 : Int → Int → Int → Nat → Imm → Heap → Imm → Heap → Prop) (h : ref00_Trees_Strategy.V (fun b => (b, Obj.cells #[.string s_0, .slice s_1_a s_1_n s_1_c, .slice s_2_a s_2_n s_2_c, .slice s_3_a s_3_n s_3_c] 26 (0, 0))) (fun k o t n f s a l c q => .agg #[.int .u8 k, .int .u8 o, .int .u8 t, .int .i64 n, .int .u8 f, .string s, .slice a l c, .int .i64 q]) (fun k o t n f s a l c q => [.int .u8 k, .int .u8 o, .int .u8 t, .int .i64 n, .int .u8 f, .string s, .slice a l c, .int .i64 q]) (.int .u8) (.int .i64) .string .slice .pointer (IntKind.wrap .i64) b s_0 s_1_a s_1_n s_1_c s_2_a s_2_n s_2_c s_3_a s_3_n s_3_c I F Q Inv8 Inv26 Inv42 Inv58) : Tri P 14 #[.pointer (some b), .agg #[.string s_0, .slice s_1_a s_1_n s_1_c, .slice s_2_a s_2_n s_2_c, .slice s_3_a s_3_n s_3_c]] I (F) Q :=
  tv (A := (annL [3004, 9004, 14003, 19007] [] [60] shT_t8 [(8, ⟨[(4, (.int .i64))], [], fun fs I0 F0 vs m I F => match fs, vs with | [], [.int _ y0] => Inv8 y0 m I0 F0 I F | _, _ => False, [], []⟩), (26, ⟨[(5, (.int .i64))], [], fun fs I0 F0 vs m I F => match fs, vs with | [], [.int _ y0] => Inv26 y0 m I0 F0 I F | _, _ => False, [], []⟩), (42, ⟨[(7, (.int .i64))], [], fun fs I0 F0 vs m I F => match fs, vs with | [.int _ y0], [.int _ y1] => Inv42 y0 y1 m I0 F0 I F | _, _ => False, [5], []⟩), (58, ⟨[(8, (.int .i64))], [], fun fs I0 F0 vs m I F => match fs, vs with | [.int _ y0, .int _ y1], [.int _ y2] => Inv58 y0 y1 y2 m I0 F0 I F | _, _ => False, [5, 7], []⟩)] [1007, 6007, 7007, 12006, 17010] [] [] [] [(1, [0, 1, 2, 3, 5, 4, 6, 7, 8, 9, 10, 11]), (6, [0, 1, 2, 3, 5, 4, 6, 7, 8, 9, 10, 11]), (7, [0, 1, 2, 3, 5, 4, 6, 7, 8, 9, 10, 11]), (17, [0, 1, 2, 3, 5, 6, 7, 8, 4, 9, 10, 11, 12, 13, 14])] [])) (args := [.a (.v (.pointer (some b))), .a (.v (.agg #[.string s_0, .slice s_1_a s_1_n s_1_c, .slice s_2_a s_2_n s_2_c, .slice s_3_a s_3_n s_3_c]))]) (own := []) (keep := []) [60] Go.Proofs.Tryz.func14 h
end Go.Lx
namespace Go.Lx
open Go.Vc
theorem splice_in' {α : Type} (k : Nat) (vs X : List α) : ∀ P : List α, splice (P.length + k) vs (P ++ X) = P ++ splice k vs X
  | [] => by rw [List.length_nil, Nat.zero_add]; rfl
  | p :: P => by
    rw [List.length_cons, show P.length + 1 + k = (P.length + k) + 1 by omega, List.cons_append, splice, splice_in' k vs X P]; rfl
theorem splice_at' {α : Type} (P vs ws S : List α) (h : vs.length = ws.length) : splice P.length vs (P ++ (ws ++ S)) = P ++ (vs ++ S) := by
  rw [splice_eq _ _ _ (by simp only [List.length_append]; omega)]
  have h2 : (P ++ (ws ++ S)).drop (P.length + vs.length) = S := by rw [h, ← List.append_assoc, ← List.length_append]; exact List.drop_left
  rw [h2, List.take_left]
def Fill {α : Type} (z : Nat) (f : α → List Value) (E : Nat) (O : α → Heap → Prop) (a : Option Addr) (n c len : Nat) (l : List α) (F F' : Heap) : Prop :=
  ∃ (b : Nat) (cs : List Value) (hs : Nat → Heap), a = some ⟨b, 0, none⟩ ∧ n = len + 2 ∧ c = len + 2 ∧ cs.length = (len + 2) * z ∧ cs.take (l.length * z) = l.flatMap f ∧ (∀ (i : Nat) (k : α), l[i]? = some k → O k (hs i)) ∧
    F'.Perm ((b, Obj.cells cs.toArray E (0, 0)) :: (flatH l.length hs ++ F))
theorem Fill.mem {α : Type} {z E n c len : Nat} {f : α → List Value} {O : α → Heap → Prop} {a : Option Addr} {l : List α} {F F' : Heap} (h : Fill z f E O a n c len l F F') : ∀ x, x ∈ F → x ∈ F' := by
  obtain ⟨b, cs, hs, h1, h2, h3, h4, h5, h6, hp⟩ := h
  exact fun x hx => hp.mem_iff.2 (.tail _ (List.mem_append_right _ hx))
theorem Fill.perm {α : Type} {z E n c len : Nat} {f : α → List Value} {O : α → Heap → Prop} {a : Option Addr} {l : List α} {F F' F'' : Heap} (h : Fill z f E O a n c len l F F') (p : F''.Perm F') : Fill z f E O a n c len l F F'' := by
  obtain ⟨b, cs, hs, h1, h2, h3, h4, h5, h6, hp⟩ := h
  exact ⟨b, cs, hs, h1, h2, h3, h4, h5, h6, p.trans hp⟩
theorem Fill.opened {α : Type} {z E n c len : Nat} {f : α → List Value} (hz : ∀ x, (f x).length = z) {O : α → Heap → Prop} {a : Option Addr} {l : List α} {F F' : Heap} (h : Fill z f E O a n c len l F F') (hl : l.length < len + 2) :
    ∃ (b : Nat) (P ws S : List Value) (F9 : Heap), a = some ⟨b, 0, none⟩ ∧ n = len + 2 ∧ c = len + 2 ∧ P.length = l.length * z ∧ ws.length = z ∧ F'.Perm ((b, Obj.cells (P ++ (ws ++ S)).toArray E (0, 0)) :: F9) ∧ (∀ x, x ∈ F → x ∈ F9) ∧
      ∀ (x : α) (Hx F10 : Heap), O x Hx → F10.Perm ((b, Obj.cells (P ++ (f x ++ S)).toArray E (0, 0)) :: (Hx ++ F9)) → Fill z f E O a n c len (l ++ [x]) F F10 := by
  obtain ⟨b, cs, hs, h1, h2, h3, h4, h5, h6, hp⟩ := h
  have hle : (l.length + 1) * z ≤ (len + 2) * z := Nat.mul_le_mul_right z hl
  have hle2 : l.length * z + z ≤ cs.length := by rw [h4]; rw [Nat.succ_mul] at hle; exact hle
  refine ⟨b, cs.take (l.length * z), (cs.drop (l.length * z)).take z, (cs.drop (l.length * z)).drop z, flatH l.length hs ++ F, h1, h2, h3, by rw [List.length_take]; omega, by rw [List.length_take, List.length_drop]; omega, ?_, fun x hx => List.mem_append_right _ hx, fun x Hx F10 hO hF => ?_⟩
  · rw [List.take_append_drop, List.take_append_drop]; exact hp
  · refine ⟨b, cs.take (l.length * z) ++ (f x ++ (cs.drop (l.length * z)).drop z), fun j => if j < l.length then hs j else Hx, h1, h2, h3, ?_, ?_, fun j k hj => ?_, ?_⟩
    · simp only [List.length_append, List.length_take, List.length_drop, hz]; omega
    · have hlen : ((cs.take (l.length * z)) ++ f x).length = (l ++ [x]).length * z := by
        simp only [List.length_append, List.length_take, hz, List.length_singleton, Nat.succ_mul]; omega
      rw [← List.append_assoc, ← hlen, List.take_left, h5, List.flatMap_append]; simp
    · show O k (if j < l.length then hs j else Hx)
      rw [List.getElem?_append] at hj
      split at hj
      · rename_i hlt'; rw [if_pos hlt']; exact h6 j k hj
      · rename_i hge
        have hj' := List.mem_of_getElem? hj
        rw [List.mem_singleton] at hj'
        rw [if_neg hge, hj']; exact hO
    · rw [List.length_append, List.length_singleton, flatH_last, if_neg (Nat.lt_irrefl _), flatH_congr (hs' := hs) fun j hj => if_pos hj]
      exact hF.trans ((perm_of fun z => by simp only [cn_app, cn_cons]; omega) : List.Perm ((b, Obj.cells (cs.take (l.length * z) ++ (f x ++ (cs.drop (l.length * z)).drop z)).toArray E (0, 0)) :: (Hx ++ (flatH l.length hs ++ F))) _)
theorem Fill.done {α : Type} {z E n c len : Nat} {f : α → List Value} (hz : ∀ x, (f x).length = z) (hz1 : 1 ≤ z) {O : α → Heap → Prop} {a : Option Addr} {l : List α} {F F' : Heap} (h : Fill z f E O a n c len l F F') (hl : l.length = len) :
    ∃ (b : Nat) (cs : List Value) (F9 : Heap), a = some ⟨b, 0, none⟩ ∧ n = len + 2 ∧ c = len + 2 ∧ F'.Perm ((b, Obj.cells cs.toArray E (0, 0)) :: F9) ∧ len * z + (z - 1) + 1 ≤ cs.length ∧ (∀ x, x ∈ F → x ∈ F9) ∧
      ∀ F10 : Heap, F10.Perm ((b, Obj.cells (splice (len * z + (z - 1)) [.int .i64 (-771)] cs).toArray E (0, 0)) :: F9) → ∃ H, OwnL true z f E O a l.length (len + 2) l H ∧ F10.Perm (H ++ F) := by
  obtain ⟨b, cs, hs, h1, h2, h3, h4, h5, h6, hp⟩ := h
  subst hl
  have hle2 : l.length * z + (z - 1) + 1 ≤ cs.length := by rw [h4, Nat.add_mul]; omega
  refine ⟨b, cs, flatH l.length hs ++ F, h1, h2, h3, hp, hle2, fun x hx => List.mem_append_right _ hx, fun F10 hF => ?_⟩
  have hs1 := splice_one (l.length * z + (z - 1)) (.int .i64 (-771)) cs (by omega)
  rw [hs1] at hF
  refine ⟨(b, Obj.cells (cs.set (l.length * z + (z - 1)) (.int .i64 (-771))).toArray E (0, 0)) :: flatH l.length hs, ⟨[(b, Obj.cells (cs.set (l.length * z + (z - 1)) (.int .i64 (-771))).toArray E (0, 0))], hs, rfl, ⟨rfl, .inr ⟨b, _, h1, rfl, ?_, by omega, ?_⟩⟩, fun _ => ⟨b, _, E, h1, rfl, rfl, ?_⟩, h6⟩, hF⟩
  · rw [List.size_toArray, List.length_set, h4]
  · show (cs.set _ _).take (l.length * z) = _
    rw [List.take_set_of_le (by omega)]; exact h5
  · rw [List.getElem?_toArray, List.getElem?_set_self (by omega)]
theorem Fill.start {α : Type} {z E len b : Nat} {f : α → List Value} {O : α → Heap → Prop} {F : Heap} {cs : List Value} (h : cs.length = (len + 2) * z) : Fill z f E O (some ⟨b, 0, none⟩) (len + 2) (len + 2) len ([] : List α) F ((b, Obj.cells cs.toArray E (0, 0)) :: F) :=
  ⟨b, cs, fun _ => [], rfl, rfl, rfl, h, by simp, fun i k h => by simp at h, .refl _⟩
theorem map_snoc0 {α β : Type} {g : α → β} {l : List α} {i : Nat} {x : α} (hx : l[i]? = some x) : (l.take (i + 1)).map g = (l.take i).map g ++ [g x] := by
  obtain ⟨hk, rfl⟩ := List.getElem?_eq_some_iff.1 hx
  rw [List.take_succ_eq_append_getElem hk, List.map_append]; rfl
theorem map_len0 {α β δ : Type} {g : α → β} {p : δ → β} {l : List α} {ks : List δ} {i : Nat} (e : ks.map p = (l.take i).map g) (hi : i ≤ l.length) : ks.length = i := by
  have := congrArg List.length e
  simp only [List.length_map, List.length_take] at this
  omega
set_option maxHeartbeats 600000 in
theorem lendState_spec (x : StateN) (hs : x.p.Light) (I : Imm) (F : Heap) (hx : x.Ok I F) : Tri P 28 #[x.v] I F fun e I' G => ∃ (x' : StateN) (H : Heap), e = .returned x'.v ∧ x'.p = x.p ∧ StateOwn true x' H ∧ G.Perm (H ++ F) := by
  have hl := hs.1
  have hru : ∀ r ∈ x.rules, r.p.Light := fun r hr => hs.2 _ (List.mem_map_of_mem hr)
  have hdl : ∀ r ∈ x.rules, r.dos.length ≤ 1048576 := fun r hr => by have := (hru r hr).2.1; simpa only [RuleN.p, List.length_map] using this
  simp only [StateN.p, List.length_map] at hl
  refine ref00_lendState.vc
    (fun p1 ra rn rc i m I0 F0 I' F' => 0 ≤ i ∧ i ≤ x.rules.length ∧ m = (x.rules.length - i).toNat ∧ ∃ ks : List RuleN, ks.map RuleN.p = (x.rules.take i.toNat).map RuleN.p ∧ Fill 10 RuleN.enc 67 (RuleOwn true) ra rn rc x.rules.length ks F F')
    (fun p1 ra rn rc i p5 da dn dc k m I0 F0 I' F' => ∃ r, x.rules[i.toNat]? = some r ∧ 0 ≤ k ∧ k ≤ r.dos.length ∧ m = (r.dos.length - k).toNat ∧ ∃ (ds : List DoN) (F1 : Heap), ds.map DoN.p = (r.dos.take k.toNat).map DoN.p ∧ Fill 36 DoN.enc 89 (DoOwn true) da dn dc r.dos.length ds F1 F' ∧
      (∀ a, a ∈ F → a ∈ F1) ∧ ∃ ks : List RuleN, ks.map RuleN.p = (x.rules.take i.toNat).map RuleN.p ∧ Fill 10 RuleN.enc 67 (RuleOwn true) ra rn rc x.rules.length ks F F1) ?_
  unfold ref00_lendState.V
  intro b_s b
  have hw2 : IntKind.wrap .i64 ((x.rules.length : Int) + 2) = (x.rules.length : Int) + 2 := w64 (by omega)
  rw [hw2]
  refine TriE.mono (make_spec (e := 67) (z := 10) (by' := 104) (zv := (⟨zNd, none, 0, [], 0⟩ : RuleN).v) (by kernel_rfl) (by kernel_rfl) (by omega) (Int.le_refl _) (by omega) (by omega)) fun v I1 G hI1 ⟨b', cs, hv, hcl, _, hI, hG⟩ => ?_
  subst hG
  have htn : ((x.rules.length : Int) + 2).toNat = x.rules.length + 2 := by omega
  rw [htn] at hv hcl
  refine ⟨_, _, _, hv, (b', Obj.cells cs.toArray 67 (0, 0)) :: F, (perm_of fun z => by simp only [cn_app, cn_cons, cn_nil]; omega), ⟨_, by omega, by omega, rfl, [], by simp, Fill.start hcl⟩, fun i m1 I2 F2 l2 ⟨g0, g1, gm, ks, gk, gP⟩ => ⟨fun hlt => ?_, fun hlt => ?_⟩⟩
  · have hlt := of_decide_eq_true hlt
    have l12 := Imm.le_trans hI1 l2
    have ok1 : x.Ok I2 F2 := hx.mono l12 gP.mem
    obtain ⟨ad, r, had, hr, hrd, hrm⟩ := SlG.atm (ok1.cons.cons (x := (b_s, Obj.cells #[.string x.name, .slice x.a x.rules.length x.c, .int .i64 x.pos] 70 (0, 0))) (s := x)).1 g0 hlt
    have hrl := hdl r hrm
    have hkl := map_len0 gk (by omega)
    refine ⟨⟨g0, hlt⟩, ad, had, _, _, _, _, _, _, _, _, _, _, _, _, _, _, hrd, fun b_r => ?_⟩
    have hw3 : IntKind.wrap .i64 ((r.dos.length : Int) + 2) = (r.dos.length : Int) + 2 := w64 (by omega)
    rw [hw3]
    refine TriE.mono (make_spec (e := 89) (z := 36) (by' := 320) (zv := (⟨0, 0, ⟨#[]⟩, zNd, zNd, zNd, zNd, 0⟩ : DoN).v) (by kernel_rfl) (by kernel_rfl) (by omega) (Int.le_refl _) (by omega) (by omega)) fun v I3 G hI3 ⟨b3, cs3, hv3, hcl3, _, hI3', hG⟩ => ?_
    subst hG
    have htn3 : ((r.dos.length : Int) + 2).toNat = r.dos.length + 2 := by omega
    rw [htn3] at hv3 hcl3
    refine ⟨_, _, _, hv3, (b3, Obj.cells cs3.toArray 89 (0, 0)) :: F2, (perm_of fun z => by simp only [cn_app, cn_cons, cn_nil]; omega), ⟨_, r, hr, by omega, by omega, rfl, [], F2, by simp, Fill.start hcl3, gP.mem, ks, gk, gP⟩, fun k m3 I4 F4 l4 ⟨r', hr', k0, k1, km, ds, F1', dk, dP, hsub, ks', gk', gP'⟩ => ⟨fun hlt2 => ?_, fun hlt2 => ?_⟩⟩
    · obtain rfl : r = r' := by rw [hr] at hr'; exact Option.some.inj hr'
      have hlt2 := of_decide_eq_true hlt2
      have l24 := Imm.le_trans hI3 l4
      have ok4 : r.Ok I4 F4 := (hx.2 r hrm).mono (Imm.le_trans l12 l24) fun a ha => dP.mem a (hsub a ha)
      obtain ⟨ad1, d, had1, hd, hrd1, hdm⟩ := SlG.atm (ok4.cons.cons.cons (x := (b_s, Obj.cells #[.string x.name, .slice x.a x.rules.length x.c, .int .i64 x.pos] 70 (0, 0))) (s := r)).2.1 k0 hlt2
      have hdlen := map_len0 dk (by omega)
      have hds := (hru r hrm).2.2 _ (List.mem_map_of_mem hdm)
      simp only [DoP.Light, Small, DoP.nds, DoN.p, List.mem_cons, List.not_mem_nil, or_false] at hds
      have hd4 := ok4.2.2 d hdm
      refine ⟨⟨k0, hlt2⟩, ad1, had1, _, _, _, _, _, _, _, _, _, _, _, _, _, _, _, _, _, _, _, _, _, _, _, _, _, _, _, _, _, _, _, _, _, _, _, _, _, _, _, _, _, _, _, _, hrd1, fun b_d => ?_⟩
      refine (lend_spec d.side (hds _ (.inl rfl)) I4 _ hd4.cons.cons.cons.cons.1).mono fun e I5 G l5 ⟨t1, H1, he, p1, o1, hG⟩ => ?_
      subst he
      refine ⟨_, _, _, _, _, _, _, _, _, _, rfl, H1 ++ F4, hG.trans (perm_of fun z => by simp only [cn_app, cn_cons, cn_nil]; omega), ?_⟩
      have k1' : d.Ok I5 (H1 ++ F4) := hd4.mono l5 fun a ha => List.mem_append_right _ ha
      refine (lend_spec d.qty (hds _ (.inr (.inl rfl))) I5 _ k1'.cons.cons.cons.cons.2.1).mono fun e I6 G l6 ⟨t2, H2, he, p2, o2, hG⟩ => ?_
      subst he
      refine ⟨_, _, _, _, _, _, _, _, _, _, rfl, H2 ++ (H1 ++ F4), hG.trans (perm_of fun z => by simp only [cn_app, cn_cons, cn_nil]; omega), ?_⟩
      have k2' : d.Ok I6 (H2 ++ (H1 ++ F4)) := k1'.mono l6 fun a ha => List.mem_append_right _ ha
      refine (lend_spec d.price (hds _ (.inr (.inr (.inl rfl)))) I6 _ k2'.cons.cons.cons.cons.2.2.1).mono fun e I7 G l7 ⟨t3, H3, he, p3, o3, hG⟩ => ?_
      subst he
      refine ⟨_, _, _, _, _, _, _, _, _, _, rfl, H3 ++ (H2 ++ (H1 ++ F4)), hG.trans (perm_of fun z => by simp only [cn_app, cn_cons, cn_nil]; omega), ?_⟩
      have k3' : d.Ok I7 (H3 ++ (H2 ++ (H1 ++ F4))) := k2'.mono l7 fun a ha => List.mem_append_right _ ha
      refine (lend_spec d.value (hds _ (.inr (.inr (.inr rfl)))) I7 _ k3'.cons.cons.cons.cons.2.2.2).mono fun e I8 G l8 ⟨t4, H4, he, p4, o4, hG⟩ => ?_
      subst he
      obtain ⟨b4, P4, ws, S4, F9, ha4, hn4, hc4, hP4, hws, hp4, -, hup⟩ := dP.opened (z := 36) (f := DoN.enc) (fun _ => rfl) (by omega)
      have hnew := hup ⟨d.kind, d.order, d.name, t1, t2, t3, t4, d.pos⟩ (H1 ++ (H2 ++ (H3 ++ H4))) _ ⟨H1, H2, H3, H4, rfl, o1, o2, o3, o4⟩ (.refl _)
      have hsp4 := splice_at' P4 (⟨d.kind, d.order, d.name, t1, t2, t3, t4, d.pos⟩ : DoN).enc ws S4 (by rw [hws]; rfl)
      rw [← hsp4] at hnew
      simp only [DoN.enc] at hnew
      have hmap : (ds ++ [(⟨d.kind, d.order, d.name, t1, t2, t3, t4, d.pos⟩ : DoN)]).map DoN.p = (r.dos.take (k + 1).toNat).map DoN.p := by
        rw [show (k + 1).toNat = k.toNat + 1 by omega, map_snoc0 hd, List.map_append, dk, List.map_singleton]
        congr 2
        show DoP.mk _ _ _ _ _ _ _ _ = _
        rw [p1, p2, p3, p4]; rfl
      clear hup hsp4
      refine ⟨_, _, _, _, _, _, _, _, _, _, rfl, H4 ++ (H3 ++ (H2 ++ (H1 ++ F4))), hG.trans (perm_of fun z => by simp only [cn_app, cn_cons, cn_nil]; omega), ⟨k0, by omega⟩, _, ha4, P4 ++ (ws ++ S4), 89, H4 ++ (H3 ++ (H2 ++ (H1 ++ F9))), ?_⟩
      have hkP : Int.toNat k * 36 = P4.length := by rw [hP4]; omega
      rw [add_lit0, hkP]
      refine ⟨(perm_of fun z => by have q0 := cn_perm hp4 z; simp only [cn_app, cn_cons, cn_nil] at q0 ⊢; omega), rfl, by simp only [List.length_append, hws]; omega, (r.dos.length - (k + 1)).toNat, by omega, r, hr, ?_⟩
      rw [w64 (n := k + 1) (by omega)]
      exact ⟨by omega, by omega, rfl, _, F1', hmap, hnew.perm (perm_of fun z => by simp only [cn_app, cn_cons, cn_nil]; omega), hsub, ks', gk', gP'⟩
    · obtain rfl : r = r' := by rw [hr] at hr'; exact Option.some.inj hr'
      have hlt2 := of_decide_eq_false hlt2
      have hdlen := map_len0 dk (by omega)
      have hde : ds.length = r.dos.length := by omega
      have hkl' := map_len0 gk' (by omega)
      have l24 := Imm.le_trans hI3 l4
      obtain ⟨b5, cs5, F9, ha5, hn5, hc5, hp5, hle5, hsub5, hdone⟩ := dP.done (z := 36) (f := DoN.enc) (fun _ => rfl) (by decide) hde
      cases ha5
      obtain ⟨Hd, hOd, hpd⟩ := hdone ((b3, Obj.cells (splice (r.dos.length * 36 + 35) [.int .i64 (-771)] cs5).toArray 89 (0, 0)) :: F9) (.refl _)
      refine ⟨⟨by omega, by omega⟩, _, rfl, cs5, 89, F9, ?_⟩
      rw [add_add, Int.toNat_natCast]
      refine ⟨hp5, rfl, hle5, ⟨by omega, by omega, by omega⟩, ?_⟩
      refine (lend_spec r.when (hru r hrm).1 I4 _ (((hx.2 r hrm).mono (Imm.le_trans l12 l24) fun a ha => .tail _ (.tail _ (.tail _ (.tail _ (hsub5 a (hsub a ha)))))).1)).mono fun e I9 G l9 ⟨w, Hw, he, pw, ow, hG⟩ => ?_
      subst he
      obtain ⟨b6, P6, ws6, S6, F12, ha6, hn6, hc6, hP6, hws6, hp6, -, hup6⟩ := gP'.opened (z := 10) (f := RuleN.enc) (fun _ => rfl) (by omega)
      refine ⟨_, _, _, _, _, _, _, _, _, _, rfl, Hw ++ (Hd ++ F1'), hG.trans (perm_of fun z => by have q0 := cn_perm hpd z; simp only [cn_app, cn_cons, cn_nil] at q0 ⊢; omega), ⟨g0, by omega⟩, _, ha6, P6 ++ (ws6 ++ S6), 67, Hw ++ (Hd ++ F12), ?_⟩
      have hiP : Int.toNat i * 10 = P6.length := by rw [hP6]; omega
      rw [add_lit0, hiP, slice0]
      refine ⟨(perm_of fun z => by have q0 := cn_perm hp6 z; simp only [cn_app, cn_cons, cn_nil] at q0 ⊢; omega), rfl, by simp only [List.length_append, hws6]; omega, (x.rules.length - (i + 1)).toNat, by omega, ?_⟩
      rw [w64 (n := i + 1) (by omega)]
      refine ⟨by omega, by omega, rfl, ks' ++ [⟨w, some ⟨b3, 0, none⟩, r.dos.length + 2, ds, r.pos⟩], ?_, hup6 ⟨w, some ⟨b3, 0, none⟩, r.dos.length + 2, ds, r.pos⟩ (Hw ++ Hd) _ ⟨Hw, Hd, rfl, ow, hOd⟩ ?_⟩
      · rw [show (i + 1).toNat = i.toNat + 1 by omega, map_snoc0 hr, List.map_append, gk', List.map_singleton]
        congr 2
        show RuleP.mk w.px (ds.map DoN.p) r.pos = ⟨r.when.px, r.dos.map DoN.p, r.pos⟩
        rw [pw, dk, List.take_of_length_le (by omega)]
      · have he5 : (⟨w, some ⟨b3, 0, none⟩, r.dos.length + 2, ds, r.pos⟩ : RuleN).enc.length = ws6.length := by rw [hws6]; rfl
        have hsp := splice_at' P6 _ ws6 S6 he5
        have hcc : r.dos.length + 2 - Int.toNat 0 = r.dos.length + 2 := rfl
        have hnn : r.dos.length - Int.toNat 0 = ds.length := by rw [hde]; rfl
        rw [hcc, hnn]
        show List.Perm ((b6, Obj.cells (splice P6.length (⟨w, some ⟨b3, 0, none⟩, r.dos.length + 2, ds, r.pos⟩ : RuleN).enc (P6 ++ (ws6 ++ S6))).toArray 67 (0, 0)) :: (Hw ++ (Hd ++ F12))) _
        rw [hsp]
        exact (perm_of fun z => by simp only [cn_app, cn_cons, cn_nil]; omega)
  · have hlt := of_decide_eq_false hlt
    have hkl := map_len0 gk (by omega)
    have hke : ks.length = x.rules.length := by omega
    obtain ⟨b5, cs5, F9, ha5, hn5, hc5, hp5, hle5, hsub5, hdone⟩ := gP.done (z := 10) (f := RuleN.enc) (fun _ => rfl) (by decide) hke
    cases ha5
    refine ⟨⟨by omega, by omega⟩, _, rfl, cs5, 67, F9, ?_⟩
    rw [add_add, Int.toNat_natCast]
    obtain ⟨H, hO, hpH⟩ := hdone _ (.refl _)
    refine ⟨hp5, rfl, hle5, ⟨by omega, by omega, by omega⟩, ⟨x.name, some ⟨b', 0, none⟩, x.rules.length + 2, ks, x.pos⟩, H, ?_, ?_, hO, hpH⟩
    · rw [slice0]
      show Ending.returned (.agg #[.string x.name, .slice (some ⟨b', 0, none⟩) (x.rules.length - Int.toNat 0) (x.rules.length + 2 - Int.toNat 0), .int .i64 x.pos]) = .returned (.agg #[.string x.name, .slice (some ⟨b', 0, none⟩) ks.length (x.rules.length + 2), .int .i64 x.pos])
      rw [hke]; rfl
    · show StateP.mk x.name (ks.map RuleN.p) x.pos = ⟨x.name, x.rules.map RuleN.p, x.pos⟩
      rw [gk, List.take_of_length_le (by omega)]
end Go.Lx
namespace Go.Lx
open Go.Vc
set_option maxHeartbeats 1000000 in
theorem lendStg_spec (s : StgN) (hs : s.p.Light) (I : Imm) (F : Heap) (hx : s.Ok I F) : Tri P 6 #[s.v] I F fun e I' G => ∃ (s' : StgN) (H : Heap), e = .returned s'.v ∧ s'.p = s.p ∧ StgOwn true s' H ∧ G.Perm (H ++ F) := by
  have lr := hs.regs
  have ls := hs.slots
  have lt := hs.states
  simp only [StgN.p, List.length_map] at lr ls lt
  have hnm : ∀ r ∈ s.regs, r.init.px.size ≤ 1048576 := fun r hr => hs.reg _ (List.mem_map_of_mem hr)
  have hst : ∀ x ∈ s.states, x.p.Light := fun x hx => hs.state _ (List.mem_map_of_mem hx)
  refine ref00_LendStrategy.vc
    (fun p1 p3 ra rn rc i m I0 F0 I' F' => 0 ≤ i ∧ i ≤ s.regs.length ∧ m = (s.regs.length - i).toNat ∧ ∃ rs : List RegN, rs.map RegN.p = (s.regs.take i.toNat).map RegN.p ∧ Fill 11 RegN.enc 75 (RegOwn true) ra rn rc s.regs.length rs F F')
    (fun p1 p3 ra rn rc i a2 n2 c2 j m I0 F0 I' F' => 0 ≤ j ∧ j ≤ s.slots.length ∧ m = (s.slots.length - j).toNat ∧ ∃ (rs : List RegN) (H1 : Heap) (ss : List SlotP), rs.map RegN.p = s.regs.map RegN.p ∧ rs.length = s.regs.length ∧ rc = s.regs.length + 2 ∧ OwnL true 11 RegN.enc 75 (RegOwn true) ra rs.length rc rs H1 ∧
      ss.map id = (s.slots.take j.toNat).map id ∧ Fill 2 SlotP.enc 77 SlotOwn a2 n2 c2 s.slots.length ss (H1 ++ F) F')
    (fun p1 p3 ra rn rc i a2 n2 c2 j a3 n3 c3 k m I0 F0 I' F' => 0 ≤ k ∧ k ≤ s.states.length ∧ m = (s.states.length - k).toNat ∧ ∃ (rs : List RegN) (H1 : Heap) (ss : List SlotP) (H2 : Heap) (ts : List StateN), rs.map RegN.p = s.regs.map RegN.p ∧ rs.length = s.regs.length ∧ rc = s.regs.length + 2 ∧ OwnL true 11 RegN.enc 75 (RegOwn true) ra rs.length rc rs H1 ∧
      ss = s.slots ∧ c2 = s.slots.length + 2 ∧ OwnL true 2 SlotP.enc 77 SlotOwn a2 ss.length c2 ss H2 ∧ ts.map StateN.p = (s.states.take k.toNat).map StateN.p ∧ Fill 3 StateN.enc 70 (StateOwn true) a3 n3 c3 s.states.length ts (H1 ++ (H2 ++ F)) F') ?_
  unfold ref00_LendStrategy.V
  intro b_s b b_x
  have hw2 : IntKind.wrap .i64 ((s.regs.length : Int) + 2) = (s.regs.length : Int) + 2 := w64 (by omega)
  rw [hw2]
  refine TriE.mono (make_spec (e := 75) (z := 11) (by' := 104) (zv := (⟨⟨#[]⟩, 0, zNd, 0⟩ : RegN).v) (by kernel_rfl) (by kernel_rfl) (by omega) (Int.le_refl _) (by omega) (by omega)) fun v I1 G l1 ⟨b', cs, hv, hcl, _, hI, hG⟩ => ?_
  subst hG
  have htn : ((s.regs.length : Int) + 2).toNat = s.regs.length + 2 := by omega
  rw [htn] at hv hcl
  refine ⟨_, _, _, hv, (b', Obj.cells cs.toArray 75 (0, 0)) :: F, (perm_of fun z => by simp only [cn_app, cn_cons, cn_nil]; omega), ⟨_, by omega, by omega, rfl, [], by simp, Fill.start hcl⟩, fun i m1 I2 F2 l2' ⟨g0, g1, gm, rs, gk, gP⟩ => ⟨fun hlt => ?_, fun hlt => ?_⟩⟩
  · have hlt := of_decide_eq_true hlt
    have l2 := Imm.le_trans l1 l2'
    have ok1 : s.Ok I2 F2 := hx.mono l2 gP.mem
    obtain ⟨ad, r, had, hr, hrd, hrm⟩ := SlG.atm (ok1.cons.cons.cons (x := (b_s, Obj.cells #[.string s.name, .slice s.ra s.regs.length s.rc, .slice s.sa s.slots.length s.sc, .slice s.ta s.states.length s.tc] 26 (0, 0))) (s := s)).regs g0 hlt
    have hkl := map_len0 gk (by omega)
    obtain ⟨b4, P4, ws, S4, F9, ha4, hn4, hc4, hP4, hws, hp4, hsub4, hup⟩ := gP.opened (z := 11) (f := RegN.enc) (fun _ => rfl) (by omega)
    cases ha4
    have hiP : Int.toNat i * 11 = P4.length := by rw [hP4]; omega
    have ok9 : s.Ok I2 F9 := hx.mono l2 hsub4
    obtain ⟨ad2, r2, had2, hr2, hrd2, hrm2⟩ := SlG.atm (ok9.mono (Imm.le_refl I2) (H := (b_s, Obj.cells #[.string s.name, .slice s.ra s.regs.length s.rc, .slice s.sa s.slots.length s.sc, .slice s.ta s.states.length s.tc] 26 (0, 0)) :: (b, Obj.cells #[.string ⟨#[]⟩, .slice none 0 0, .slice none 0 0, .slice none 0 0] 26 (0, 0)) :: (b_x, Obj.cells #[.string s.name, .slice none 0 0, .slice none 0 0, .slice none 0 0] 26 (0, 0)) :: (b', Obj.cells (splice P4.length r.enc (P4 ++ (ws ++ S4))).toArray 75 (0, 0)) :: F9) fun a ha => .tail _ (.tail _ (.tail _ (.tail _ ha)))).regs g0 hlt
    obtain rfl : r = r2 := by rw [hr] at hr2; exact Option.some.inj hr2
    refine ⟨⟨g0, hlt⟩, ad, had, _, _, _, _, _, _, _, _, _, _, _, _, _, hrd, ⟨g0, by omega⟩, _, rfl, P4 ++ (ws ++ S4), 75, F9, ?_⟩
    rw [add_lit0, hiP]
    refine ⟨hp4, rfl, by simp only [List.length_append, hws]; omega, ⟨g0, hlt⟩, ad2, had2, r.init.kind, r.init.oper, r.init.typ, r.init.n, r.init.field, r.init.name, r.init.a, r.init.kids.length, r.init.c, r.init.pos, ?_, ?_⟩
    · rw [hiP] at hrd2
      exact Rd.part (o := 2) hrd2 (xs := [.string r.name, .int .u8 r.typ]) (ds := r.init.enc) (ys := [.int .i64 r.pos]) rfl rfl
    refine (lend_spec r.init (hnm r hrm) I2 _ ((ok9.reg r hrm).mono (Imm.le_refl I2) fun a ha => .tail _ (.tail _ (.tail _ (.tail _ ha))))).mono fun e I3 G l3 ⟨w, Hw, he, pw, ow, hG⟩ => ?_
    subst he
    have hnew := hup ⟨r.name, r.typ, w, r.pos⟩ Hw _ ow (.refl _)
    have e1 : P4 ++ ((⟨r.name, r.typ, w, r.pos⟩ : RegN).enc ++ S4) = splice (P4.length + 2) w.enc (splice P4.length r.enc (P4 ++ (ws ++ S4))) := by
      rw [splice_at' P4 r.enc ws S4 (by rw [hws]; rfl), splice_in']; rfl
    rw [e1] at hnew
    refine ⟨_, _, _, _, _, _, _, _, _, _, rfl, (b', Obj.cells (splice P4.length [.string r.name, .int .u8 r.typ, .int .u8 r.init.kind, .int .u8 r.init.oper, .int .u8 r.init.typ, .int .i64 r.init.n, .int .u8 r.init.field, .string r.init.name, .slice r.init.a r.init.kids.length r.init.c, .int .i64 r.init.pos, .int .i64 r.pos] (P4 ++ (ws ++ S4))).toArray 75 (0, 0)) :: (Hw ++ F9), hG.trans (perm_of fun z => by simp only [cn_app, cn_cons, cn_nil]; omega), ⟨g0, by omega⟩, _, rfl, splice P4.length r.enc (P4 ++ (ws ++ S4)), 75, Hw ++ F9, ?_⟩
    rw [add_add]
    refine ⟨.refl _, rfl, ?_, (s.regs.length - (i + 1)).toNat, by omega, ?_⟩
    · rw [splice_at' P4 r.enc ws S4 (by rw [hws]; rfl)]
      simp only [List.length_append]
      show P4.length + 2 + 8 ≤ P4.length + (11 + S4.length)
      omega
    rw [w64 (n := i + 1) (by omega)]
    refine ⟨by omega, by omega, rfl, _, ?_, hnew⟩
    rw [show (i + 1).toNat = i.toNat + 1 by omega, map_snoc0 hr, List.map_append, gk, List.map_singleton]
    congr 2
    show RegP.mk r.name r.typ w.px r.pos = ⟨r.name, r.typ, r.init.px, r.pos⟩
    rw [pw]
  have hlt := of_decide_eq_false hlt
  have hkl := map_len0 gk (by omega)
  have hke : rs.length = s.regs.length := by omega
  obtain ⟨b5, cs5, F9, ha5, hn5, hc5, hp5, hle5, hsub5, hdone⟩ := gP.done (z := 11) (f := RegN.enc) (fun _ => rfl) (by decide) hke
  cases ha5
  refine ⟨⟨by omega, by omega⟩, _, rfl, cs5, 75, F9, ?_⟩
  rw [add_add, Int.toNat_natCast]
  obtain ⟨H1, hO1, hp1⟩ := hdone ((b', Obj.cells (splice (s.regs.length * 11 + 10) [.int .i64 (-771)] cs5).toArray 75 (0, 0)) :: F9) (.refl _)
  refine ⟨hp5, rfl, hle5, ⟨by omega, by omega, by omega⟩, ?_⟩
  have hw3 : IntKind.wrap .i64 ((s.slots.length : Int) + 2) = (s.slots.length : Int) + 2 := w64 (by omega)
  rw [hw3]
  refine TriE.mono (make_spec (e := 77) (z := 2) (by' := 24) (zv := (⟨⟨#[]⟩, 0⟩ : SlotP).v) (by kernel_rfl) (by kernel_rfl) (by omega) (Int.le_refl _) (by omega) (by omega)) fun v I4 G l4 ⟨b2, cs2, hv2, hcl2, _, hI, hG⟩ => ?_
  subst hG
  have htn2 : ((s.slots.length : Int) + 2).toNat = s.slots.length + 2 := by omega
  rw [htn2] at hv2 hcl2
  refine ⟨_, _, _, hv2, (b2, Obj.cells cs2.toArray 77 (0, 0)) :: (H1 ++ F), (perm_of fun z => by have q0 := cn_perm hp1 z; simp only [cn_app, cn_cons, cn_nil] at q0 ⊢; omega), ⟨_, by omega, by omega, rfl, rs, H1, [], by rw [gk, List.take_of_length_le (by omega)], hke, rfl, hO1, by simp, Fill.start hcl2⟩, fun j m4 I5 F8 l5 ⟨j0, j1, jm, rs, H1, ss, jr, jn, jc, jO, jk, jP⟩ => ⟨fun hlt => ?_, fun hlt => ?_⟩⟩
  · have hlt := of_decide_eq_true hlt
    have l45 := Imm.le_trans (Imm.le_trans l1 (Imm.le_trans l2' l4)) l5
    have ok1 : s.Ok I5 F8 := hx.mono l45 fun a ha => jP.mem a (List.mem_append_right _ ha)
    obtain ⟨ad5, q, had5, hq, hrd5, hqm⟩ := SlG.atm (ok1.cons.cons.cons (x := (b_s, Obj.cells #[.string s.name, .slice s.ra s.regs.length s.rc, .slice s.sa s.slots.length s.sc, .slice s.ta s.states.length s.tc] 26 (0, 0))) (s := s)).slots j0 hlt
    have hjl := map_len0 jk (by omega)
    obtain ⟨b4, P4, ws, S4, F9, ha4, hn4, hc4, hP4, hws, hp4, hsub4, hup⟩ := jP.opened (z := 2) (f := SlotP.enc) (fun _ => rfl) (by omega)
    cases ha4
    have hnew := hup q [] _ rfl (.refl _)
    rw [← splice_at' P4 q.enc ws S4 (by rw [hws]; rfl)] at hnew
    have hjP : Int.toNat j * 2 = P4.length := by rw [hP4]; omega
    refine ⟨⟨j0, hlt⟩, ad5, had5, _, _, hrd5, ⟨j0, by omega⟩, _, rfl, P4 ++ (ws ++ S4), 77, F9, ?_⟩
    rw [add_lit0, hjP]
    refine ⟨hp4, rfl, by simp only [List.length_append, hws]; omega, (s.slots.length - (j + 1)).toNat, by omega, ?_⟩
    rw [w64 (n := j + 1) (by omega)]
    refine ⟨by omega, by omega, rfl, rs, H1, _, jr, jn, jc, jO, ?_, hnew⟩
    rw [show (j + 1).toNat = j.toNat + 1 by omega, map_snoc0 hq, List.map_append, jk, List.map_singleton]
  have hlt := of_decide_eq_false hlt
  have hjl := map_len0 jk (by omega)
  have hje : ss.length = s.slots.length := by omega
  obtain ⟨b6, cs6, F9', ha6, hn6, hc6, hp6, hle6, hsub6, hdone6⟩ := jP.done (z := 2) (f := SlotP.enc) (fun _ => rfl) (by decide) hje
  cases ha6
  refine ⟨⟨by omega, by omega⟩, _, rfl, cs6, 77, F9', ?_⟩
  rw [add_add, Int.toNat_natCast]
  obtain ⟨H2, hO2, hp2⟩ := hdone6 ((b2, Obj.cells (splice (s.slots.length * 2 + 1) [.int .i64 (-771)] cs6).toArray 77 (0, 0)) :: F9') (.refl _)
  refine ⟨hp6, rfl, hle6, ⟨by omega, by omega, by omega⟩, ?_⟩
  have hw4 : IntKind.wrap .i64 ((s.states.length : Int) + 2) = (s.states.length : Int) + 2 := w64 (by omega)
  rw [hw4]
  have hss : ss = s.slots := by rw [List.map_id, List.map_id, List.take_of_length_le (by omega)] at jk; exact jk
  refine TriE.mono (make_spec (e := 70) (z := 3) (by' := 48) (zv := (⟨⟨#[]⟩, none, 0, [], 0⟩ : StateN).v) (by kernel_rfl) (by kernel_rfl) (by omega) (Int.le_refl _) (by omega) (by omega)) fun v I6 G l6 ⟨b3, cs3, hv3, hcl3, _, hI, hG⟩ => ?_
  subst hG
  have htn3 : ((s.states.length : Int) + 2).toNat = s.states.length + 2 := by omega
  rw [htn3] at hv3 hcl3
  refine ⟨_, _, _, hv3, (b3, Obj.cells cs3.toArray 70 (0, 0)) :: (H1 ++ (H2 ++ F)), (perm_of fun z => by have q0 := cn_perm hp2 z; simp only [cn_app, cn_cons, cn_nil] at q0 ⊢; omega), ⟨_, by omega, by omega, rfl, rs, H1, ss, H2, [], jr, jn, jc, jO, hss, rfl, hO2, by simp, Fill.start hcl3⟩, fun k m7 I7 F12 l7 ⟨k0, k1, km, rs, H1, ss, H2, ts, kr, kn, kc, kO, kss, kc2, kO2, kk, kP⟩ => ⟨fun hlt => ?_, fun hlt => ?_⟩⟩
  · have hlt := of_decide_eq_true hlt
    have l17 := Imm.le_trans (Imm.le_trans l1 (Imm.le_trans l2' l4)) (Imm.le_trans l5 (Imm.le_trans l6 l7))
    have ok1 : s.Ok I7 F12 := hx.mono l17 fun a ha => kP.mem a (List.mem_append_right _ (List.mem_append_right _ ha))
    obtain ⟨ad8, x, had8, hx8, hrd8, hxm⟩ := SlG.atm (ok1.cons.cons.cons (x := (b_s, Obj.cells #[.string s.name, .slice s.ra s.regs.length s.rc, .slice s.sa s.slots.length s.sc, .slice s.ta s.states.length s.tc] 26 (0, 0))) (s := s)).states k0 hlt
    have hkl := map_len0 kk (by omega)
    refine ⟨⟨k0, hlt⟩, ad8, had8, _, _, _, _, _, hrd8, (lendState_spec x (hst x hxm) I7 _ (ok1.state x hxm).cons.cons.cons).mono fun e I8 G l8 ⟨x', Hx, he, px, ox, hG⟩ => ?_⟩
    subst he
    obtain ⟨b4, P4, ws, S4, F9, ha4, hn4, hc4, hP4, hws, hp4, hsub4, hup⟩ := kP.opened (z := 3) (f := StateN.enc) (fun _ => rfl) (by omega)
    cases ha4
    have hnew := hup x' Hx _ ox (.refl _)
    rw [← splice_at' P4 x'.enc ws S4 (by rw [hws]; rfl)] at hnew
    have hkP : Int.toNat k * 3 = P4.length := by rw [hP4]; omega
    refine ⟨_, _, _, _, _, rfl, Hx ++ F12, hG.trans (perm_of fun z => by simp only [cn_app, cn_cons, cn_nil]; omega), ⟨k0, by omega⟩, _, rfl, P4 ++ (ws ++ S4), 70, Hx ++ F9, ?_⟩
    rw [add_lit0, hkP]
    refine ⟨(perm_of fun z => by have q0 := cn_perm hp4 z; simp only [cn_app, cn_cons, cn_nil] at q0 ⊢; omega), rfl, by simp only [List.length_append, hws]; omega, (s.states.length - (k + 1)).toNat, by omega, ?_⟩
    rw [w64 (n := k + 1) (by omega)]
    refine ⟨by omega, by omega, rfl, rs, H1, ss, H2, _, kr, kn, kc, kO, kss, kc2, kO2, ?_, hnew⟩
    rw [show (k + 1).toNat = k.toNat + 1 by omega, map_snoc0 hx8, List.map_append, kk, List.map_singleton, px]
  have hlt := of_decide_eq_false hlt
  have hkl := map_len0 kk (by omega)
  have hke3 : ts.length = s.states.length := by omega
  obtain ⟨b7, cs7, F9'', ha7, hn7, hc7, hp7, hle7, hsub7, hdone7⟩ := kP.done (z := 3) (f := StateN.enc) (fun _ => rfl) (by decide) hke3
  cases ha7
  refine ⟨⟨by omega, by omega⟩, _, rfl, cs7, 70, F9'', ?_⟩
  rw [add_add, Int.toNat_natCast]
  obtain ⟨H3, hO3, hp3⟩ := hdone7 ((b3, Obj.cells (splice (s.states.length * 3 + 2) [.int .i64 (-771)] cs7).toArray 70 (0, 0)) :: F9'') (.refl _)
  refine ⟨hp7, rfl, hle7, ⟨by omega, by omega, by omega⟩, ⟨s.name, some ⟨b', 0, none⟩, s.regs.length + 2, rs, some ⟨b2, 0, none⟩, s.slots.length + 2, ss, some ⟨b3, 0, none⟩, s.states.length + 2, ts⟩, H1 ++ (H2 ++ H3), ?_, ?_, ⟨H1, H2, H3, rfl, kO, kO2, hO3⟩, (show List.Perm ((b3, Obj.cells (splice (s.states.length * 3 + 2) [.int .i64 (-771)] cs7).toArray 70 (0, 0)) :: F9'') _ from (perm_of fun z => by have q0 := cn_perm hp3 z; simp only [cn_app, cn_cons, cn_nil] at q0 ⊢; omega))⟩
  · rw [slice0, slice0, slice0]
    subst kss
    show Ending.returned (.agg #[.string s.name, .slice (some ⟨b', 0, none⟩) (s.regs.length - Int.toNat 0) (s.regs.length + 2 - Int.toNat 0), .slice (some ⟨b2, 0, none⟩) (s.slots.length - Int.toNat 0) (s.slots.length + 2 - Int.toNat 0), .slice (some ⟨b3, 0, none⟩) (s.states.length - Int.toNat 0) (s.states.length + 2 - Int.toNat 0)]) =
      .returned (.agg #[.string s.name, .slice (some ⟨b', 0, none⟩) rs.length (s.regs.length + 2), .slice (some ⟨b2, 0, none⟩) s.slots.length (s.slots.length + 2), .slice (some ⟨b3, 0, none⟩) ts.length (s.states.length + 2)])
    rw [kn, hke3]; rfl
  · show StgP.mk s.name (rs.map RegN.p) ss (ts.map StateN.p) = ⟨s.name, s.regs.map RegN.p, s.slots, s.states.map StateN.p⟩
    rw [kr, kss, kk, List.take_of_length_le (by omega)]
end Go.Lx
namespace Go.Lx
open Go.Vc
theorem OwnL.tail {α : Type} {z E n c : Nat} {f : α → List Value} {O : α → Heap → Prop} {a : Option Addr} {l : List α} {H G : Heap} (h : OwnL true z f E O a n c l H) (hG : ∀ x, x ∈ H → x ∈ G) :
    ∃ b, a = some ⟨b, 0, none⟩ ∧ c = n + 2 ∧ ∀ I, Rd I G (⟨b, n * z + (z - 1), none⟩ : Addr) [.int .i64 (-771)] := by
  obtain ⟨A, hs, rfl, hA, ht, hO⟩ := h
  obtain ⟨b, cells, e, ha, hAe, hc, hm⟩ := ht rfl
  subst hAe
  refine ⟨b, ha, hc, fun I => Rd.of_own (hG _ (List.mem_append_left _ (List.mem_cons_self ..))) _ fun j hj => ?_⟩
  have : j = 0 := by simpa using hj
  subst this
  rw [Nat.add_zero, hm]; rfl
theorem OwnL.item {α : Type} {R : Bool} {z E n c : Nat} {f : α → List Value} {O : α → Heap → Prop} {a : Option Addr} {l : List α} {H : Heap} (h : OwnL R z f E O a n c l H) {i : Nat} {k : α} (hk : l[i]? = some k) : ∃ Hk, O k Hk ∧ ∀ y, y ∈ Hk → y ∈ H := by
  obtain ⟨A, hs, rfl, hA, ht, hO⟩ := h
  have hi := (List.getElem?_eq_some_iff.1 hk).1
  have hn := hA.1
  exact ⟨hs i, hO i k hk, fun y hy => List.mem_append_right _ (flatH_mem (by omega) hy)⟩
set_option maxHeartbeats 1000000 in
theorem wholeStg_spec {s u : StgN} (hs : s.p.Light) (hsh : s.p.Short) (e : s.p = u.p) {H : Heap} {I : Imm} {F : Heap} (hO : StgOwn true s H) (hF : ∀ x, x ∈ H → x ∈ F) (hu : u.Ok I F) :
    Tri P 10 #[s.v, u.v] I F (Ret (.bool true) F) := by
  have lr := hs.regs
  have ls := hs.slots
  have lt := hs.states
  simp only [StgN.p, List.length_map] at lr ls lt
  have hst : ∀ x ∈ s.states, x.p.Light := fun x hx => hs.state _ (List.mem_map_of_mem hx)
  have hsame : s.p.same u.p = true := by rw [← e]; exact StgP.same_self _
  have hOk := hO
  obtain ⟨H1, H2, H3, rfl, hO1, hO2, hO3⟩ := hO
  simp only [List.mem_append] at hF
  refine ref00_WholeStrategy.vc (fun q i m I0 F0 I' F' => F' = F ∧ 0 ≤ i ∧ i ≤ s.states.length ∧ m = (s.states.length - i).toNat)
    (fun i q k m I0 F0 I' F' => F' = F ∧ ∃ x, s.states[i.toNat]? = some x ∧ 0 ≤ k ∧ k ≤ x.rules.length ∧ m = (x.rules.length - k).toNat) ?_
  unfold ref00_WholeStrategy.V
  intro b_x b_was
  have sub2 : ∀ y, y ∈ F → y ∈ (b_x, Obj.cells #[.string s.name, .slice s.ra s.regs.length s.rc, .slice s.sa s.slots.length s.sc, .slice s.ta s.states.length s.tc] 26 (0, 0)) :: (b_was, Obj.cells #[.string u.name, .slice u.ra u.regs.length u.rc, .slice u.sa u.slots.length u.sc, .slice u.ta u.states.length u.tc] 26 (0, 0)) :: F := fun y hy => .tail _ (.tail _ hy)
  have hOkR : ∀ J, s.Ok J ((b_x, Obj.cells #[.string s.name, .slice s.ra s.regs.length s.rc, .slice s.sa s.slots.length s.sc, .slice s.ta s.states.length s.tc] 26 (0, 0)) :: (b_was, Obj.cells #[.string u.name, .slice u.ra u.regs.length u.rc, .slice u.sa u.slots.length u.sc, .slice u.ta u.states.length u.tc] 26 (0, 0)) :: F) := fun J => hOk.ok fun y hy => sub2 y (hF y (by simpa using hy))
  refine Tri.ret (sameStg_spec s u hsh I _ (hOkR I) hu.cons.cons) fun I1 l1 => ⟨_, rfl, F, .refl _, ?_⟩
  rw [hsame]
  obtain ⟨b1, ea1, ec1, rd1⟩ := hO1.tail (G := (b_x, Obj.cells #[.string s.name, .slice s.ra s.regs.length s.rc, .slice s.sa s.slots.length s.sc, .slice s.ta s.states.length s.tc] 26 (0, 0)) :: (b_was, Obj.cells #[.string u.name, .slice u.ra u.regs.length u.rc, .slice u.sa u.slots.length u.sc, .slice u.ta u.states.length u.tc] 26 (0, 0)) :: F) fun y hy => sub2 y (hF y (.inl hy))
  obtain ⟨b2, ea2, ec2, rd2⟩ := hO2.tail (G := (b_x, Obj.cells #[.string s.name, .slice s.ra s.regs.length s.rc, .slice s.sa s.slots.length s.sc, .slice s.ta s.states.length s.tc] 26 (0, 0)) :: (b_was, Obj.cells #[.string u.name, .slice u.ra u.regs.length u.rc, .slice u.sa u.slots.length u.sc, .slice u.ta u.states.length u.tc] 26 (0, 0)) :: F) fun y hy => sub2 y (hF y (.inr (.inl hy)))
  obtain ⟨b3, ea3, ec3, rd3⟩ := hO3.tail (G := (b_x, Obj.cells #[.string s.name, .slice s.ra s.regs.length s.rc, .slice s.sa s.slots.length s.sc, .slice s.ta s.states.length s.tc] 26 (0, 0)) :: (b_was, Obj.cells #[.string u.name, .slice u.ra u.regs.length u.rc, .slice u.sa u.slots.length u.sc, .slice u.ta u.states.length u.tc] 26 (0, 0)) :: F) fun y hy => sub2 y (hF y (.inr (.inr hy)))
  rw [slice0, slice0, slice0, w64 (n := (s.regs.length : Int) + 1) (by omega), w64 (n := (s.slots.length : Int) + 1) (by omega), w64 (n := (s.states.length : Int) + 1) (by omega)]
  refine ⟨fun h => by (cases h), fun _ => ⟨⟨by omega, by omega, by omega⟩, ⟨by omega, by omega, by omega⟩, ⟨by omega, by omega, by omega⟩, ⟨by omega, by omega⟩, _, ea1, -771, ?_, fun h => by simp at h, fun _ => ⟨⟨by omega, by omega⟩, _, ea2, -771, ?_, fun h => by simp at h, fun _ => ⟨⟨by omega, by omega⟩, _, ea3, -771, ?_, fun h => by simp at h, fun _ => ⟨⟨_, rfl, by omega, by omega, rfl⟩, fun q i m I2 F2 l2 ⟨gF, g0, g1, gm⟩ => ?_⟩⟩⟩⟩⟩
  · rw [add_add, Int.toNat_natCast]; exact rd1 _
  · rw [add_add, Int.toNat_natCast]; exact rd2 _
  · rw [add_add, Int.toNat_natCast]; exact rd3 _
  subst gF
  refine ⟨fun hlt => ?_, fun hlt => ⟨rfl, rfl⟩⟩
  have hlt := of_decide_eq_true hlt
  obtain ⟨ad, x, had, hx, hrd, hxm⟩ := SlG.atm (hOkR I2).states g0 hlt
  obtain ⟨Hx, ox, hxs⟩ := hO3.item hx
  have hxl := (hst x hxm).1
  simp only [StateN.p, List.length_map] at hxl
  obtain ⟨b4, ea4, ec4, rd4⟩ := OwnL.tail ox (G := (b_x, Obj.cells #[.string s.name, .slice s.ra s.regs.length s.rc, .slice s.sa s.slots.length s.sc, .slice s.ta s.states.length s.tc] 26 (0, 0)) :: (b_was, Obj.cells #[.string u.name, .slice u.ra u.regs.length u.rc, .slice u.sa u.slots.length u.sc, .slice u.ta u.states.length u.tc] 26 (0, 0)) :: F2) fun y hy => sub2 y (hF y (.inr (.inr (hxs y hy))))
  refine ⟨⟨g0, hlt⟩, ad, had, x.a, x.rules.length, x.c, hrd.field (o := 1) rfl, ?_⟩
  rw [slice0, w64 (n := (x.rules.length : Int) + 1) (by omega)]
  refine ⟨⟨by omega, by omega, by omega⟩, ⟨by omega, by omega⟩, _, ea4, -771, ?_, fun h => by simp at h, fun _ => ⟨⟨_, rfl, x, hx, by omega, by omega, rfl⟩, fun q1 k m7 I3 F3 l3 ⟨kF, x', hx', k0, k1, km⟩ => ?_⟩⟩
  · rw [add_add, Int.toNat_natCast]; exact rd4 _
  subst kF
  obtain rfl : x = x' := by rw [hx] at hx'; exact Option.some.inj hx'
  refine ⟨fun hlt2 => ?_, fun hlt2 => ⟨(s.states.length - (i + 1)).toNat, by omega, rfl, ?_⟩⟩
  · have hlt2 := of_decide_eq_true hlt2
    obtain ⟨ad5, r, had5, hr, hrd5, hrm⟩ := SlG.atm ((hOkR I3).state x hxm).1 k0 hlt2
    obtain ⟨Hr, ⟨Hw, Hd, rfl, ow, od⟩, hrs⟩ := OwnL.item ox hr
    have hrl := (hst x hxm).2 _ (List.mem_map_of_mem hrm)
    have hdl := hrl.2.1
    simp only [RuleN.p, List.length_map] at hdl
    have hsr : ∀ y, y ∈ Hw ++ Hd → y ∈ (b_x, Obj.cells #[.string s.name, .slice s.ra s.regs.length s.rc, .slice s.sa s.slots.length s.sc, .slice s.ta s.states.length s.tc] 26 (0, 0)) :: (b_was, Obj.cells #[.string u.name, .slice u.ra u.regs.length u.rc, .slice u.sa u.slots.length u.sc, .slice u.ta u.states.length u.tc] 26 (0, 0)) :: F3 := fun y hy => sub2 y (hF y (.inr (.inr (hxs y (hrs y hy)))))
    obtain ⟨b6, ea6, ec6, rd6⟩ := od.tail (G := (b_x, Obj.cells #[.string s.name, .slice s.ra s.regs.length s.rc, .slice s.sa s.slots.length s.sc, .slice s.ta s.states.length s.tc] 26 (0, 0)) :: (b_was, Obj.cells #[.string u.name, .slice u.ra u.regs.length u.rc, .slice u.sa u.slots.length u.sc, .slice u.ta u.states.length u.tc] 26 (0, 0)) :: F3) fun y hy => hsr y (List.mem_append_right _ hy)
    have rdd : ∀ J, Rd J ((b_x, Obj.cells #[.string s.name, .slice s.ra s.regs.length s.rc, .slice s.sa s.slots.length s.sc, .slice s.ta s.states.length s.tc] 26 (0, 0)) :: (b_was, Obj.cells #[.string u.name, .slice u.ra u.regs.length u.rc, .slice u.sa u.slots.length u.sc, .slice u.ta u.states.length u.tc] 26 (0, 0)) :: F3) ((ad5.add (Int.toNat k * 10)).add 8) [.slice r.a r.dos.length r.c] := fun J => by
      obtain ⟨ad5', r', had5', hr', hrd5', _⟩ := SlG.atm ((hOkR J).state x hxm).1 k0 hlt2
      rw [had5] at had5'
      cases had5'
      obtain rfl : r = r' := by rw [hr] at hr'; exact Option.some.inj hr'
      exact hrd5'.field (o := 8) rfl
    refine ⟨⟨k0, hlt2⟩, ad5, had5, r.a, r.dos.length, r.c, rdd I3, ⟨k0, hlt2⟩, ad5, had5, r.a, r.dos.length, r.c, rdd I3, ?_⟩
    rw [slice0, w64 (n := (r.dos.length : Int) + 1) (by omega)]
    refine ⟨⟨by omega, by omega, by omega⟩, ⟨k0, hlt2⟩, ad5, had5, r.when.kind, r.when.oper, r.when.typ, r.when.n, r.when.field, r.when.name, r.when.a, r.when.kids.length, r.when.c, r.when.pos, Rd.part (o := 0) hrd5 (xs := []) (ds := r.when.enc) (ys := [.slice r.a r.dos.length r.c, .int .i64 r.pos]) rfl rfl,
      Tri.ret (room_spec r.when hrl.1 Hw I3 _ ow fun y hy => hsr y (List.mem_append_left _ hy)) fun I4 l4 => ⟨_, rfl, F3, .refl _, fun h => by (cases h), fun _ => ⟨⟨k0, hlt2⟩, ad5, had5, r.a, r.dos.length, r.c, rdd I4, ⟨by omega, by omega⟩, _, ea6, -771, ?_, fun h => by simp at h, fun _ => ⟨(x.rules.length - (k + 1)).toNat, by omega, rfl, x, hx, ?_⟩⟩⟩⟩
    · rw [add_add, Int.toNat_natCast]; exact rd6 _
    · rw [w64 (n := k + 1) (by omega)]
      exact ⟨by omega, by omega, rfl⟩
  · have hlt2 := of_decide_eq_false hlt2
    rw [w64 (n := i + 1) (by omega)]
    exact ⟨by omega, by omega, rfl⟩
end Go.Lx
namespace Go.Lx
open Go.Vc
abbrev RK := Nat → List Row
def RK.z : RK := fun _ => []
def RK.add (A B : RK) : RK := fun k => A k ++ B k
def RK.one (j : Nat) (r : Row) : RK := fun k => if k = j then [r] else []
def RK.nd (l : List Row) : RK := fun k => if k = 1 then l else []
def RK.sum {α : Type} (f : α → RK) (l : List α) : RK := fun k => l.flatMap fun x => f x k
theorem RK.add_z (A : RK) : A.add RK.z = A := funext fun k => List.append_nil _
theorem RK.add_assoc (A B C : RK) : (A.add B).add C = A.add (B.add C) := funext fun k => List.append_assoc ..
theorem RK.sum_nil {α : Type} (f : α → RK) : RK.sum f [] = RK.z := rfl
theorem RK.sum_take {α : Type} (f : α → RK) {l : List α} {i : Nat} {x : α} (hx : l[i]? = some x) : RK.sum f (l.take (i + 1)) = (RK.sum f (l.take i)).add (f x) := by
  obtain ⟨hi, rfl⟩ := List.getElem?_eq_some_iff.1 hx
  funext k
  show (l.take (i + 1)).flatMap _ = (l.take i).flatMap _ ++ _
  rw [List.take_succ_eq_append_getElem hi, List.flatMap_append, List.flatMap_cons, List.flatMap_nil, List.append_nil]
theorem RK.sum_full {α : Type} (f : α → RK) {l : List α} {i : Nat} (hi : l.length ≤ i) : RK.sum f (l.take i) = RK.sum f l := by rw [List.take_of_length_le hi]
def DoN.K (d : DoN) : RK := (RK.nd d.side.rows).add ((RK.nd d.qty.rows).add ((RK.nd d.price.rows).add (RK.nd d.value.rows)))
def RuleN.K (r : RuleN) : RK := (RK.nd r.when.rows).add ((RK.one 6 ⟨r.a, r.dos.length, r.c⟩).add (RK.sum DoN.K r.dos))
def StateN.K (x : StateN) : RK := (RK.one 5 ⟨x.a, x.rules.length, x.c⟩).add (RK.sum RuleN.K x.rules)
def RegN.K (r : RegN) : RK := RK.nd r.init.rows
def StgN.K (s : StgN) : RK := (RK.one 2 ⟨s.ra, s.regs.length, s.rc⟩).add ((RK.sum RegN.K s.regs).add ((RK.one 3 ⟨s.sa, s.slots.length, s.sc⟩).add ((RK.one 4 ⟨s.ta, s.states.length, s.tc⟩).add (RK.sum StateN.K s.states))))
def Cap (A : RK) (n : Int) : Prop := ∀ k, ((A k).length : Int) ≤ n
theorem Cap.z : Cap RK.z 0 := fun k => Int.le_refl _
theorem Cap.add {A B : RK} {m n : Int} (h : Cap A m) (h' : Cap B n) : Cap (A.add B) (m + n) := fun k => by
  have h1 := h k
  have h2 := h' k
  show ((A k ++ B k).length : Int) ≤ _
  rw [List.length_append]; omega
theorem Cap.one (j : Nat) (r : Row) : Cap (RK.one j r) 1 := fun k => by
  show (((if k = j then [r] else []) : List Row).length : Int) ≤ 1
  split <;> simp
theorem Cap.nd (t : Nd) : Cap (RK.nd t.rows) t.px.size := fun k => by
  have h1 := rows_len t
  have h2 := Px.size_pos t.px
  show (((if k = 1 then t.rows else []) : List Row).length : Int) ≤ _
  split
  · omega
  · simp only [List.length_nil]; omega
theorem Cap.sum {α : Type} {f : α → RK} {m : α → Int} (h : ∀ x, Cap (f x) (m x)) : ∀ l, Cap (RK.sum f l) (sumI m l)
  | [] => Cap.z
  | x :: r => fun k => by
    have h1 := h x k
    have h2 := Cap.sum h r k
    show (((x :: r).flatMap fun y => f y k).length : Int) ≤ _
    rw [List.flatMap_cons, List.length_append, sumI]
    have : (RK.sum f r k) = r.flatMap fun y => f y k := rfl
    rw [this] at h2
    omega
theorem Cap.mono {A : RK} {m n : Int} (h : Cap A m) (hl : m ≤ n) : Cap A n := fun k => Int.le_trans (h k) hl
theorem DoN.cap (d : DoN) : Cap d.K d.mass := by
  refine ((Cap.nd d.side).add ((Cap.nd d.qty).add ((Cap.nd d.price).add (Cap.nd d.value)))).mono ?_
  show _ ≤ 1 + d.side.px.size + d.qty.px.size + d.price.px.size + d.value.px.size
  omega
theorem RuleN.cap (r : RuleN) : Cap r.K r.mass := by
  refine ((Cap.nd r.when).add ((Cap.one _ _).add (Cap.sum DoN.cap _))).mono ?_
  rw [RuleN.mass_eq]; omega
theorem StateN.cap (r : StateN) : Cap r.K r.mass := by
  refine ((Cap.one _ _).add (Cap.sum RuleN.cap _)).mono ?_
  rw [StateN.mass_eq]; omega
theorem RegN.cap (r : RegN) : Cap r.K r.mass := by
  refine (Cap.nd r.init).mono ?_
  show _ ≤ 1 + r.init.px.size
  omega
theorem StgN.cap (s : StgN) : Cap s.K (s.p.mass + 3) := by
  refine ((Cap.one _ _).add ((Cap.sum RegN.cap _).add ((Cap.one _ _).add ((Cap.one _ _).add (Cap.sum StateN.cap _))))).mono ?_
  rw [StgN.mass_eq]; omega
theorem sumI_le {α : Type} {f : α → Int} (h : ∀ x, 1 ≤ f x) {l : List α} {i : Nat} {x : α} (hx : l[i]? = some x) : sumI f (l.take i) + f x ≤ sumI f l := by
  have h1 := sumI_app f (l.take (i + 1)) (l.drop (i + 1))
  rw [List.take_append_drop, sumI_take f hx] at h1
  have h2 := sumI_nonneg (fun x => Int.le_trans (by decide) (h x)) (l.drop (i + 1))
  omega
theorem DoN.mass_pos (d : DoN) : 1 ≤ d.mass := DoP.mass_pos _
theorem RuleN.mass_pos (d : RuleN) : 1 ≤ d.mass := RuleP.mass_pos _
theorem StateN.mass_pos (d : StateN) : 1 ≤ d.mass := StateP.mass_pos _
theorem RegN.mass_pos (d : RegN) : 1 ≤ d.mass := RegP.mass_pos _
def slT : Nat → Nat
  | 1 => 53
  | 2 => 22
  | 3 => 23
  | 4 => 24
  | 5 => 68
  | _ => 65
def upd' (A : Nat → Heap) (j : Nat) (H : Heap) : Nat → Heap := fun k => if k = j then H else A k
theorem upd'_self (A : Nat → Heap) (j : Nat) : upd' A j (A j) = A := funext fun k => by unfold upd'; split <;> simp [*]
def arrs (A : Nat → Heap) (R : Heap) : Heap := A 1 ++ (A 2 ++ (A 3 ++ (A 4 ++ (A 5 ++ (A 6 ++ R)))))
def Bk (b : Nat) (rw : Nat → Row) (rs : RK) (R F' : Heap) : Prop :=
  (∀ k, k = 0 ∨ 6 < k → rw k = noRow) ∧ ∃ A : Nat → Heap, (∀ k, 1 ≤ k → k ≤ 6 → Acc 1 Row.enc (slT k) (rw k).a (rw k).n (rw k).c (rs k) (A k)) ∧ F'.Perm ((b, Obj.cells (treeCells rw) 47 (0, 0)) :: arrs A R)
theorem arrs_focus (A : Nat → Heap) (R : Heap) {k : Nat} (h1 : 1 ≤ k) (h6 : k ≤ 6) (H : Heap) : (arrs (upd' A k H) R).Perm (H ++ arrs (upd' A k []) R) := by
  have : k = 1 ∨ k = 2 ∨ k = 3 ∨ k = 4 ∨ k = 5 ∨ k = 6 := by omega
  rcases this with rfl | rfl | rfl | rfl | rfl | rfl <;> exact perm_of fun z => by
    simp [arrs, upd', cn_app]
    try omega
end Go.Lx
namespace Go.Lx
open Go.Vc
theorem Bk.rd {b : Nat} {rw : Nat → Row} {rs : RK} {R F' : Heap} (h : Bk b rw rs R F') {I : Imm} {G : Heap} (hs : ∀ x, x ∈ F' → x ∈ G) {k : Nat} (hk : (treeCells rw)[k]? = some (rw k).v) : Rd I G ((⟨b, 0, none⟩ : Addr).add k) [(rw k).v] := by
  obtain ⟨_, A, hA, hp⟩ := h
  exact tree_rd (hs _ (hp.mem_iff.2 (List.mem_cons_self ..))) hk
theorem Bk.mem {b : Nat} {rw : Nat → Row} {rs : RK} {R F' : Heap} (h : Bk b rw rs R F') : ∀ x, x ∈ R → x ∈ F' := by
  obtain ⟨_, A, hA, hp⟩ := h
  refine fun x hx => hp.mem_iff.2 (List.mem_cons_of_mem _ ?_)
  unfold arrs
  simp only [List.mem_append]
  exact .inr (.inr (.inr (.inr (.inr (.inr hx)))))
theorem Bk.nil {b : Nat} {R F' : Heap} (hp : F'.Perm ((b, Obj.cells (treeCells fun _ => noRow) 47 (0, 0)) :: R)) : Bk b (fun _ => noRow) RK.z R F' :=
  ⟨fun _ _ => rfl, fun _ => [], fun _ _ _ => Acc.nil, hp⟩
theorem Bk.perm {b : Nat} {rw : Nat → Row} {rs : RK} {R F F' : Heap} (h : Bk b rw rs R F) (hp : F'.Perm F) : Bk b rw rs R F' := by
  obtain ⟨h0, A, hA, hq⟩ := h
  exact ⟨h0, A, hA, hp.trans hq⟩
theorem upd_ne (rw : Nat → Row) {j k : Nat} (r : Row) (h : k ≠ j) : upd rw j r k = rw k := if_neg h
theorem Bk.push {b : Nat} {rw : Nat → Row} {rs : RK} {R R0 F1 F2 : Heap} (h : Bk b rw rs R F1) {k : Nat} (h1 : 1 ≤ k) (h6 : k ≤ 6) {t ty : TypeId} (ht : P.underlying t = some (.slice (slT k))) (hi : (P.info? (slT k)).map (fun i => (i.zero, i.size, i.bytes)) = some (some (.slice none 0 0), 1, 24))
    {r : Row} {b1 : Nat} {I : Imm} {o : Obj} (hb : I b1 = some o) (ho : o = .cells #[r.v] (slT k) (0, 0)) (hF : F2.Perm (R0 ++ F1)) (hl : (rs k).length ≤ 1000000000) :
    TriE P (Builtin.append_ #[t, t] ty #[(rw k).v, .slice (some ⟨b1, 0, none⟩) 1 1]) I F2 fun v I' G => ∃ a' n' c', v = .slice a' n' c' ∧ ∃ F3, G.Perm ((b, Obj.cells (treeCells rw) 47 (0, 0)) :: (R0 ++ F3)) ∧
      ∀ F4 : Heap, F4.Perm ((b, Obj.cells (treeCells (upd rw k ⟨a', n', c'⟩)) 47 (0, 0)) :: F3) → Bk b (upd rw k ⟨a', n', c'⟩) (rs.add (RK.one k r)) R F4 := by
  obtain ⟨h0, A, hA, hp⟩ := h
  subst ho
  have hf : (arrs A R).Perm (A k ++ arrs (upd' A k []) R) := by have := arrs_focus A R h1 h6 (A k); rwa [upd'_self] at this
  refine TriE.perm (TriE.mono (append_spec' (f := Row.enc) (z := 1) (zv := .slice none 0 0) (fun _ => rfl) (by' := 24) ht hi rfl (by decide) (hA k h1 h6) (xs := [r]) (fun x _ => rows_one x) (by simp) rfl ?_ ?_
    (F := (b, Obj.cells (treeCells rw) 47 (0, 0)) :: (R0 ++ arrs (upd' A k []) R))) fun v I2 G hI2 ⟨a', n', c', A', hv, hA', hG', _⟩ => ?_) ?_
  · exact ⟨rfl, _, _, _, .inl hb, fun j hj => by simp [Row.enc, Row.v]⟩
  · simp only [List.length_cons, List.length_nil]; omega
  · subst hG'
    refine ⟨a', n', c', hv, A' ++ arrs (upd' A k []) R, (perm_of fun z => by simp only [cn_app, cn_cons, cn_nil]; omega), fun F4 h4 => ⟨fun j hj => ?_, upd' A k A', fun j j1 j6 => ?_, h4.trans (List.Perm.cons _ (arrs_focus A R h1 h6 A').symm)⟩⟩
    · rw [upd_ne rw _ (by omega)]; exact h0 j hj
    · by_cases hj : j = k
      · subst hj
        rw [upd_same]
        show Acc 1 Row.enc _ _ _ _ (rs j ++ RK.one j r j) (upd' A j A' j)
        rw [show RK.one j r j = [r] from if_pos rfl, show upd' A j A' j = A' from if_pos rfl]
        exact hA'
      · rw [upd_ne rw _ hj]
        show Acc 1 Row.enc _ _ _ _ (rs j ++ RK.one k r j) (upd' A k A' j)
        rw [show RK.one k r j = [] from if_neg hj, show upd' A k A' j = A j from if_neg hj, List.append_nil]
        exact hA j j1 j6
  · exact hF.trans (perm_of fun z => by have q0 := cn_perm hp z; have q1 := cn_perm hf z; simp only [cn_app, cn_cons, cn_nil] at q0 q1 ⊢; omega)
theorem Bk.node {b : Nat} {rw : Nat → Row} {rs : RK} {R R0 F1 F2 : Heap} (h : Bk b rw rs R F1) (t : Nd) (hs : t.px.size ≤ 1048576) (hF : F2.Perm (R0 ++ F1)) (hl : ((rs 1).length : Int) + t.px.size ≤ 1000000000) (I : Imm) (ht : NdOk I R t) :
    Tri P 60 #[.pointer (some ⟨b, 0, none⟩), t.v] I F2 fun e I' G => e = .returned (.tuple #[]) ∧ ∃ rw' F3, G.Perm (R0 ++ F3) ∧ Bk b rw' (rs.add (RK.nd t.rows)) R F3 := by
  obtain ⟨h0, A, hA, hp⟩ := h
  have hf : (arrs A R).Perm (A 1 ++ arrs (upd' A 1 []) R) := by have := arrs_focus A R (k := 1) (by decide) (by decide) (A 1); rwa [upd'_self] at this
  refine Tri.perm ((TreesNode_spec t hs (rw := rw) (b := b) (rs := rs 1) (Al := A 1) (R := R0 ++ arrs (upd' A 1 []) R) (hA 1 (by decide) (by decide)) hl I ?_).mono fun e I' G hI ⟨he, r', Al', hA', hG⟩ => ?_) ?_
  · refine ht.mono (Imm.le_refl I) fun x hx => ?_
    unfold arrs
    simp only [List.mem_append]
    exact .inr (.inr (.inr (.inr (.inr (.inr (.inr hx))))))
  · refine ⟨he, upd rw 1 r', (b, Obj.cells (treeCells (upd rw 1 r')) 47 (0, 0)) :: (Al' ++ arrs (upd' A 1 []) R), hG.trans (perm_of fun z => by simp only [cn_app, cn_cons, cn_nil]; omega), fun j hj => ?_, upd' A 1 Al', fun j j1 j6 => ?_, List.Perm.cons _ (arrs_focus A R (k := 1) (by decide) (by decide) Al').symm⟩
    · rw [upd_ne rw _ (by omega)]; exact h0 j hj
    · by_cases hj : j = 1
      · subst hj
        rw [upd_same]
        exact hA'
      · rw [upd_ne rw _ hj]
        show Acc 1 Row.enc _ _ _ _ (rs j ++ RK.nd t.rows j) (upd' A 1 Al' j)
        rw [show RK.nd t.rows j = [] from if_neg hj, show upd' A 1 Al' j = A j from if_neg hj, List.append_nil]
        exact hA j j1 j6
  · exact hF.trans (perm_of fun z => by have q0 := cn_perm hp z; have q1 := cn_perm hf z; simp only [cn_app, cn_cons, cn_nil] at q0 q1 ⊢; omega)
end Go.Lx
namespace Go.Lx
open Go.Vc
def Has (z e : Nat) (rs : List Row) (H : Heap) : Prop := ∃ ls : List (List (Ck z)), RowsH z e rs ls H ∧ Bd ls
theorem Has.nil {z e : Nat} : Has z e [] [] := ⟨[], rfl, fun j l h => by simp at h⟩
theorem Has.app {z e : Nat} {rs rs' : List Row} {H H' : Heap} (h : Has z e rs H) (h' : Has z e rs' H') : Has z e (rs ++ rs') (H ++ H') := by
  obtain ⟨ls, h1, h2⟩ := h
  obtain ⟨ls', h1', h2'⟩ := h'
  exact ⟨ls ++ ls', h1.app h1', h2.app h2'⟩
def zK : Nat → Nat
  | 1 => 8
  | 2 => 11
  | 3 => 2
  | 4 => 3
  | 5 => 10
  | _ => 36
def eK : Nat → Nat
  | 1 => 55
  | 2 => 75
  | 3 => 77
  | 4 => 70
  | 5 => 67
  | _ => 89
def HasK (K : RK) (H : Heap) : Prop := ∃ A : Nat → Heap, (∀ k, 1 ≤ k → k ≤ 6 → Has (zK k) (eK k) (K k) (A k)) ∧ H.Perm (arrs A [])
theorem HasK.z : HasK RK.z [] := ⟨fun _ => [], fun _ _ _ => Has.nil, .refl _⟩
theorem HasK.perm {K : RK} {H H' : Heap} (h : HasK K H) (hp : H'.Perm H) : HasK K H' := by
  obtain ⟨A, h1, h2⟩ := h
  exact ⟨A, h1, hp.trans h2⟩
theorem HasK.add {K K' : RK} {H H' : Heap} (h : HasK K H) (h' : HasK K' H') : HasK (K.add K') (H ++ H') := by
  obtain ⟨A, h1, h2⟩ := h
  obtain ⟨A', h1', h2'⟩ := h'
  refine ⟨fun k => A k ++ A' k, fun k k1 k6 => (h1 k k1 k6).app (h1' k k1 k6), perm_of fun z => ?_⟩
  have q0 := cn_perm h2 z
  have q1 := cn_perm h2' z
  unfold arrs at q0 q1 ⊢
  simp only [cn_app, cn_nil] at q0 q1 ⊢
  omega
theorem HasK.one {j : Nat} {r : Row} {H : Heap} (j1 : 1 ≤ j) (j6 : j ≤ 6) (h : Has (zK j) (eK j) [r] H) : HasK (RK.one j r) H := by
  refine ⟨upd' (fun _ => []) j H, fun k k1 k6 => ?_, ?_⟩
  · by_cases hk : k = j
    · subst hk
      rw [show RK.one k r k = [r] from if_pos rfl, show upd' (fun _ => []) k H k = H from if_pos rfl]
      exact h
    · rw [show RK.one j r k = [] from if_neg hk, show upd' (fun _ => []) j H k = [] from if_neg hk]
      exact Has.nil
  · have h0 := arrs_focus (fun _ => []) [] j1 j6 H
    have h1 : upd' (fun _ => ([] : Heap)) j [] = fun _ => [] := funext fun k => by unfold upd'; split <;> rfl
    rw [h1] at h0
    exact (h0.trans (by simp [arrs])).symm
theorem HasK.nd {l : List Row} {H : Heap} (h : Has 8 55 l H) : HasK (RK.nd l) H := by
  refine ⟨upd' (fun _ => []) 1 H, fun k k1 k6 => ?_, ?_⟩
  · by_cases hk : k = 1
    · subst hk; exact h
    · rw [show RK.nd l k = [] from if_neg hk, show upd' (fun _ => []) 1 H k = [] from if_neg hk]
      exact Has.nil
  · have h0 := arrs_focus (fun _ => []) [] (k := 1) (by decide) (by decide) H
    have h1 : upd' (fun _ => ([] : Heap)) 1 [] = fun _ => [] := funext fun k => by unfold upd'; split <;> rfl
    rw [h1] at h0
    exact (h0.trans (by simp [arrs])).symm
theorem HasK.sum {α : Type} {f : α → RK} : ∀ (l : List α) (hs : Nat → Heap), (∀ (i : Nat) (x : α), l[i]? = some x → HasK (f x) (hs i)) → HasK (RK.sum f l) (flatH l.length hs)
  | [], hs, _ => HasK.z
  | x :: r, hs, h => by
    have h1 := HasK.sum r (fun i => hs (i + 1)) fun i y hy => h (i + 1) y (by simpa using hy)
    have h2 := (h 0 x rfl).add h1
    rw [List.length_cons, flatH_succ]
    exact h2
def ckOf {α : Type} {z : Nat} (f : α → List Value) (hz : ∀ x, (f x).length = z) (x : α) : Ck z := ⟨f x, hz x⟩
theorem ckOf_flat {α : Type} {z : Nat} (f : α → List Value) (hz : ∀ x, (f x).length = z) : ∀ l : List α, (l.map (ckOf f hz)).flatMap cv = l.flatMap f
  | [] => rfl
  | y :: l => by rw [List.map_cons, List.flatMap_cons, List.flatMap_cons, ckOf_flat f hz l]; rfl
theorem _root_.Go.Vc.Acc.ck {α : Type} {z : Nat} {f : α → List Value} (hz : ∀ x, (f x).length = z) {a : Option Addr} {n c e : Nat} {l : List α} {A : Heap} (h : Acc z f e a n c l A) : Acc z cv e a n c (l.map (ckOf f hz)) A := by
  obtain ⟨hn, ⟨h1, h2, h3, h4⟩ | ⟨b, cells, h1, h2, h3, h4, h5⟩⟩ := h
  · exact ⟨by rw [List.length_map]; exact hn, .inl ⟨h1, h2, by rw [h3]; rfl, h4⟩⟩
  · exact ⟨by rw [List.length_map]; exact hn, .inr ⟨b, cells, h1, h2, h3, h4, by rw [h5, ckOf_flat]⟩⟩
theorem OwnL.has {α : Type} {R : Bool} {j : Nat} (j1 : 1 ≤ j) (j6 : j ≤ 6) {f : α → List Value} {O : α → Heap → Prop} {a : Option Addr} {n c : Nat} {l : List α} {H : Heap} (h : OwnL R (zK j) f (eK j) O a n c l H) (hz : ∀ x, (f x).length = zK j) (hl : l.length ≤ 1048576)
    {g : α → RK} (hg : ∀ x H, x ∈ l → O x H → HasK (g x) H) : HasK ((RK.one j ⟨a, n, c⟩).add (RK.sum g l)) H := by
  obtain ⟨A, hs, rfl, hA, -, hO⟩ := h
  have hn := hA.1
  subst hn
  refine HasK.add (HasK.one j1 j6 ⟨[l.map (ckOf f hz)], ⟨A, [], by simp, hA.ck hz, rfl⟩, fun i y hy => ?_⟩) (HasK.sum l hs fun i x hx => hg x _ (List.mem_of_getElem? hx) (hO i x hx))
  have := List.mem_of_getElem? hy
  rw [List.mem_singleton] at this
  rw [this, List.length_map]; omega
theorem OwnT.has {R : Bool} {t : Nd} {H : Heap} (h : OwnT 55 R t H) (hs : t.px.size ≤ 1048576) : HasK (RK.nd t.rows) H := by
  obtain ⟨H', h1, h2⟩ := h.rows
  exact (HasK.nd ⟨_, h1, lists_bd t hs⟩).perm h2.symm
theorem DoOwn.has {R : Bool} {d : DoN} {H : Heap} (h : DoOwn R d H) (hs : d.p.Light) : HasK d.K H := by
  obtain ⟨H1, H2, H3, H4, rfl, h1, h2, h3, h4⟩ := h
  simp only [DoP.Light, Small, DoP.nds, DoN.p, List.mem_cons, List.not_mem_nil, or_false] at hs
  exact (h1.has (hs _ (.inl rfl))).add ((h2.has (hs _ (.inr (.inl rfl)))).add ((h3.has (hs _ (.inr (.inr (.inl rfl))))).add (h4.has (hs _ (.inr (.inr (.inr rfl)))))))
theorem RuleOwn.has {R : Bool} {r : RuleN} {H : Heap} (h : RuleOwn R r H) (hs : r.p.Light) : HasK r.K H := by
  obtain ⟨H1, H2, rfl, h1, h2⟩ := h
  have hl := hs.2.1
  simp only [RuleN.p, List.length_map] at hl
  exact (h1.has hs.1).add (OwnL.has (j := 6) (by decide) (by decide) (g := DoN.K) h2 (fun _ => rfl) hl fun d H hd ho => ho.has (hs.2.2 _ (List.mem_map_of_mem hd)))
theorem StateOwn.has {R : Bool} {x : StateN} {H : Heap} (h : StateOwn R x H) (hs : x.p.Light) : HasK x.K H := by
  have hl := hs.1
  simp only [StateN.p, List.length_map] at hl
  exact OwnL.has (j := 5) (by decide) (by decide) (g := RuleN.K) h (fun _ => rfl) hl fun d H hd ho => ho.has (hs.2 _ (List.mem_map_of_mem hd))
theorem StgOwn.has {R : Bool} {s : StgN} {H : Heap} (h : StgOwn R s H) (hs : s.p.Light) : HasK s.K H := by
  obtain ⟨H1, H2, H3, rfl, h1, h2, h3⟩ := h
  have l1 := hs.regs
  have l2 := hs.slots
  have l3 := hs.states
  simp only [StgN.p, List.length_map] at l1 l2 l3
  have g1 := OwnL.has (j := 2) (by decide) (by decide) (g := RegN.K) h1 (fun _ => rfl) l1 fun d H hd ho => OwnT.has ho (hs.reg _ (List.mem_map_of_mem hd))
  have g2 := OwnL.has (j := 3) (by decide) (by decide) (g := fun _ => RK.z) h2 (fun _ => rfl) l2 fun d H hd ho => by rw [show H = [] from ho]; exact HasK.z
  have g3 := OwnL.has (j := 4) (by decide) (by decide) (g := StateN.K) h3 (fun _ => rfl) l3 fun d H hd ho => StateOwn.has ho (hs.state _ (List.mem_map_of_mem hd))
  have e2 : RK.sum (fun _ : SlotP => RK.z) s.slots = RK.z := funext fun k => by
    show s.slots.flatMap (fun _ => []) = []
    simp
  rw [e2, RK.add_z] at g2
  have := g1.add (g2.add g3)
  rwa [RK.add_assoc] at this
theorem Bk.own {b : Nat} {rw : Nat → Row} {rs : RK} {R F F' H : Heap} (h : Bk b rw rs R F) (hR : R.Perm (H ++ F')) (hH : HasK rs H) (hl : ∀ k, (rs k).length ≤ 1000000000) (I : Imm) :
    Tri P 15 #[.pointer (some ⟨b, 0, none⟩)] I F fun e I' G => e = .returned (.bool true) ∧ G = F' := by
  obtain ⟨h0, A, hA, hp⟩ := h
  obtain ⟨B, hB, hq⟩ := hH
  obtain ⟨l1, r1, b1⟩ : Has 8 55 (rs 1) (B 1) := hB 1 (by decide) (by decide)
  obtain ⟨l2, r2, b2⟩ : Has 11 75 (rs 2) (B 2) := hB 2 (by decide) (by decide)
  obtain ⟨l3, r3, b3⟩ : Has 2 77 (rs 3) (B 3) := hB 3 (by decide) (by decide)
  obtain ⟨l4, r4, b4⟩ : Has 3 70 (rs 4) (B 4) := hB 4 (by decide) (by decide)
  obtain ⟨l5, r5, b5⟩ : Has 10 67 (rs 5) (B 5) := hB 5 (by decide) (by decide)
  obtain ⟨l6, r6, b6⟩ : Has 36 89 (rs 6) (B 6) := hB 6 (by decide) (by decide)
  have hz : ∀ k, k = 0 ∨ 6 < k → rw k = ⟨none, 0, 0⟩ := h0
  refine Tri.perm (TreesOwn_spec (rw := rw) (Hs := fun k => if 1 ≤ k ∧ k ≤ 6 then A k ++ B k else []) (by rw [hz 0 (by decide)]; exact own_nil ownTokens_spec) (own_call ownNodes_spec (hA 1 (by decide) (by decide)) r1 b1 (hl 1)) (own_call ownRegs_spec (hA 2 (by decide) (by decide)) r2 b2 (hl 2)) (own_call ownSlots_spec (hA 3 (by decide) (by decide)) r3 b3 (hl 3))
    (own_call ownDos_spec (hA 6 (by decide) (by decide)) r6 b6 (hl 6)) (own_call ownRules_spec (hA 5 (by decide) (by decide)) r5 b5 (hl 5)) (own_call ownStates_spec (hA 4 (by decide) (by decide)) r4 b4 (hl 4)) (by rw [hz 7 (by decide)]; exact own_nil ownInstrs_spec) (by rw [hz 9 (by decide)]; exact own_nil ownRows_spec) (by rw [hz 8 (by decide)]; exact own_nil ownGuards_spec)
    (by rw [hz 10 (by decide)]; exact ownWhole_nil) (by rw [hz 11 (by decide)]; exact ownLongs_nil) (F := F')) ?_
  refine hp.trans (List.Perm.cons _ (perm_of fun z => ?_))
  have q0 := cn_perm hR z
  have q1 := cn_perm hq z
  unfold arrs at q1 ⊢
  simp [cn_app, cn_nil] at q0 q1 ⊢
  omega
end Go.Lx
namespace Go.Lx
open Go.Vc
theorem DoP.mass_bare (d : DoP) : d.bare.mass = d.mass := by simp only [DoP.bare, DoP.mass, Px.bare_size]
theorem RuleP.mass_bare (r : RuleP) : r.bare.mass = r.mass := by
  simp only [RuleP.bare, RuleP.mass, Px.bare_size]
  rw [sumI_map, show (fun x => DoP.mass (DoP.bare x)) = DoP.mass from funext DoP.mass_bare]
theorem StateP.mass_bare (r : StateP) : r.bare.mass = r.mass := by
  simp only [StateP.bare, StateP.mass]
  rw [sumI_map, show (fun x => RuleP.mass (RuleP.bare x)) = RuleP.mass from funext RuleP.mass_bare]
theorem RegP.mass_bare (r : RegP) : r.bare.mass = r.mass := by simp only [RegP.bare, RegP.mass, Px.bare_size]
theorem StgP.mass_bare (s : StgP) : s.bare.mass = s.mass := by
  simp only [StgP.bare, StgP.mass, List.length_map]
  rw [sumI_map, sumI_map, show (fun x => RegP.mass (RegP.bare x)) = RegP.mass from funext RegP.mass_bare, show (fun x => StateP.mass (StateP.bare x)) = StateP.mass from funext StateP.mass_bare]
theorem StgP.Light.bare {s : StgP} (h : s.Light) : s.bare.Light := StgP.light (by rw [StgP.mass_bare]; exact h.all)
theorem StgP.like_self (s : StgP) : s.like s = true := by rw [← StgP.same_bare]; exact StgP.same_self _
end Go.Lx
namespace Go.Lx
open Go.Vc
def bkT1 (rs : RK) (s : StgN) : RK := (((rs.add (RK.one 2 ⟨s.ra, s.regs.length, s.rc⟩)).add (RK.sum RegN.K s.regs)).add (RK.one 3 ⟨s.sa, s.slots.length, s.sc⟩)).add (RK.one 4 ⟨s.ta, s.states.length, s.tc⟩)
def bkT2 (rs : RK) (s : StgN) (i : Nat) : RK := (bkT1 rs s).add (RK.sum StateN.K (s.states.take i))
def bkT3 (rs : RK) (s : StgN) (i : Nat) (x : StateN) (k : Nat) : RK := ((bkT2 rs s i).add (RK.one 5 ⟨x.a, x.rules.length, x.c⟩)).add (RK.sum RuleN.K (x.rules.take k))
def bkT4 (rs : RK) (s : StgN) (i : Nat) (x : StateN) (k : Nat) (r : RuleN) (j : Nat) : RK := (((bkT3 rs s i x k).add (RK.nd r.when.rows)).add (RK.one 6 ⟨r.a, r.dos.length, r.c⟩)).add (RK.sum DoN.K (r.dos.take j))
section
variable {rs : RK} {s : StgN} {N : Int} (h : Cap rs N)
include h
theorem bkT1_cap : Cap (bkT1 rs s) (N + 1 + sumI RegN.mass s.regs + 1 + 1) := (((h.add (Cap.one _ _)).add (Cap.sum RegN.cap _)).add (Cap.one _ _)).add (Cap.one _ _)
theorem bkT2_cap (i : Nat) : Cap (bkT2 rs s i) (N + 1 + sumI RegN.mass s.regs + 1 + 1 + sumI StateN.mass (s.states.take i)) := (bkT1_cap h).add (Cap.sum StateN.cap _)
theorem bkT3_cap (i : Nat) (x : StateN) (k : Nat) : Cap (bkT3 rs s i x k) (N + 1 + sumI RegN.mass s.regs + 1 + 1 + sumI StateN.mass (s.states.take i) + 1 + sumI RuleN.mass (x.rules.take k)) := ((bkT2_cap h i).add (Cap.one _ _)).add (Cap.sum RuleN.cap _)
theorem bkT4_cap (i : Nat) (x : StateN) (k : Nat) (r : RuleN) (j : Nat) : Cap (bkT4 rs s i x k r j) (N + 1 + sumI RegN.mass s.regs + 1 + 1 + sumI StateN.mass (s.states.take i) + 1 + sumI RuleN.mass (x.rules.take k) + r.when.px.size + 1 + sumI DoN.mass (r.dos.take j)) :=
  (((bkT3_cap h i x k).add (Cap.nd _)).add (Cap.one _ _)).add (Cap.sum DoN.cap _)
end
theorem DoN.mass_eq (d : DoN) : d.mass = 1 + d.side.px.size + d.qty.px.size + d.price.px.size + d.value.px.size := rfl
set_option maxHeartbeats 1000000 in
theorem TreesStg_spec (s : StgN) (hL : s.p.Light) {b : Nat} {rw : Nat → Row} {rs : RK} {R F : Heap} {N : Int} (hb : Bk b rw rs R F) (hc : Cap rs N) (h0 : 0 ≤ N) (hN : N ≤ 900000000) (I : Imm) (hs : s.Ok I R) :
    Tri P 14 #[.pointer (some ⟨b, 0, none⟩), s.v] I F fun e I' G => e = .returned (.tuple #[]) ∧ ∃ rw', Bk b rw' (rs.add s.K) R G := by
  have lr := hL.regs
  have ls := hL.slots
  have lt := hL.states
  have hM := hL.all
  simp only [StgN.p, List.length_map] at lr ls lt
  rw [StgN.mass_eq] at hM
  have hrn := sumI_nonneg (fun x => Int.le_trans (by decide) (RegN.mass_pos x)) s.regs
  have htn := sumI_nonneg (fun x => Int.le_trans (by decide) (StateN.mass_pos x)) s.states
  refine ref00_Trees_Strategy.vc
    (fun i m I0 F0 I' F' => 0 ≤ i ∧ i ≤ s.regs.length ∧ m = (s.regs.length - i).toNat ∧ ∃ rw', Bk b rw' ((rs.add (RK.one 2 ⟨s.ra, s.regs.length, s.rc⟩)).add (RK.sum RegN.K (s.regs.take i.toNat))) R F')
    (fun i m I0 F0 I' F' => 0 ≤ i ∧ i ≤ s.states.length ∧ m = (s.states.length - i).toNat ∧ ∃ rw', Bk b rw' (bkT2 rs s i.toNat) R F')
    (fun i k m I0 F0 I' F' => ∃ x, s.states[i.toNat]? = some x ∧ 0 ≤ k ∧ k ≤ x.rules.length ∧ m = (x.rules.length - k).toNat ∧ ∃ rw', Bk b rw' (bkT3 rs s i.toNat x k.toNat) R F')
    (fun i k j m I0 F0 I' F' => ∃ x r, s.states[i.toNat]? = some x ∧ x.rules[k.toNat]? = some r ∧ 0 ≤ j ∧ j ≤ r.dos.length ∧ m = (r.dos.length - j).toNat ∧ ∃ rw', Bk b rw' (bkT4 rs s i.toNat x k.toNat r j.toNat) R F') ?_
  unfold ref00_Trees_Strategy.V
  intro b_s
  refine ⟨_, rfl, _, _, _, hb.rd (fun y hy => .tail _ hy) rfl, fun b1 I1 l1 e1 => ?_⟩
  refine TriE.mono (hb.push (k := 2) (by decide) (by decide) (r := ⟨s.ra, s.regs.length, s.rc⟩) (by kernel_rfl) (by kernel_rfl) e1 rfl (R0 := [(b_s, Obj.cells #[.string s.name, .slice s.ra s.regs.length s.rc, .slice s.sa s.slots.length s.sc, .slice s.ta s.states.length s.tc] 26 (0, 0))]) (.refl _) (by have := hc 2; omega)) fun v I2 G l2 ⟨a2, n2, c2, hv, F3, hG, hB⟩ => ?_
  refine ⟨_, _, _, hv, (b, Obj.cells (treeCells rw) 47 (0, 0)) :: F3, hG.trans (perm_of fun z => by simp only [cn_app, cn_cons, cn_nil]; omega), _, rfl, (treeCells rw).toList, 47, F3, .refl _, ?_, ?_, ⟨_, by omega, by omega, rfl, upd rw 2 ⟨a2, n2, c2⟩, ?_⟩, fun i m1 I3 F4 l3 ⟨i0, i1, im, rw3, hB3⟩ => ⟨fun hlt => ?_, fun hlt => ?_⟩⟩
  · rw [add_lit0]
  · rw [add_lit0]; exact (by decide : 2 + 1 ≤ 12)
  · rw [show (0 : Int).toNat = 0 from rfl, List.take_zero, RK.sum_nil, RK.add_z]
    exact hB _ (by rw [add_lit0]; exact .refl _)
  · have hlt := of_decide_eq_true hlt
    have l13 := Imm.le_trans l1 (Imm.le_trans l2 l3)
    obtain ⟨ad, r, had, hr, hrd, hrm⟩ := SlG.atm hs.regs i0 hlt
    have hm := sumI_le RegN.mass_pos hr
    have hma : r.mass = 1 + r.init.px.size := rfl
    have hcp := ((hc.add (Cap.one 2 ⟨s.ra, s.regs.length, s.rc⟩)).add (Cap.sum RegN.cap (s.regs.take i.toNat))) 1
    refine ⟨⟨i0, hlt⟩, ad, had, _, _, _, _, _, _, _, _, _, _, Rd.part (hrd.sub l13 fun y hy => .tail _ (hB3.mem y hy)) (xs := [.string r.name, .int .u8 r.typ]) (ds := r.init.enc) (ys := [.int .i64 r.pos]) rfl rfl,
      (hB3.node r.init (hL.reg _ (List.mem_map_of_mem hrm)) (R0 := [(b_s, Obj.cells #[.string s.name, .slice s.ra s.regs.length s.rc, .slice s.sa s.slots.length s.sc, .slice s.ta s.states.length s.tc] 26 (0, 0))]) (.refl _) (by omega) I3 (NdOk.mono (hs.reg r hrm) l13 fun _ h => h)).mono fun e I4 G l4 ⟨he, rw4, F5, hG, hB4⟩ => ⟨he, F5, hG, (s.regs.length - (i + 1)).toNat, by omega, ?_⟩⟩
    rw [w64 (n := i + 1) (by omega)]
    refine ⟨by omega, by omega, rfl, rw4, ?_⟩
    rw [RK.add_assoc] at hB4
    rw [show (i + 1).toNat = i.toNat + 1 by omega, RK.sum_take _ hr]
    exact hB4
  have hlt := of_decide_eq_false hlt
  rw [RK.sum_full _ (by omega)] at hB3
  have hc3 := (hc.add (Cap.one 2 ⟨s.ra, s.regs.length, s.rc⟩)).add (Cap.sum RegN.cap s.regs)
  refine ⟨_, rfl, _, _, _, hB3.rd (fun y hy => .tail _ hy) rfl, fun b2 I5 l5 e5 => ?_⟩
  refine TriE.mono (hB3.push (k := 3) (by decide) (by decide) (r := ⟨s.sa, s.slots.length, s.sc⟩) (by kernel_rfl) (by kernel_rfl) e5 rfl (R0 := [(b_s, Obj.cells #[.string s.name, .slice s.ra s.regs.length s.rc, .slice s.sa s.slots.length s.sc, .slice s.ta s.states.length s.tc] 26 (0, 0))]) (.refl _) (by have := hc3 3; omega)) fun v I6 G l6 ⟨a3, n3, c3, hv3, F6, hG3, hB5⟩ => ?_
  refine ⟨_, _, _, hv3, (b, Obj.cells (treeCells rw3) 47 (0, 0)) :: F6, hG3.trans (perm_of fun z => by simp only [cn_app, cn_cons, cn_nil]; omega), _, rfl, (treeCells rw3).toList, 47, F6, .refl _, ?_, ?_, ?_⟩
  · rw [add_lit0]
  · rw [add_lit0]; exact (by decide : 3 + 1 ≤ 12)
  have hB6 := hB5 ((((⟨b, 0, none⟩ : Addr).add 3).block, Obj.cells (splice ((⟨b, 0, none⟩ : Addr).add 3).off [.slice a3 n3 c3] (treeCells rw3).toList).toArray 47 (0, 0)) :: F6) (by rw [add_lit0]; exact .refl _)
  have hc4 := hc3.add (Cap.one 3 ⟨s.sa, s.slots.length, s.sc⟩)
  refine ⟨_, rfl, _, _, _, hB6.rd (fun y hy => .tail _ hy) rfl, fun b3 I7 l7 e7 => ?_⟩
  refine TriE.mono (hB6.push (k := 4) (by decide) (by decide) (r := ⟨s.ta, s.states.length, s.tc⟩) (by kernel_rfl) (by kernel_rfl) e7 rfl (R0 := [(b_s, Obj.cells #[.string s.name, .slice s.ra s.regs.length s.rc, .slice s.sa s.slots.length s.sc, .slice s.ta s.states.length s.tc] 26 (0, 0))]) (.refl _) (by have := hc4 4; omega)) fun v I8 G l8 ⟨a4, n4, c4, hv4, F7, hG4, hB7⟩ => ?_
  refine ⟨_, _, _, hv4, (b, Obj.cells (treeCells (upd rw3 3 ⟨a3, n3, c3⟩)) 47 (0, 0)) :: F7, hG4.trans (perm_of fun z => by simp only [cn_app, cn_cons, cn_nil]; omega), _, rfl, (treeCells (upd rw3 3 ⟨a3, n3, c3⟩)).toList, 47, F7, .refl _, ?_, ?_, ⟨_, by omega, by omega, rfl, upd (upd rw3 3 ⟨a3, n3, c3⟩) 4 ⟨a4, n4, c4⟩, ?_⟩, ?_⟩
  · rw [add_lit0]
  · rw [add_lit0]; exact (by decide : 4 + 1 ≤ 12)
  · unfold bkT2
    rw [show (0 : Int).toNat = 0 from rfl, List.take_zero, RK.sum_nil, RK.add_z]
    exact hB7 _ (by rw [add_lit0]; exact .refl _)
  have l18 := Imm.le_trans (Imm.le_trans l1 (Imm.le_trans l2 l3)) (Imm.le_trans (Imm.le_trans l5 l6) (Imm.le_trans l7 l8))
  intro i m4 I9 F9 l9 ⟨i0, i1, im, rw9, hB9⟩
  have l19 := Imm.le_trans l18 l9
  refine ⟨fun hlt => ?_, fun hlt => ⟨rfl, rw9, ?_⟩⟩
  · have hlt := of_decide_eq_true hlt
    obtain ⟨ad, x, had, hx, hrd, hxm⟩ := SlG.atm hs.states i0 hlt
    have hm := sumI_le StateN.mass_pos hx
    rw [StateN.mass_eq] at hm
    have hxn := sumI_nonneg (fun x => Int.le_trans (by decide) (RuleN.mass_pos x)) x.rules
    have hxl := (hL.state _ (List.mem_map_of_mem hxm)).1
    simp only [StateN.p, List.length_map] at hxl
    refine ⟨⟨i0, hlt⟩, ad, had, _, _, _, (hrd.sub l19 fun y hy => .tail _ (hB9.mem y hy)).field (o := 1) rfl, _, rfl, _, _, _, hB9.rd (fun y hy => .tail _ hy) rfl, fun b4 I10 l10 e10 => ?_⟩
    refine TriE.mono (hB9.push (k := 5) (by decide) (by decide) (r := ⟨x.a, x.rules.length, x.c⟩) (by kernel_rfl) (by kernel_rfl) e10 rfl (R0 := [(b_s, Obj.cells #[.string s.name, .slice s.ra s.regs.length s.rc, .slice s.sa s.slots.length s.sc, .slice s.ta s.states.length s.tc] 26 (0, 0))]) (.refl _) (by have := bkT2_cap (s := s) hc i.toNat 5; omega)) fun v I11 G l11 ⟨a5, n5, c5, hv5, F11, hG5, hB11⟩ => ?_
    refine ⟨_, _, _, hv5, (b, Obj.cells (treeCells rw9) 47 (0, 0)) :: F11, hG5.trans (perm_of fun z => by simp only [cn_app, cn_cons, cn_nil]; omega), _, rfl, (treeCells rw9).toList, 47, F11, .refl _, ?_, ?_, ⟨_, x, hx, by omega, by omega, rfl, upd rw9 5 ⟨a5, n5, c5⟩, ?_⟩, ?_⟩
    · rw [add_lit0]
    · rw [add_lit0]; exact (by decide : 5 + 1 ≤ 12)
    · unfold bkT3
      rw [show (0 : Int).toNat = 0 from rfl, List.take_zero, RK.sum_nil, RK.add_z]
      exact hB11 _ (by rw [add_lit0]; exact .refl _)
    intro k m6 I12 F12 l12 ⟨x', hx', k0, k1, km, rw12, hB12⟩
    obtain rfl : x = x' := by rw [hx] at hx'; exact Option.some.inj hx'
    have l1c := Imm.le_trans l19 (Imm.le_trans l10 (Imm.le_trans l11 l12))
    have hxs := hs.state x hxm
    refine ⟨fun hlt2 => ?_, fun hlt2 => ⟨(s.states.length - (i + 1)).toNat, by omega, ?_⟩⟩
    · have hlt2 := of_decide_eq_true hlt2
      obtain ⟨ad5, r, had5, hr, hrd5, hrm⟩ := SlG.atm hxs.1 k0 hlt2
      have hm2 := sumI_le RuleN.mass_pos hr
      rw [RuleN.mass_eq] at hm2
      have hrnn := sumI_nonneg (fun x => Int.le_trans (by decide) (DoN.mass_pos x)) r.dos
      have hrL := (hL.state _ (List.mem_map_of_mem hxm)).2 _ (List.mem_map_of_mem hrm)
      have hdl := hrL.2.1
      simp only [RuleN.p, List.length_map] at hdl
      have hwp := Px.size_pos r.when.px
      have hrs := hxs.2 r hrm
      have hc12 := bkT3_cap (s := s) hc i.toNat x k.toNat
      refine ⟨⟨k0, hlt2⟩, ad5, had5, _, _, _, _, _, _, _, _, _, _, Rd.part (hrd5.sub l1c fun y hy => .tail _ (hB12.mem y hy)) (o := 0) (xs := []) (ds := r.when.enc) (ys := [.slice r.a r.dos.length r.c, .int .i64 r.pos]) rfl rfl,
        (hB12.node r.when hrL.1 (R0 := [(b_s, Obj.cells #[.string s.name, .slice s.ra s.regs.length s.rc, .slice s.sa s.slots.length s.sc, .slice s.ta s.states.length s.tc] 26 (0, 0))]) (.refl _) (by have := hc12 1; omega) I12 (hrs.1.mono l1c fun _ h => h)).mono fun e I13 G l13 ⟨he, rw13, F13, hG, hB13⟩ => ⟨he, F13, hG, ?_⟩⟩
      refine ⟨_, rfl, ⟨k0, hlt2⟩, ad5, had5, _, _, _, hB13.rd (fun y hy => .tail _ hy) rfl, r.a, r.dos.length, r.c, (hrd5.sub (Imm.le_trans l1c l13) fun y hy => List.Mem.tail _ (hB13.mem y hy)).field (o := 8) rfl, fun b5 I14 l14 e14 => ?_⟩
      have hc13 := hc12.add (Cap.nd r.when)
      refine TriE.mono (hB13.push (k := 6) (by decide) (by decide) (r := ⟨r.a, r.dos.length, r.c⟩) (by kernel_rfl) (by kernel_rfl) e14 rfl (R0 := [(b_s, Obj.cells #[.string s.name, .slice s.ra s.regs.length s.rc, .slice s.sa s.slots.length s.sc, .slice s.ta s.states.length s.tc] 26 (0, 0))]) (.refl _) (by have := hc13 6; omega)) fun v I15 G l15 ⟨a6, n6, c6, hv6, F15, hG6, hB15⟩ => ?_
      refine ⟨_, _, _, hv6, (b, Obj.cells (treeCells rw13) 47 (0, 0)) :: F15, hG6.trans (perm_of fun z => by simp only [cn_app, cn_cons, cn_nil]; omega), _, rfl, (treeCells rw13).toList, 47, F15, .refl _, ?_, ?_, ⟨_, x, r, hx, hr, by omega, by omega, rfl, upd rw13 6 ⟨a6, n6, c6⟩, ?_⟩, ?_⟩
      · rw [add_lit0]
      · rw [add_lit0]; exact (by decide : 6 + 1 ≤ 12)
      · unfold bkT4
        rw [show (0 : Int).toNat = 0 from rfl, List.take_zero, RK.sum_nil, RK.add_z]
        exact hB15 _ (by rw [add_lit0]; exact .refl _)
      intro j m8 I16 F16 l16 ⟨x', r', hx', hr', j0, j1, jm, rw16, hB16⟩
      obtain rfl : x = x' := by rw [hx] at hx'; exact Option.some.inj hx'
      obtain rfl : r = r' := by rw [hr] at hr'; exact Option.some.inj hr'
      have l1g := Imm.le_trans (Imm.le_trans l1c l13) (Imm.le_trans l14 (Imm.le_trans l15 l16))
      have hrd8 := (hrd5.sub l1g fun y hy => (.tail (b_s, Obj.cells #[.string s.name, .slice s.ra s.regs.length s.rc, .slice s.sa s.slots.length s.sc, .slice s.ta s.states.length s.tc] 26 (0, 0)) (hB16.mem y hy))).field (o := 8) (v := .slice r.a r.dos.length r.c) rfl
      refine ⟨⟨k0, hlt2⟩, ad5, had5, _, _, _, hrd8, fun hlt3 => ?_, fun hlt3 => ⟨(x.rules.length - (k + 1)).toNat, by omega, x, hx, ?_⟩⟩
      · have hlt3 := of_decide_eq_true hlt3
        obtain ⟨ad8, d, had8, hd, hrdd, hdm⟩ := SlG.atm hrs.2.1 j0 hlt3
        have hm3 := sumI_le DoN.mass_pos hd
        rw [DoN.mass_eq] at hm3
        have hdL := hrL.2.2 _ (List.mem_map_of_mem hdm)
        simp only [DoP.Light, Small, DoP.nds, DoN.p, List.mem_cons, List.not_mem_nil, or_false] at hdL
        have q1 := Px.size_pos d.side.px
        have q2 := Px.size_pos d.qty.px
        have q3 := Px.size_pos d.price.px
        have q4 := Px.size_pos d.value.px
        have hds := hrs.2.2 d hdm
        have hc16 := bkT4_cap (s := s) hc i.toNat x k.toNat r j.toNat
        refine ⟨⟨k0, hlt2⟩, ad5, had5, _, _, _, hrd8, ⟨j0, hlt3⟩, ad8, had8, _, _, _, _, _, _, _, _, _, _, _, _, _, _, _, _, _, _, _, _, _, _, _, _, _, _, _, _, _, _, _, _, _, _, _, _, _, _, _, _, _, _, _, _, hrdd.sub l1g fun y hy => .tail _ (hB16.mem y hy), fun b_d => ?_⟩
        refine (hB16.node d.side (hdL _ (.inl rfl)) (R0 := [(b_s, Obj.cells #[.string s.name, .slice s.ra s.regs.length s.rc, .slice s.sa s.slots.length s.sc, .slice s.ta s.states.length s.tc] 26 (0, 0)), (b_d, Obj.cells #[.int .u8 d.kind, .int .u8 d.order, .string d.name, .int .u8 d.side.kind, .int .u8 d.side.oper, .int .u8 d.side.typ, .int .i64 d.side.n, .int .u8 d.side.field, .string d.side.name, .slice d.side.a d.side.kids.length d.side.c, .int .i64 d.side.pos, .int .u8 d.qty.kind, .int .u8 d.qty.oper, .int .u8 d.qty.typ, .int .i64 d.qty.n, .int .u8 d.qty.field, .string d.qty.name, .slice d.qty.a d.qty.kids.length d.qty.c, .int .i64 d.qty.pos, .int .u8 d.price.kind, .int .u8 d.price.oper, .int .u8 d.price.typ, .int .i64 d.price.n, .int .u8 d.price.field, .string d.price.name, .slice d.price.a d.price.kids.length d.price.c, .int .i64 d.price.pos, .int .u8 d.value.kind, .int .u8 d.value.oper, .int .u8 d.value.typ, .int .i64 d.value.n, .int .u8 d.value.field, .string d.value.name, .slice d.value.a d.value.kids.length d.value.c, .int .i64 d.value.pos, .int .i64 d.pos] 89 (0, 0))]) (.refl _) (by have := hc16 1; omega) I16 (hds.1.mono l1g fun _ h => h)).mono fun e I17 G l17 ⟨he, rw17, F17, hG, hB17⟩ => ?_
        refine ⟨he, F17, hG, ?_⟩
        have l1h := Imm.le_trans l1g l17
        have hc17 := hc16.add (Cap.nd d.side)
        refine (hB17.node d.qty (hdL _ (.inr (.inl rfl))) (R0 := [(b_s, Obj.cells #[.string s.name, .slice s.ra s.regs.length s.rc, .slice s.sa s.slots.length s.sc, .slice s.ta s.states.length s.tc] 26 (0, 0)), (b_d, Obj.cells #[.int .u8 d.kind, .int .u8 d.order, .string d.name, .int .u8 d.side.kind, .int .u8 d.side.oper, .int .u8 d.side.typ, .int .i64 d.side.n, .int .u8 d.side.field, .string d.side.name, .slice d.side.a d.side.kids.length d.side.c, .int .i64 d.side.pos, .int .u8 d.qty.kind, .int .u8 d.qty.oper, .int .u8 d.qty.typ, .int .i64 d.qty.n, .int .u8 d.qty.field, .string d.qty.name, .slice d.qty.a d.qty.kids.length d.qty.c, .int .i64 d.qty.pos, .int .u8 d.price.kind, .int .u8 d.price.oper, .int .u8 d.price.typ, .int .i64 d.price.n, .int .u8 d.price.field, .string d.price.name, .slice d.price.a d.price.kids.length d.price.c, .int .i64 d.price.pos, .int .u8 d.value.kind, .int .u8 d.value.oper, .int .u8 d.value.typ, .int .i64 d.value.n, .int .u8 d.value.field, .string d.value.name, .slice d.value.a d.value.kids.length d.value.c, .int .i64 d.value.pos, .int .i64 d.pos] 89 (0, 0))]) (.refl _) (by have := hc17 1; omega) I17 (hds.2.1.mono l1h fun _ h => h)).mono fun e I18 G l18 ⟨he, rw18, F18, hG, hB18⟩ => ?_
        refine ⟨he, F18, hG, ?_⟩
        have l1i := Imm.le_trans l1h l18
        have hc18 := hc17.add (Cap.nd d.qty)
        refine (hB18.node d.price (hdL _ (.inr (.inr (.inl rfl)))) (R0 := [(b_s, Obj.cells #[.string s.name, .slice s.ra s.regs.length s.rc, .slice s.sa s.slots.length s.sc, .slice s.ta s.states.length s.tc] 26 (0, 0)), (b_d, Obj.cells #[.int .u8 d.kind, .int .u8 d.order, .string d.name, .int .u8 d.side.kind, .int .u8 d.side.oper, .int .u8 d.side.typ, .int .i64 d.side.n, .int .u8 d.side.field, .string d.side.name, .slice d.side.a d.side.kids.length d.side.c, .int .i64 d.side.pos, .int .u8 d.qty.kind, .int .u8 d.qty.oper, .int .u8 d.qty.typ, .int .i64 d.qty.n, .int .u8 d.qty.field, .string d.qty.name, .slice d.qty.a d.qty.kids.length d.qty.c, .int .i64 d.qty.pos, .int .u8 d.price.kind, .int .u8 d.price.oper, .int .u8 d.price.typ, .int .i64 d.price.n, .int .u8 d.price.field, .string d.price.name, .slice d.price.a d.price.kids.length d.price.c, .int .i64 d.price.pos, .int .u8 d.value.kind, .int .u8 d.value.oper, .int .u8 d.value.typ, .int .i64 d.value.n, .int .u8 d.value.field, .string d.value.name, .slice d.value.a d.value.kids.length d.value.c, .int .i64 d.value.pos, .int .i64 d.pos] 89 (0, 0))]) (.refl _) (by have := hc18 1; omega) I18 (hds.2.2.1.mono l1i fun _ h => h)).mono fun e I19 G l19' ⟨he, rw19, F19, hG, hB19⟩ => ?_
        refine ⟨he, F19, hG, ?_⟩
        have l1j := Imm.le_trans l1i l19'
        have hc19 := hc18.add (Cap.nd d.price)
        refine (hB19.node d.value (hdL _ (.inr (.inr (.inr rfl)))) (R0 := [(b_s, Obj.cells #[.string s.name, .slice s.ra s.regs.length s.rc, .slice s.sa s.slots.length s.sc, .slice s.ta s.states.length s.tc] 26 (0, 0)), (b_d, Obj.cells #[.int .u8 d.kind, .int .u8 d.order, .string d.name, .int .u8 d.side.kind, .int .u8 d.side.oper, .int .u8 d.side.typ, .int .i64 d.side.n, .int .u8 d.side.field, .string d.side.name, .slice d.side.a d.side.kids.length d.side.c, .int .i64 d.side.pos, .int .u8 d.qty.kind, .int .u8 d.qty.oper, .int .u8 d.qty.typ, .int .i64 d.qty.n, .int .u8 d.qty.field, .string d.qty.name, .slice d.qty.a d.qty.kids.length d.qty.c, .int .i64 d.qty.pos, .int .u8 d.price.kind, .int .u8 d.price.oper, .int .u8 d.price.typ, .int .i64 d.price.n, .int .u8 d.price.field, .string d.price.name, .slice d.price.a d.price.kids.length d.price.c, .int .i64 d.price.pos, .int .u8 d.value.kind, .int .u8 d.value.oper, .int .u8 d.value.typ, .int .i64 d.value.n, .int .u8 d.value.field, .string d.value.name, .slice d.value.a d.value.kids.length d.value.c, .int .i64 d.value.pos, .int .i64 d.pos] 89 (0, 0))]) (.refl _) (by have := hc19 1; omega) I19 (hds.2.2.2.mono l1j fun _ h => h)).mono fun e I20 G l20 ⟨he, rw20, F20, hG, hB20⟩ => ?_
        refine ⟨he, F20, hG, (r.dos.length - (j + 1)).toNat, by omega, ?_⟩
        rw [w64 (n := j + 1) (by omega)]
        refine ⟨x, r, hx, hr, by omega, by omega, rfl, rw20, ?_⟩
        have e4 : bkT4 rs s i.toNat x k.toNat r (j + 1).toNat = ((((bkT4 rs s i.toNat x k.toNat r j.toNat).add (RK.nd d.side.rows)).add (RK.nd d.qty.rows)).add (RK.nd d.price.rows)).add (RK.nd d.value.rows) := by
          unfold bkT4
          rw [show (j + 1).toNat = j.toNat + 1 by omega, RK.sum_take _ hd]
          unfold DoN.K
          simp only [RK.add_assoc]
        rw [e4]; exact hB20
      · have hlt3 := of_decide_eq_false hlt3
        rw [w64 (n := k + 1) (by omega)]
        refine ⟨by omega, by omega, rfl, rw16, ?_⟩
        have e3 : bkT3 rs s i.toNat x (k + 1).toNat = bkT4 rs s i.toNat x k.toNat r j.toNat := by
          unfold bkT4
          rw [RK.sum_full _ (by omega)]
          unfold bkT3
          rw [show (k + 1).toNat = k.toNat + 1 by omega, RK.sum_take _ hr]
          unfold RuleN.K
          simp only [RK.add_assoc]
        rw [e3]; exact hB16
    · have hlt2 := of_decide_eq_false hlt2
      rw [w64 (n := i + 1) (by omega)]
      refine ⟨by omega, by omega, rfl, rw12, ?_⟩
      have e2 : bkT2 rs s (i + 1).toNat = bkT3 rs s i.toNat x k.toNat := by
        unfold bkT3
        rw [RK.sum_full _ (by omega)]
        unfold bkT2
        rw [show (i + 1).toNat = i.toNat + 1 by omega, RK.sum_take _ hx]
        unfold StateN.K
        simp only [RK.add_assoc]
      rw [e2]; exact hB12
  · have hlt := of_decide_eq_false hlt
    have e1 : rs.add s.K = bkT2 rs s i.toNat := by
      unfold bkT2
      rw [RK.sum_full _ (by omega)]
      unfold bkT1 StgN.K
      simp only [RK.add_assoc]
    rw [e1]; exact hB9
end Go.Lx
namespace Go.Lx
open Go.Vc
def shT_ta : List (Nat × List Sh) := [(4, [.one .bool]), (9, [.one .str]), (30, [.one (.int .i64)]), (55, [.agg [(.int .u8), (.int .u8), (.int .u8), (.int .i64), (.int .u8), .str, .slc, (.int .i64)]]), (67, [.agg [(.int .u8), (.int .u8), (.int .u8), (.int .i64), (.int .u8), .str, .slc, (.int .i64), .slc, (.int .i64)]]), (70, [.agg [.str, .slc, (.int .i64)]]), (75, [.agg [.str, (.int .u8), (.int .u8), (.int .u8), (.int .u8), (.int .i64), (.int .u8), .str, .slc, (.int .i64), (.int .i64)]]), (89, [.agg [(.int .u8), (.int .u8), .str, (.int .u8), (.int .u8), (.int .u8), (.int .i64), (.int .u8), .str, .slc, (.int .i64), (.int .u8), (.int .u8), (.int .u8), (.int .i64), (.int .u8), .str, .slc, (.int .i64), (.int .u8), (.int .u8), (.int .u8), (.int .i64), (.int .u8), .str, .slc, (.int .i64), (.int .u8), (.int .u8), (.int .u8), (.int .i64), (.int .u8), .str, .slc, (.int .i64), (.int .i64)]])]
def ref12_Check.V (b : Nat → Nat × Obj) (vb vi : Int → Value) (vs : Bs → Value) (vl : OA → Nat → Nat → Value) (ah : Bs) (q : OA) (d aj : Nat) (s : OA) (e ak : Nat) (t : OA) (a al : Nat) (I : Imm) (F : Heap) (Q : PostQ) (Inv24 : Int → Bool → Int → Nat → Imm → Heap → Prop) (Inv55 : Int → Bool → Int → Nat → Imm → Heap → Prop) (Inv94 : Int → Int → Nat → Imm → Heap → Prop) : Prop := ∀ c : Nat, Tri P 73 (#[vs ah]) I ((b c) :: F) fun e1 I1 G1 => ∃ (r : Bool), e1 = .returned (.bool r) ∧ ∃ F1 : Heap, List.Perm G1 ((b c) :: F1) ∧ (((!r) = true → Q (.returned (vi 120)) I1 (F1)) ∧ ((!r) = false → ((decide (((d : Nat) : Int) > 12) = true → Q (.returned (vi 121)) I1 (F1)) ∧ (decide (((d : Nat) : Int) > 12) = false → (∃ m : Nat, Inv24 0 r 0 m I1 F1) ∧ ∀ (x : Int) (ok : Bool) (i : Int) (m1 : Nat) (I2 : Imm) (F2 : Heap), Imm.le I1 I2 → Inv24 x ok i m1 I2 F2 → ((decide (i < ((d : Nat) : Int)) = true → ((0 ≤ i ∧ i < (d : Int)) ∧ ∃ ad : Addr, q = some ad ∧ ∃ (u : Bs) (v w y z aa ab : Int) (ac : Bs) (f : OA) (g h : Nat) (ae n : Int), Rd I2 ((b c) :: F2) (ad.add (Int.toNat (i) * 11)) [vs u, vb v, vb w, vb y, vb z, vi aa, vb ab, vs ac, vl f g h, vi ae, vi n] ∧ Tri P 74 (#[.agg #[vs u, vb v, vb w, vb y, vb z, vi aa, vb ab, vs ac, vl f g h, vi ae, vi n]]) I2 ((b c) :: F2) fun e2 I3 G2 => ∃ (r1 : Bool), e2 = .returned (.bool r1) ∧ ∃ F3 : Heap, List.Perm G2 ((b c) :: F3) ∧ (((!r1) = true → Q (.returned (vi 120)) I3 (F3)) ∧ ((!r1) = false → (∃ m2 : Nat, m2 < m1 ∧ Inv24 x r1 (IntKind.wrap .i64 (i + 1)) m2 I3 F3))))) ∧ (decide (i < ((d : Nat) : Int)) = false → ((decide (((e : Nat) : Int) > 4) = true → Q (.returned (vi 121)) I2 (F2)) ∧ (decide (((e : Nat) : Int) > 4) = false → (∃ m3 : Nat, Inv55 x ok 0 m3 I2 F2) ∧ ∀ (x1 : Int) (ai : Bool) (i1 : Int) (m4 : Nat) (I4 : Imm) (F4 : Heap), Imm.le I2 I4 → Inv55 x1 ai i1 m4 I4 F4 → ((decide (i1 < ((e : Nat) : Int)) = true → ((0 ≤ i1 ∧ i1 < (e : Int)) ∧ ∃ af : Addr, s = some af ∧ ∃ (m5 : Bs), Rd I4 ((b c) :: F4) ((af.add (Int.toNat (i1) * 2)).add 0) [vs m5] ∧ Tri P 73 (#[vs m5]) I4 ((b c) :: F4) fun e3 I5 G3 => ∃ (r2 : Bool), e3 = .returned (.bool r2) ∧ ∃ F5 : Heap, List.Perm G3 ((b c) :: F5) ∧ (((!r2) = true → Q (.returned (vi 120)) I5 (F5)) ∧ ((!r2) = false → (∃ m6 : Nat, m6 < m4 ∧ Inv55 x1 r2 (IntKind.wrap .i64 (i1 + 1)) m6 I5 F5))))) ∧ (decide (i1 < ((e : Nat) : Int)) = false → (((((a : Nat) : Int) == 0) = true → Q (.returned (vi 120)) I4 (F4)) ∧ ((((a : Nat) : Int) == 0) = false → ((decide (((a : Nat) : Int) > 12) = true → Q (.returned (vi 121)) I4 (F4)) ∧ (decide (((a : Nat) : Int) > 12) = false → (∃ m7 : Nat, Inv94 x1 0 m7 I4 F4) ∧ ∀ (x2 i2 : Int) (m8 : Nat) (I6 : Imm) (F6 : Heap), Imm.le I4 I6 → Inv94 x2 i2 m8 I6 F6 → ((decide (i2 < ((a : Nat) : Int)) = true → ((0 ≤ i2 ∧ i2 < (a : Int)) ∧ ∃ ag : Addr, t = some ag ∧ ∃ (o : Bs) (j : OA) (k l : Nat) (p : Int), Rd I6 ((b c) :: F6) (ag.add (Int.toNat (i2) * 3)) [vs o, vl j k l, vi p] ∧ Tri P 75 (#[.agg #[vs o, vl j k l, vi p]]) I6 ((b c) :: F6) fun e4 I7 G4 => ∃ (r3 : Int), e4 = .returned (vi r3) ∧ ∃ F7 : Heap, List.Perm G4 ((b c) :: F7) ∧ (((r3 != 0) = true → Q (.returned (vi r3)) I7 (F7)) ∧ ((r3 != 0) = false → (∃ m9 : Nat, m9 < m8 ∧ Inv94 x2 (IntKind.wrap .i64 (i2 + 1)) m9 I7 F7))))) ∧ (decide (i2 < ((a : Nat) : Int)) = false → Q (.returned (vi 0)) I6 (F6)))))))))))))))))
theorem ref12_Check.vc {s_0 : Bs} {s_1_a : OA} {s_1_n s_1_c : Nat} {s_2_a : OA} {s_2_n s_2_c : Nat} {s_3_a : OA} {s_3_n s_3_c : Nat} {I : Imm} {F : Heap} {Q : PostQ} (Inv24 : Int → Bool → Int → Nat → Imm → Heap → Prop) (Inv55 : Int → Bool → Int → Nat → Imm → Heap → Prop) (Inv94 : Int → Int → Nat → Imm → Heap → Prop) (h : ref12_Check.V (fun b => (b, Obj.cells #[.string s_0, .slice s_1_a s_1_n s_1_c, .slice s_2_a s_2_n s_2_c, .slice s_3_a s_3_n s_3_c] 26 (0, 0))) (.int .u8) (.int .i64) .string .slice s_0 s_1_a s_1_n s_1_c s_2_a s_2_n s_2_c s_3_a s_3_n s_3_c I F Q Inv24 Inv55 Inv94) : Tri P 16 #[.agg #[.string s_0, .slice s_1_a s_1_n s_1_c, .slice s_2_a s_2_n s_2_c, .slice s_3_a s_3_n s_3_c]] I (F) Q :=
  tv (A := (annL [2001, 4003, 7004, 10001, 12003, 15004, 18001, 20003, 22003, 25004, 28001] [] [73, 74, 75] shT_ta [(24, ⟨[(2, (.int .i64)), (3, .bool), (4, (.int .i64))], [], fun _ _ _ vs m I F => match vs with | [.int _ y0, .bool y1, .int _ y2] => Inv24 y0 y1 y2 m I F | _ => False, [], []⟩), (55, ⟨[(2, (.int .i64)), (3, .bool), (5, (.int .i64))], [], fun _ _ _ vs m I F => match vs with | [.int _ y0, .bool y1, .int _ y2] => Inv55 y0 y1 y2 m I F | _ => False, [], []⟩), (94, ⟨[(2, (.int .i64)), (6, (.int .i64))], [], fun _ _ _ vs m I F => match vs with | [.int _ y0, .int _ y1] => Inv94 y0 y1 m I F | _ => False, [], []⟩)] [] [] [] [] [] [])) (args := [.a (.v (.agg #[.string s_0, .slice s_1_a s_1_n s_1_c, .slice s_2_a s_2_n s_2_c, .slice s_3_a s_3_n s_3_c]))]) (own := []) (keep := []) [73, 74, 75] Go.Proofs.Tryz.func16 h
def ref12_reg.V (a : Nat → Nat × Obj) (vb : Int → Value) (vt : Bool → Value) (g : Bs) (b h i j k l : Int) (m : Bs) (d : OA) (e f : Nat) (n o : Int) (I : Imm) (F : Heap) (Q : PostQ)  : Prop := ∀ c : Nat, Tri P 73 (#[.string g]) I ((a c) :: F) fun e1 I1 G1 => ∃ (r : Bool), e1 = .returned (vt r) ∧ ∃ F1 : Heap, List.Perm G1 ((a c) :: F1) ∧ ((r = true → ((decide (b ≥ 1) = true → ((decide (b ≤ 6) = true → Tri P 99 (#[.agg #[vb h, vb i, vb j, .int .i64 k, vb l, .string m, .slice d e f, .int .i64 n]]) I1 ((a c) :: F1) fun e2 I2 G2 => ∃ (r1 : Bool), e2 = .returned (vt r1) ∧ ∃ F2 : Heap, List.Perm G2 ((a c) :: F2) ∧ Q (.returned (vt r1)) I2 (F2)) ∧ (decide (b ≤ 6) = false → Q (.returned (vt false)) I1 (F1)))) ∧ (decide (b ≥ 1) = false → Q (.returned (vt false)) I1 (F1)))) ∧ (r = false → Q (.returned (vt false)) I1 (F1)))
theorem ref12_reg.vc {r_0 : Bs} {r_1 r_2 r_3 r_4 r_5 r_6 : Int} {r_7 : Bs} {r_8_a : OA} {r_8_n r_8_c : Nat} {r_9 r_10 : Int} {I : Imm} {F : Heap} {Q : PostQ}  (h : ref12_reg.V (fun b => (b, Obj.cells #[.string r_0, .int .u8 r_1, .int .u8 r_2, .int .u8 r_3, .int .u8 r_4, .int .i64 r_5, .int .u8 r_6, .string r_7, .slice r_8_a r_8_n r_8_c, .int .i64 r_9, .int .i64 r_10] 75 (0, 0))) (.int .u8) .bool r_0 r_1 r_2 r_3 r_4 r_5 r_6 r_7 r_8_a r_8_n r_8_c r_9 r_10 I F Q) : Tri P 74 #[.agg #[.string r_0, .int .u8 r_1, .int .u8 r_2, .int .u8 r_3, .int .u8 r_4, .int .i64 r_5, .int .u8 r_6, .string r_7, .slice r_8_a r_8_n r_8_c, .int .i64 r_9, .int .i64 r_10]] I (F) Q :=
  tv (A := (annL [2000, 2004, 2009] [] [73, 99] shT_ta [] [] [] [] [] [] [])) (args := [.a (.v (.agg #[.string r_0, .int .u8 r_1, .int .u8 r_2, .int .u8 r_3, .int .u8 r_4, .int .i64 r_5, .int .u8 r_6, .string r_7, .slice r_8_a r_8_n r_8_c, .int .i64 r_9, .int .i64 r_10]))]) (own := []) (keep := []) [73, 99] Go.Proofs.Tryz.func74 h
def ref12_state.V (b : Nat → Nat × Obj) (vb vi : Int → Value) (vl : OA → Nat → Nat → Value) (v : Bs) (k : OA) (a w : Nat) (y : Int) (I : Imm) (F : Heap) (Q : PostQ) (Inv24 : Int → Int → Nat → Imm → Heap → Prop) : Prop := ∀ c : Nat, Tri P 73 (#[.string v]) I ((b c) :: F) fun e1 I1 G1 => ∃ (r : Bool), e1 = .returned (.bool r) ∧ ∃ F1 : Heap, List.Perm G1 ((b c) :: F1) ∧ (((!r) = true → Q (.returned (vi 120)) I1 (F1)) ∧ ((!r) = false → ((decide (((a : Nat) : Int) > 12) = true → Q (.returned (vi 121)) I1 (F1)) ∧ (decide (((a : Nat) : Int) > 12) = false → (∃ m : Nat, Inv24 0 0 m I1 F1) ∧ ∀ (x i : Int) (m1 : Nat) (I2 : Imm) (F2 : Heap), Imm.le I1 I2 → Inv24 x i m1 I2 F2 → ((decide (i < ((a : Nat) : Int)) = true → ((0 ≤ i ∧ i < (a : Int)) ∧ ∃ ad : Addr, k = some ad ∧ ∃ (l n o p q : Int) (s : Bs) (d : OA) (e f : Nat) (t : Int) (g : OA) (h j : Nat) (u : Int), Rd I2 ((b c) :: F2) (ad.add (Int.toNat (i) * 10)) [vb l, vb n, vb o, vi p, vb q, .string s, vl d e f, vi t, vl g h j, vi u] ∧ Tri P 100 (#[.agg #[vb l, vb n, vb o, vi p, vb q, .string s, vl d e f, vi t, vl g h j, vi u]]) I2 ((b c) :: F2) fun e2 I3 G2 => ∃ (r1 : Int), e2 = .returned (vi r1) ∧ ∃ F3 : Heap, List.Perm G2 ((b c) :: F3) ∧ (((r1 != 0) = true → Q (.returned (vi r1)) I3 (F3)) ∧ ((r1 != 0) = false → (∃ m2 : Nat, m2 < m1 ∧ Inv24 x (IntKind.wrap .i64 (i + 1)) m2 I3 F3))))) ∧ (decide (i < ((a : Nat) : Int)) = false → Q (.returned (vi 0)) I2 (F2)))))))
theorem ref12_state.vc {s_0 : Bs} {s_1_a : OA} {s_1_n s_1_c : Nat} {s_2 : Int} {I : Imm} {F : Heap} {Q : PostQ} (Inv24 : Int → Int → Nat → Imm → Heap → Prop) (h : ref12_state.V (fun b => (b, Obj.cells #[.string s_0, .slice s_1_a s_1_n s_1_c, .int .i64 s_2] 70 (0, 0))) (.int .u8) (.int .i64) .slice s_0 s_1_a s_1_n s_1_c s_2 I F Q Inv24) : Tri P 75 #[.agg #[.string s_0, .slice s_1_a s_1_n s_1_c, .int .i64 s_2]] I (F) Q :=
  tv (A := (annL [2001, 4003, 7004, 10001] [] [73, 100] shT_ta [(24, ⟨[(2, (.int .i64)), (4, (.int .i64))], [], fun _ _ _ vs m I F => match vs with | [.int _ y0, .int _ y1] => Inv24 y0 y1 m I F | _ => False, [], []⟩)] [] [] [] [] [] [])) (args := [.a (.v (.agg #[.string s_0, .slice s_1_a s_1_n s_1_c, .int .i64 s_2]))]) (own := []) (keep := []) [73, 100] Go.Proofs.Tryz.func75 h
def ref12_rule.V (b : Nat → Nat × Obj) (vb vi : Int → Value) (vs : Bs → Value) (vl : OA → Nat → Nat → Value) (aG aH aI aJ aK : Int) (aL : Bs) (ar : OA) (au av : Nat) (aM : Int) (aw : OA) (a aN : Nat) (aO : Int) (I : Imm) (F : Heap) (Q : PostQ) (Inv32 : Int → Int → Int → Nat → Imm → Heap → Prop) : Prop := ∀ n : Nat, Tri P 112 (#[.agg #[vb aG, vb aH, vb aI, vi aJ, vb aK, vs aL, vl ar au av, vi aM]]) I ((b n) :: F) fun e1 I1 G1 => ∃ (r : Int), e1 = .returned (vi r) ∧ ∃ F1 : Heap, List.Perm G1 ((b n) :: F1) ∧ (((r != 0) = true → Q (.returned (vi r)) I1 (F1)) ∧ ((r != 0) = false → (((((a : Nat) : Int) == 0) = true → Q (.returned (vi 120)) I1 (F1)) ∧ ((((a : Nat) : Int) == 0) = false → ((decide (((a : Nat) : Int) > 8) = true → Q (.returned (vi 121)) I1 (F1)) ∧ (decide (((a : Nat) : Int) > 8) = false → (∃ m : Nat, Inv32 0 r 0 m I1 F1) ∧ ∀ (x e2 i : Int) (m1 : Nat) (I2 : Imm) (F2 : Heap), Imm.le I1 I2 → Inv32 x e2 i m1 I2 F2 → ((decide (i < ((a : Nat) : Int)) = true → ((0 ≤ i ∧ i < (a : Int)) ∧ ∃ ad : Addr, aw = some ad ∧ ∃ (ax ay : Int) (az : Bs) (aA aB aC aD aE : Int) (aF : Bs) (o : OA) (p q : Nat) (s t u v w y : Int) (z : Bs) (c : OA) (d e : Nat) (aa ab ac ae af ag : Int) (ah : Bs) (f : OA) (g h : Nat) (ai aj ak al am an : Int) (ao : Bs) (j : OA) (k l : Nat) (ap aq : Int), Rd I2 ((b n) :: F2) (ad.add (Int.toNat (i) * 36)) [vb ax, vb ay, vs az, vb aA, vb aB, vb aC, vi aD, vb aE, vs aF, vl o p q, vi s, vb t, vb u, vb v, vi w, vb y, vs z, vl c d e, vi aa, vb ab, vb ac, vb ae, vi af, vb ag, vs ah, vl f g h, vi ai, vb aj, vb ak, vb al, vi am, vb an, vs ao, vl j k l, vi ap, vi aq] ∧ Tri P 113 (#[.agg #[vb ax, vb ay, vs az, vb aA, vb aB, vb aC, vi aD, vb aE, vs aF, vl o p q, vi s, vb t, vb u, vb v, vi w, vb y, vs z, vl c d e, vi aa, vb ab, vb ac, vb ae, vi af, vb ag, vs ah, vl f g h, vi ai, vb aj, vb ak, vb al, vi am, vb an, vs ao, vl j k l, vi ap, vi aq]]) I2 ((b n) :: F2) fun e3 I3 G2 => ∃ (r1 : Int), e3 = .returned (vi r1) ∧ ∃ F3 : Heap, List.Perm G2 ((b n) :: F3) ∧ (((r1 != 0) = true → Q (.returned (vi r1)) I3 (F3)) ∧ ((r1 != 0) = false → (∃ m2 : Nat, m2 < m1 ∧ Inv32 x r1 (IntKind.wrap .i64 (i + 1)) m2 I3 F3))))) ∧ (decide (i < ((a : Nat) : Int)) = false → Q (.returned (vi 0)) I2 (F2)))))))))
theorem ref12_rule.vc {r_0 r_1 r_2 r_3 r_4 : Int} {r_5 : Bs} {r_6_a : OA} {r_6_n r_6_c : Nat} {r_7 : Int} {r_8_a : OA} {r_8_n r_8_c : Nat} {r_9 : Int} {I : Imm} {F : Heap} {Q : PostQ} (Inv32 : Int → Int → Int → Nat → Imm → Heap → Prop) (h : ref12_rule.V (fun b => (b, Obj.cells #[.int .u8 r_0, .int .u8 r_1, .int .u8 r_2, .int .i64 r_3, .int .u8 r_4, .string r_5, .slice r_6_a r_6_n r_6_c, .int .i64 r_7, .slice r_8_a r_8_n r_8_c, .int .i64 r_9] 67 (0, 0))) (.int .u8) (.int .i64) .string .slice r_0 r_1 r_2 r_3 r_4 r_5 r_6_a r_6_n r_6_c r_7 r_8_a r_8_n r_8_c r_9 I F Q Inv32) : Tri P 100 #[.agg #[.int .u8 r_0, .int .u8 r_1, .int .u8 r_2, .int .i64 r_3, .int .u8 r_4, .string r_5, .slice r_6_a r_6_n r_6_c, .int .i64 r_7, .slice r_8_a r_8_n r_8_c, .int .i64 r_9]] I (F) Q :=
  tv (A := (annL [2001, 4003, 6003, 9004, 12001] [] [112, 113] shT_ta [(32, ⟨[(2, (.int .i64)), (3, (.int .i64)), (4, (.int .i64))], [], fun _ _ _ vs m I F => match vs with | [.int _ y0, .int _ y1, .int _ y2] => Inv32 y0 y1 y2 m I F | _ => False, [], []⟩)] [] [] [] [] [] [])) (args := [.a (.v (.agg #[.int .u8 r_0, .int .u8 r_1, .int .u8 r_2, .int .i64 r_3, .int .u8 r_4, .string r_5, .slice r_6_a r_6_n r_6_c, .int .i64 r_7, .slice r_8_a r_8_n r_8_c, .int .i64 r_9]))]) (own := []) (keep := []) [112, 113] Go.Proofs.Tryz.func100 h
def ref12_do.V (a : Nat → Nat × Obj) (nV : Int → Int → Int → Int → Int → Bs → OA → Nat → Nat → Int → Value) (vi : Int → Value) (vl : OA → Nat → Nat → Value) (vt : Bool → Value) (d k : Int) (ab : Bs) (aE aF aG aH aI : Int) (aJ : Bs) (an : OA) (ao ap : Nat) (aD ag ah ai aj ak : Int) (al : Bs) (ac : OA) (ad ae : Nat) (am l m n o p : Int) (q : Bs) (e : OA) (f g : Nat) (s t u v w y : Int) (z : Bs) (h : OA) (i j : Nat) (aa aX : Int) (I : Imm) (F : Heap) (Q : PostQ) (Inv6 : Int → Imm → Heap → Prop) (Inv14 : Int → Imm → Heap → Prop) (Inv24 : Int → Imm → Heap → Prop) : Prop := ∀ c : Nat, (((decide (d < 1) = true → Q (.returned (vi 120)) I (F)) ∧ (decide (d < 1) = false → ((decide (d > 6) = true → Q (.returned (vi 120)) I (F)) ∧ (decide (d > 6) = false → Inv6 0 I F))))) ∧ ∀ (x : Int) (I1 : Imm) (F1 : Heap), Imm.le I I1 → Inv6 x I1 F1 → ((((d == 1) = true → ((decide (k < 1) = true → Q (.returned (vi 120)) I1 (F1)) ∧ (decide (k < 1) = false → ((decide (k > 5) = true → Q (.returned (vi 120)) I1 (F1)) ∧ (decide (k > 5) = false → (((!(d == 1)) = true → (((k != 0) = true → Q (.returned (vi 120)) I1 (F1)) ∧ ((k != 0) = false → Inv14 x I1 F1))) ∧ ((!(d == 1)) = false → Inv14 x I1 F1))))))) ∧ ((d == 1) = false → (((!(d == 1)) = true → (((k != 0) = true → Q (.returned (vi 120)) I1 (F1)) ∧ ((k != 0) = false → Inv14 x I1 F1))) ∧ ((!(d == 1)) = false → Inv14 x I1 F1))))) ∧ ∀ (x1 : Int) (I2 : Imm) (F2 : Heap), Imm.le I1 I2 → Inv14 x1 I2 F2 → Tri P 73 (#[.string ab]) I2 ((a c) :: F2) fun e1 I3 G1 => ∃ (r : Bool), e1 = .returned (vt r) ∧ ∃ F3 : Heap, List.Perm G1 ((a c) :: F3) ∧ ((((d == 6) = true → (((!(ab.toList == (⟨#[]⟩ : Bs).toList)) = true → Q (.returned (vi 120)) I3 (F3)) ∧ ((!(ab.toList == (⟨#[]⟩ : Bs).toList)) = false → (((d != 6) = true → (((!r) = true → (((d == 1) = true → (((!(ab.toList == (⟨#[]⟩ : Bs).toList)) = true → Q (.returned (vi 120)) I3 (F3)) ∧ ((!(ab.toList == (⟨#[]⟩ : Bs).toList)) = false → Inv24 x1 I3 F3))) ∧ ((d == 1) = false → ((true = true → Q (.returned (vi 120)) I3 (F3)) ∧ (true = false → Inv24 x1 I3 F3))))) ∧ ((!r) = false → Inv24 x1 I3 F3))) ∧ ((d != 6) = false → Inv24 x1 I3 F3))))) ∧ ((d == 6) = false → (((d != 6) = true → (((!r) = true → (((d == 1) = true → (((!(ab.toList == (⟨#[]⟩ : Bs).toList)) = true → Q (.returned (vi 120)) I3 (F3)) ∧ ((!(ab.toList == (⟨#[]⟩ : Bs).toList)) = false → Inv24 x1 I3 F3))) ∧ ((d == 1) = false → ((true = true → Q (.returned (vi 120)) I3 (F3)) ∧ (true = false → Inv24 x1 I3 F3))))) ∧ ((!r) = false → Inv24 x1 I3 F3))) ∧ ((d != 6) = false → Inv24 x1 I3 F3))))) ∧ ∀ (x2 : Int) (I4 : Imm) (F4 : Heap), Imm.le I3 I4 → Inv24 x2 I4 F4 → Tri P 120 (#[vt (d == 1), nV aE aF aG aH aI aJ an ao ap aD]) I4 ((a c) :: F4) fun e2 I5 G2 => ∃ (r1 : Int), e2 = .returned (vi r1) ∧ ∃ F5 : Heap, List.Perm G2 ((a c) :: F5) ∧ (((d == 1) = true → Tri P 120 (#[vt true, nV ag ah ai aj ak al ac ad ae am]) I5 ((a c) :: F5) fun e3 I6 G3 => ∃ (r2 : Int), e3 = .returned (vi r2) ∧ ∃ F6 : Heap, List.Perm G3 ((a c) :: F6) ∧ (((d == 1) = true → (((k != 2) = true → Tri P 120 (#[vt true, nV l m n o p q e f g s]) I6 ((a c) :: F6) fun e4 I7 G4 => ∃ (r3 : Int), e4 = .returned (vi r3) ∧ ∃ F7 : Heap, List.Perm G4 ((a c) :: F7) ∧ Tri P 120 (#[vt (d == 4), nV t u v w y z h i j aa]) I7 ((a c) :: F7) fun e5 I8 G5 => ∃ (r4 : Int), e5 = .returned (vi r4) ∧ ∃ F8 : Heap, List.Perm G5 ((a c) :: F8) ∧ ∀ (b : Nat) (I9 : Imm), Imm.le I8 I9 → I9 b = some (Obj.cells #[vi r1, vi r2, vi r3, vi r4] 30 (0, 0)) → Tri P 121 (#[vl (some ⟨b, 0, none⟩) 4 4]) I9 ((a c) :: F8) fun e6 I10 G6 => ∃ (r5 : Int), e6 = .returned (vi r5) ∧ ∃ F9 : Heap, List.Perm G6 ((a c) :: F9) ∧ Q (.returned (vi r5)) I10 (F9)) ∧ ((k != 2) = false → Tri P 120 (#[vt (d == 2), nV l m n o p q e f g s]) I6 ((a c) :: F6) fun e7 I11 G7 => ∃ (r6 : Int), e7 = .returned (vi r6) ∧ ∃ F10 : Heap, List.Perm G7 ((a c) :: F10) ∧ Tri P 120 (#[vt (d == 4), nV t u v w y z h i j aa]) I11 ((a c) :: F10) fun e8 I12 G8 => ∃ (r7 : Int), e8 = .returned (vi r7) ∧ ∃ F11 : Heap, List.Perm G8 ((a c) :: F11) ∧ ∀ (b1 : Nat) (I13 : Imm), Imm.le I12 I13 → I13 b1 = some (Obj.cells #[vi r1, vi r2, vi r6, vi r7] 30 (0, 0)) → Tri P 121 (#[vl (some ⟨b1, 0, none⟩) 4 4]) I13 ((a c) :: F11) fun e9 I14 G9 => ∃ (r8 : Int), e9 = .returned (vi r8) ∧ ∃ F12 : Heap, List.Perm G9 ((a c) :: F12) ∧ Q (.returned (vi r8)) I14 (F12)))) ∧ ((d == 1) = false → Tri P 120 (#[vt (d == 2), nV l m n o p q e f g s]) I6 ((a c) :: F6) fun aK I15 G10 => ∃ (r9 : Int), aK = .returned (vi r9) ∧ ∃ F13 : Heap, List.Perm G10 ((a c) :: F13) ∧ Tri P 120 (#[vt (d == 4), nV t u v w y z h i j aa]) I15 ((a c) :: F13) fun aL I16 G11 => ∃ (aq : Int), aL = .returned (vi aq) ∧ ∃ F14 : Heap, List.Perm G11 ((a c) :: F14) ∧ ∀ (b2 : Nat) (I17 : Imm), Imm.le I16 I17 → I17 b2 = some (Obj.cells #[vi r1, vi r2, vi r9, vi aq] 30 (0, 0)) → Tri P 121 (#[vl (some ⟨b2, 0, none⟩) 4 4]) I17 ((a c) :: F14) fun aM I18 G12 => ∃ (ar : Int), aM = .returned (vi ar) ∧ ∃ F15 : Heap, List.Perm G12 ((a c) :: F15) ∧ Q (.returned (vi ar)) I18 (F15)))) ∧ ((d == 1) = false → Tri P 120 (#[vt (d == 2), nV ag ah ai aj ak al ac ad ae am]) I5 ((a c) :: F5) fun aN I19 G13 => ∃ (af : Int), aN = .returned (vi af) ∧ ∃ F16 : Heap, List.Perm G13 ((a c) :: F16) ∧ (((d == 1) = true → (((k != 2) = true → Tri P 120 (#[vt true, nV l m n o p q e f g s]) I19 ((a c) :: F16) fun aO I20 G14 => ∃ (au : Int), aO = .returned (vi au) ∧ ∃ F17 : Heap, List.Perm G14 ((a c) :: F17) ∧ Tri P 120 (#[vt (d == 4), nV t u v w y z h i j aa]) I20 ((a c) :: F17) fun aP I21 G15 => ∃ (av : Int), aP = .returned (vi av) ∧ ∃ F18 : Heap, List.Perm G15 ((a c) :: F18) ∧ ∀ (b3 : Nat) (I22 : Imm), Imm.le I21 I22 → I22 b3 = some (Obj.cells #[vi r1, vi af, vi au, vi av] 30 (0, 0)) → Tri P 121 (#[vl (some ⟨b3, 0, none⟩) 4 4]) I22 ((a c) :: F18) fun aQ I23 G16 => ∃ (aw : Int), aQ = .returned (vi aw) ∧ ∃ F19 : Heap, List.Perm G16 ((a c) :: F19) ∧ Q (.returned (vi aw)) I23 (F19)) ∧ ((k != 2) = false → Tri P 120 (#[vt (d == 2), nV l m n o p q e f g s]) I19 ((a c) :: F16) fun aR I24 G17 => ∃ (ax : Int), aR = .returned (vi ax) ∧ ∃ F20 : Heap, List.Perm G17 ((a c) :: F20) ∧ Tri P 120 (#[vt (d == 4), nV t u v w y z h i j aa]) I24 ((a c) :: F20) fun aS I25 G18 => ∃ (ay : Int), aS = .returned (vi ay) ∧ ∃ F21 : Heap, List.Perm G18 ((a c) :: F21) ∧ ∀ (b4 : Nat) (I26 : Imm), Imm.le I25 I26 → I26 b4 = some (Obj.cells #[vi r1, vi af, vi ax, vi ay] 30 (0, 0)) → Tri P 121 (#[vl (some ⟨b4, 0, none⟩) 4 4]) I26 ((a c) :: F21) fun aT I27 G19 => ∃ (az : Int), aT = .returned (vi az) ∧ ∃ F22 : Heap, List.Perm G19 ((a c) :: F22) ∧ Q (.returned (vi az)) I27 (F22)))) ∧ ((d == 1) = false → Tri P 120 (#[vt (d == 2), nV l m n o p q e f g s]) I19 ((a c) :: F16) fun aU I28 G20 => ∃ (aA : Int), aU = .returned (vi aA) ∧ ∃ F23 : Heap, List.Perm G20 ((a c) :: F23) ∧ Tri P 120 (#[vt (d == 4), nV t u v w y z h i j aa]) I28 ((a c) :: F23) fun aV I29 G21 => ∃ (aB : Int), aV = .returned (vi aB) ∧ ∃ F24 : Heap, List.Perm G21 ((a c) :: F24) ∧ ∀ (b5 : Nat) (I30 : Imm), Imm.le I29 I30 → I30 b5 = some (Obj.cells #[vi r1, vi af, vi aA, vi aB] 30 (0, 0)) → Tri P 121 (#[vl (some ⟨b5, 0, none⟩) 4 4]) I30 ((a c) :: F24) fun aW I31 G22 => ∃ (aC : Int), aW = .returned (vi aC) ∧ ∃ F25 : Heap, List.Perm G22 ((a c) :: F25) ∧ Q (.returned (vi aC)) I31 (F25)))))
theorem ref12_do.vc {d_0 d_1 : Int} {d_2 : Bs} {d_3 d_4 d_5 d_6 d_7 : Int} {d_8 : Bs} {d_9_a : OA} {d_9_n d_9_c : Nat} {d_10 d_11 d_12 d_13 d_14 d_15 : Int} {d_16 : Bs} {d_17_a : OA} {d_17_n d_17_c : Nat} {d_18 d_19 d_20 d_21 d_22 d_23 : Int} {d_24 : Bs} {d_25_a : OA} {d_25_n d_25_c : Nat} {d_26 d_27 d_28 d_29 d_30 d_31 : Int} {d_32 : Bs} {d_33_a : OA} {d_33_n d_33_c : Nat} {d_34 d_35 : Int} {I : Imm} {F : Heap} {Q : PostQ} (Inv6 : Int → Imm → Heap → Prop) (Inv14 : Int → Imm → Heap → Prop) (Inv24 : Int → Imm → Heap → Prop) (h : ref12_do.V (fun b => (b, Obj.cells #[.int .u8 d_0, .int .u8 d_1, .string d_2, .int .u8 d_3, .int .u8 d_4, .int .u8 d_5, .int .i64 d_6, .int .u8 d_7, .string d_8, .slice d_9_a d_9_n d_9_c, .int .i64 d_10, .int .u8 d_11, .int .u8 d_12, .int .u8 d_13, .int .i64 d_14, .int .u8 d_15, .string d_16, .slice d_17_a d_17_n d_17_c, .int .i64 d_18, .int .u8 d_19, .int .u8 d_20, .int .u8 d_21, .int .i64 d_22, .int .u8 d_23, .string d_24, .slice d_25_a d_25_n d_25_c, .int .i64 d_26, .int .u8 d_27, .int .u8 d_28, .int .u8 d_29, .int .i64 d_30, .int .u8 d_31, .string d_32, .slice d_33_a d_33_n d_33_c, .int .i64 d_34, .int .i64 d_35] 89 (0, 0))) (fun k o t n f s a l c q => .agg #[.int .u8 k, .int .u8 o, .int .u8 t, .int .i64 n, .int .u8 f, .string s, .slice a l c, .int .i64 q]) (.int .i64) .slice .bool d_0 d_1 d_2 d_3 d_4 d_5 d_6 d_7 d_8 d_9_a d_9_n d_9_c d_10 d_11 d_12 d_13 d_14 d_15 d_16 d_17_a d_17_n d_17_c d_18 d_19 d_20 d_21 d_22 d_23 d_24 d_25_a d_25_n d_25_c d_26 d_27 d_28 d_29 d_30 d_31 d_32 d_33_a d_33_n d_33_c d_34 d_35 I F Q Inv6 Inv14 Inv24) : Tri P 113 #[.agg #[.int .u8 d_0, .int .u8 d_1, .string d_2, .int .u8 d_3, .int .u8 d_4, .int .u8 d_5, .int .i64 d_6, .int .u8 d_7, .string d_8, .slice d_9_a d_9_n d_9_c, .int .i64 d_10, .int .u8 d_11, .int .u8 d_12, .int .u8 d_13, .int .i64 d_14, .int .u8 d_15, .string d_16, .slice d_17_a d_17_n d_17_c, .int .i64 d_18, .int .u8 d_19, .int .u8 d_20, .int .u8 d_21, .int .i64 d_22, .int .u8 d_23, .string d_24, .slice d_25_a d_25_n d_25_c, .int .i64 d_26, .int .u8 d_27, .int .u8 d_28, .int .u8 d_29, .int .i64 d_30, .int .u8 d_31, .string d_32, .slice d_33_a d_33_n d_33_c, .int .i64 d_34, .int .i64 d_35]] I (F) Q :=
  tv (A := (annL [3002, 3006, 5000, 5004, 5008, 5013, 5017, 8002, 8006, 8011, 8014, 8017, 8023, 11000, 12000, 12004] [] [73, 120, 121] shT_ta [(6, ⟨[(2, (.int .i64))], [], fun _ _ _ vs m I F => match vs with | [.int _ y0] => Inv6 y0 I F | _ => False, [], []⟩), (14, ⟨[(2, (.int .i64))], [], fun _ _ _ vs m I F => match vs with | [.int _ y0] => Inv14 y0 I F | _ => False, [], []⟩), (24, ⟨[(2, (.int .i64))], [], fun _ _ _ vs m I F => match vs with | [.int _ y0] => Inv24 y0 I F | _ => False, [], []⟩)] [14004] [] [] [] [] [])) (args := [.a (.v (.agg #[.int .u8 d_0, .int .u8 d_1, .string d_2, .int .u8 d_3, .int .u8 d_4, .int .u8 d_5, .int .i64 d_6, .int .u8 d_7, .string d_8, .slice d_9_a d_9_n d_9_c, .int .i64 d_10, .int .u8 d_11, .int .u8 d_12, .int .u8 d_13, .int .i64 d_14, .int .u8 d_15, .string d_16, .slice d_17_a d_17_n d_17_c, .int .i64 d_18, .int .u8 d_19, .int .u8 d_20, .int .u8 d_21, .int .i64 d_22, .int .u8 d_23, .string d_24, .slice d_25_a d_25_n d_25_c, .int .i64 d_26, .int .u8 d_27, .int .u8 d_28, .int .u8 d_29, .int .i64 d_30, .int .u8 d_31, .string d_32, .slice d_33_a d_33_n d_33_c, .int .i64 d_34, .int .i64 d_35]))]) (own := []) (keep := []) [73, 120, 121] Go.Proofs.Tryz.func113 h
def ref12_first.V (vi : Int → Value) (b : OA) (a d : Nat) (I : Imm) (F : Heap) (Q : PostQ) (Inv6 : Int → Int → Nat → Imm → Heap → Prop) : Prop := (∃ m : Nat, Inv6 0 0 m I F) ∧ ∀ (x i : Int) (m1 : Nat) (I1 : Imm) (F1 : Heap), Imm.le I I1 → Inv6 x i m1 I1 F1 → ((decide (i < ((a : Nat) : Int)) = true → ((0 ≤ i ∧ i < (a : Int)) ∧ ∃ ad : Addr, b = some ad ∧ ∃ (m2 : Int), Rd I1 (F1) (ad.add (Int.toNat (i) * 1)) [vi m2] ∧ (((m2 != 0) = true → ((0 ≤ i ∧ i < (a : Int)) ∧ ∃ c : Addr, b = some c ∧ ∃ (m3 : Int), Rd I1 (F1) (c.add (Int.toNat (i) * 1)) [vi m3] ∧ Q (.returned (vi m3)) I1 (F1))) ∧ ((m2 != 0) = false → (∃ m4 : Nat, m4 < m1 ∧ Inv6 x (IntKind.wrap .i64 (i + 1)) m4 I1 F1))))) ∧ (decide (i < ((a : Nat) : Int)) = false → Q (.returned (vi 0)) I1 (F1)))
theorem ref12_first.vc {l_a : OA} {l_n l_c : Nat} {I : Imm} {F : Heap} {Q : PostQ} (Inv6 : Int → Int → Nat → Imm → Heap → Prop) (h : ref12_first.V (.int .i64) l_a l_n l_c I F Q Inv6) : Tri P 121 #[.slice l_a l_n l_c] I (F) Q :=
  tv (A := (annL [2003, 4004] [] [] shT_ta [(6, ⟨[(2, (.int .i64)), (3, (.int .i64))], [], fun _ _ _ vs m I F => match vs with | [.int _ y0, .int _ y1] => Inv6 y0 y1 m I F | _ => False, [], []⟩)] [] [] [] [] [] [])) (args := [.a (.v (.slice l_a l_n l_c))]) (own := []) (keep := []) [] Go.Proofs.Tryz.func121 h
def ref12_part.V (a : Nat → Nat × Obj) (nV : Int → Int → Int → Int → Int → Bs → OA → Nat → Nat → Int → Value) (vi : Int → Value) (b : Bool) (g h i j k : Int) (l : Bs) (c : OA) (d e : Nat) (m : Int) (I : Imm) (F : Heap) (Q : PostQ)  : Prop := ∀ f : Nat, ((b = true → Tri P 112 (#[nV g h i j k l c d e m]) I ((a f) :: F) fun e1 I1 G1 => ∃ (r : Int), e1 = .returned (vi r) ∧ ∃ F1 : Heap, List.Perm G1 ((a f) :: F1) ∧ Q (.returned (vi r)) I1 (F1)) ∧ (b = false → Tri P 127 (#[nV g h i j k l c d e m]) I ((a f) :: F) fun e2 I2 G2 => ∃ (r1 : Bool), e2 = .returned (.bool r1) ∧ ∃ F2 : Heap, List.Perm G2 ((a f) :: F2) ∧ (((!r1) = true → Q (.returned (vi 120)) I2 (F2)) ∧ ((!r1) = false → Q (.returned (vi 0)) I2 (F2)))))
theorem ref12_part.vc {named : Bool} {n_0 n_1 n_2 n_3 n_4 : Int} {n_5 : Bs} {n_6_a : OA} {n_6_n n_6_c : Nat} {n_7 : Int} {I : Imm} {F : Heap} {Q : PostQ}  (h : ref12_part.V (fun b => (b, Obj.cells #[.int .u8 n_0, .int .u8 n_1, .int .u8 n_2, .int .i64 n_3, .int .u8 n_4, .string n_5, .slice n_6_a n_6_n n_6_c, .int .i64 n_7] 55 (0, 0))) (fun k o t n f s a l c q => .agg #[.int .u8 k, .int .u8 o, .int .u8 t, .int .i64 n, .int .u8 f, .string s, .slice a l c, .int .i64 q]) (.int .i64) named n_0 n_1 n_2 n_3 n_4 n_5 n_6_a n_6_n n_6_c n_7 I F Q) : Tri P 120 #[.bool named, .agg #[.int .u8 n_0, .int .u8 n_1, .int .u8 n_2, .int .i64 n_3, .int .u8 n_4, .string n_5, .slice n_6_a n_6_n n_6_c, .int .i64 n_7]] I (F) Q :=
  tv (A := (annL [1000, 4001] [] [112, 127] shT_ta [] [] [] [] [] [] [])) (args := [.a (.v (.bool named)), .a (.v (.agg #[.int .u8 n_0, .int .u8 n_1, .int .u8 n_2, .int .i64 n_3, .int .u8 n_4, .string n_5, .slice n_6_a n_6_n n_6_c, .int .i64 n_7]))]) (own := []) (keep := []) [112, 127] Go.Proofs.Tryz.func120 h
def ref12_none.V (nO : Int → Int → Int → Int → Int → Bs → OA → Nat → Nat → Int → Obj) (vb : Int → Value) (vt : Bool → Value) (d e f g h : Int) (i : Bs) (b : OA) (a c : Nat) (j : Int) (I : Imm) (F : Heap) (Q : PostQ)  : Prop := ∀ k : Nat, (((d == 0) = true → Tri P 125 (#[.agg #[vb d, vb e, vb f, .int .i64 g, vb h, .string i, .slice b a c, .int .i64 j]]) I ((k, nO d e f g h i b a c j) :: F) fun e1 I1 G1 => ∃ (r : Bool), e1 = .returned (vt r) ∧ ∃ F1 : Heap, List.Perm G1 ((k, nO d e f g h i b a c j) :: F1) ∧ ((r = true → Q (.returned (vt (((a : Nat) : Int) == 0))) I1 (F1)) ∧ (r = false → Q (.returned (vt false)) I1 (F1)))) ∧ ((d == 0) = false → Q (.returned (vt false)) I (F)))
theorem ref12_none.vc {n_0 n_1 n_2 n_3 n_4 : Int} {n_5 : Bs} {n_6_a : OA} {n_6_n n_6_c : Nat} {n_7 : Int} {I : Imm} {F : Heap} {Q : PostQ}  (h : ref12_none.V (fun k o t n f s a l c q => .cells #[.int .u8 k, .int .u8 o, .int .u8 t, .int .i64 n, .int .u8 f, .string s, .slice a l c, .int .i64 q] 55 (0, 0)) (.int .u8) .bool n_0 n_1 n_2 n_3 n_4 n_5 n_6_a n_6_n n_6_c n_7 I F Q) : Tri P 127 #[.agg #[.int .u8 n_0, .int .u8 n_1, .int .u8 n_2, .int .i64 n_3, .int .u8 n_4, .string n_5, .slice n_6_a n_6_n n_6_c, .int .i64 n_7]] I (F) Q :=
  tv (A := (annL [1002, 1005] [] [125] shT_ta [] [] [] [] [] [] [])) (args := [.a (.v (.agg #[.int .u8 n_0, .int .u8 n_1, .int .u8 n_2, .int .i64 n_3, .int .u8 n_4, .string n_5, .slice n_6_a n_6_n n_6_c, .int .i64 n_7]))]) (own := []) (keep := []) [125] Go.Proofs.Tryz.func127 h
def ref12_begins.V (b : Nat → Nat × Obj) (nV : Int → Int → Int → Int → Int → Bs → OA → Nat → Nat → Int → Value) (nO : Int → Int → Int → Int → Int → Bs → OA → Nat → Nat → Int → Obj) (vb : Int → Value) (vt : Bool → Value) (c g l m n : Int) (o : Bs) (d : OA) (a f : Nat) (p : Int) (I : Imm) (F : Heap) (Q : PostQ)  : Prop := ∀ e : Nat, (((c == 5) = true → (((g == 1) = true → (((((a : Nat) : Int) == 1) = true → ((0 ≤ (0 : Int) ∧ (0 : Int) < (a : Int)) ∧ ∃ ad : Addr, d = some ad ∧ ∃ (k s q t u : Int) (v : Bs) (h : OA) (i j : Nat) (w : Int), Rd I ((b e) :: F) (ad.add (Int.toNat (0) * 8)) [vb k, vb s, vb q, .int .i64 t, vb u, .string v, .slice h i j, .int .i64 w] ∧ ∀ x : Nat, Tri P 111 (#[nV c g l m n o d a f p]) I ((b e) :: (x, nO k s q t u v h i j w) :: F) fun e1 I1 G1 => ∃ (r : Bool), e1 = .returned (vt r) ∧ ∃ F1 : Heap, List.Perm G1 ((b e) :: (x, nO k s q t u v h i j w) :: F1) ∧ ((r = true → (((k == 1) = true → Q (.returned (vt (decide (q ≤ 4)))) I1 (F1)) ∧ ((k == 1) = false → Q (.returned (vt false)) I1 (F1)))) ∧ (r = false → Q (.returned (vt false)) I1 (F1))))) ∧ ((((a : Nat) : Int) == 1) = false → Tri P 111 (#[nV c g l m n o d a f p]) I ((b e) :: F) fun e2 I2 G2 => ∃ (r1 : Bool), e2 = .returned (vt r1) ∧ ∃ F2 : Heap, List.Perm G2 ((b e) :: F2) ∧ ((r1 = true → Q (.returned (vt (c == 1))) I2 (F2)) ∧ (r1 = false → Q (.returned (vt false)) I2 (F2)))))) ∧ ((g == 1) = false → Tri P 111 (#[nV c g l m n o d a f p]) I ((b e) :: F) fun e3 I3 G3 => ∃ (r2 : Bool), e3 = .returned (vt r2) ∧ ∃ F3 : Heap, List.Perm G3 ((b e) :: F3) ∧ ((r2 = true → Q (.returned (vt (c == 1))) I3 (F3)) ∧ (r2 = false → Q (.returned (vt false)) I3 (F3)))))) ∧ ((c == 5) = false → Tri P 111 (#[nV c g l m n o d a f p]) I ((b e) :: F) fun e4 I4 G4 => ∃ (r3 : Bool), e4 = .returned (vt r3) ∧ ∃ F4 : Heap, List.Perm G4 ((b e) :: F4) ∧ ((r3 = true → Q (.returned (vt (c == 1))) I4 (F4)) ∧ (r3 = false → Q (.returned (vt false)) I4 (F4)))))
theorem ref12_begins.vc {n_0 n_1 n_2 n_3 n_4 : Int} {n_5 : Bs} {n_6_a : OA} {n_6_n n_6_c : Nat} {n_7 : Int} {I : Imm} {F : Heap} {Q : PostQ}  (h : ref12_begins.V (fun b => (b, Obj.cells #[.int .u8 n_0, .int .u8 n_1, .int .u8 n_2, .int .i64 n_3, .int .u8 n_4, .string n_5, .slice n_6_a n_6_n n_6_c, .int .i64 n_7] 55 (0, 0))) (fun k o t n f s a l c q => .agg #[.int .u8 k, .int .u8 o, .int .u8 t, .int .i64 n, .int .u8 f, .string s, .slice a l c, .int .i64 q]) (fun k o t n f s a l c q => .cells #[.int .u8 k, .int .u8 o, .int .u8 t, .int .i64 n, .int .u8 f, .string s, .slice a l c, .int .i64 q] 55 (0, 0)) (.int .u8) .bool n_0 n_1 n_2 n_3 n_4 n_5 n_6_a n_6_n n_6_c n_7 I F Q) : Tri P 99 #[.agg #[.int .u8 n_0, .int .u8 n_1, .int .u8 n_2, .int .i64 n_3, .int .u8 n_4, .string n_5, .slice n_6_a n_6_n n_6_c, .int .i64 n_7]] I (F) Q :=
  tv (A := (annL [1002, 1006, 1012, 3001, 3005, 4001] [] [111] shT_ta [] [] [] [] [] [] [])) (args := [.a (.v (.agg #[.int .u8 n_0, .int .u8 n_1, .int .u8 n_2, .int .i64 n_3, .int .u8 n_4, .string n_5, .slice n_6_a n_6_n n_6_c, .int .i64 n_7]))]) (own := []) (keep := []) [111] Go.Proofs.Tryz.func99 h
end Go.Lx
namespace Go.Lx
open Go.Vc
theorem rnone_spec (t : Nd) (I : Imm) (F : Heap) : Tri P 127 #[t.v] I F (Ret (.bool t.px.noneB) F) := by
  refine ref12_none.vc ?_
  unfold ref12_none.V
  intro b_n
  have hdef : t.px.noneB = (t.kind == 0 && (zB t.oper t.typ t.n t.field t.name && decide (t.kids.length = 0))) := by
    unfold Px.noneB zB
    rw [Nd.px_kind, Nd.px_oper, Nd.px_typ, Nd.px_n, Nd.px_field, Nd.px_name, Nd.px_kids, List.length_map, empty_list]
    simp only [Bool.and_assoc]
  rw [hdef]
  refine ⟨fun h => Tri.ret (zero_spec _ _ _ _ _ _ _ _ _ _ I _) fun I1 l1 => ⟨_, rfl, F, .refl _, fun h2 => ⟨?_, rfl⟩, fun h2 => ⟨?_, rfl⟩⟩, fun h => ⟨?_, rfl⟩⟩
  · rw [h, h2]
    simp only [Bool.true_and]
    have : (((t.kids.length : Nat) : Int) == 0) = decide (t.kids.length = 0) := by
      rw [Bool.eq_iff_iff]; simp
    rw [this]
  · rw [h, h2]; rfl
  · rw [h]; rfl
theorem rpart_spec (q : Bool) (t : Nd) (hs : t.px.size ≤ 1048576) (I : Imm) (F : Heap) (ht : NdOk I F t) : Tri P 120 #[.bool q, t.v] I F (Ret (.int .i64 (partE q t.px)) F) := by
  refine ref12_part.vc ?_
  unfold ref12_part.V
  intro b_n
  unfold partE
  refine ⟨fun h => Tri.ret (rCheckExpr_spec t hs I _ ht.cons) fun I1 l1 => ⟨_, rfl, F, .refl _, ?_, rfl⟩, fun h => Tri.ret (rnone_spec t I _) fun I1 l1 => ⟨_, rfl, F, .refl _, fun h2 => ⟨?_, rfl⟩, fun h2 => ⟨?_, rfl⟩⟩⟩
  · subst h; rfl
  · subst h; rw [not_f h2]; rfl
  · subst h; rw [not_t h2]; rfl
theorem first_spec {a : Option Addr} {c : Nat} {l : List Int} (I : Imm) (F : Heap) (hl : l.length ≤ 1000000) (ha : SlG I F 1 (fun x => [Value.int .i64 x]) a l.length l) : Tri P 121 #[.slice a l.length c] I F (Ret (.int .i64 (firstE id l)) F) := by
  refine ref12_first.vc (fun x i m I' F' => F' = F ∧ 0 ≤ i ∧ i ≤ l.length ∧ m = (l.length - i).toNat ∧ Imm.le I I' ∧ firstE id l = firstE id (l.drop i.toNat)) ?_
  unfold ref12_first.V
  refine ⟨⟨_, rfl, by omega, by omega, rfl, Imm.le_refl I, rfl⟩, fun x i m I1 F1 _ ⟨gF, g0, g1, gm, l1, ge⟩ => ?_⟩
  subst gF
  refine ⟨fun hlt => ?_, fun hlt => ⟨?_, rfl⟩⟩
  · have hlt := of_decide_eq_true hlt
    obtain ⟨ad, x, had, hx, hrd, hxm⟩ := SlG.atm (ha.mono l1 fun _ h => h) g0 hlt
    refine ⟨⟨g0, hlt⟩, ad, had, x, hrd, fun h => ⟨⟨g0, hlt⟩, ad, had, x, hrd, ?_, rfl⟩, fun h => ⟨(l.length - (i + 1)).toNat, by omega, rfl, ?_⟩⟩
    · have hne : x ≠ 0 := by simpa using h
      rw [ge, firstE_take id hx]
      show _ = Ending.returned (.int .i64 (thenE x _))
      rw [thenE_ne hne]
    · rw [w64 (n := i + 1) (by omega)]
      have he : x = 0 := by simpa using h
      refine ⟨by omega, by omega, rfl, l1, ?_⟩
      rw [ge, firstE_take id hx, show (i + 1).toNat = i.toNat + 1 by omega]
      show thenE x _ = _
      rw [he, thenE_zero]
  · have hlt := of_decide_eq_false hlt
    rw [ge, List.drop_eq_nil_of_le (by omega)]; rfl
theorem rdo_spec (d : DoN) (hs : Small d.p.nds) (I : Imm) (F : Heap) (hd : d.Ok I F) : Tri P 113 #[d.v] I F (Ret (.int .i64 d.p.check) F) := by
  simp only [Small, DoP.nds, DoN.p, List.mem_cons, List.not_mem_nil, or_false] at hs
  have z1 := hs _ (.inl rfl)
  have z2 := hs _ (.inr (.inl rfl))
  have z3 := hs _ (.inr (.inr (.inl rfl)))
  have z4 := hs _ (.inr (.inr (.inr rfl)))
  have hdef : d.p.check = thenE (errB d.p.kindB 120) (thenE (errB d.p.orderB 120) (thenE (errB d.p.nameB 120) (thenE (partE (decide (d.kind = 1)) d.side.px) (thenE (partE (decide (d.kind = 1 ∨ d.kind = 2)) d.qty.px)
    (thenE (partE (decide (d.kind = 1 ∧ d.order ≠ 2 ∨ d.kind = 2)) d.price.px) (partE (decide (d.kind = 4)) d.value.px)))))) := rfl
  have kdef : d.p.kindB = decide (1 ≤ d.kind ∧ d.kind ≤ 6) := rfl
  have odef : d.p.orderB = decide (d.kind = 1 ∧ 1 ≤ d.order ∧ d.order ≤ 5 ∨ d.kind ≠ 1 ∧ d.order = 0) := rfl
  have ndef : d.p.nameB = if d.kind = 6 then d.name.toList == [] else if d.kind ≠ 1 ∨ d.name.toList ≠ [] then nameB d.name else true := rfl
  refine ref12_do.vc (fun x I' F' => F' = F ∧ Imm.le I I' ∧ d.p.kindB = true) (fun x I' F' => F' = F ∧ Imm.le I I' ∧ d.p.kindB = true ∧ d.p.orderB = true) (fun x I' F' => F' = F ∧ Imm.le I I' ∧ d.p.kindB = true ∧ d.p.orderB = true ∧ d.p.nameB = true) ?_
  unfold ref12_do.V
  intro b_d
  have ok : ∀ {J : Imm}, Imm.le I J → d.Ok J ((b_d, Obj.cells #[.int .u8 d.kind, .int .u8 d.order, .string d.name, .int .u8 d.side.kind, .int .u8 d.side.oper, .int .u8 d.side.typ, .int .i64 d.side.n, .int .u8 d.side.field, .string d.side.name, .slice d.side.a d.side.kids.length d.side.c, .int .i64 d.side.pos, .int .u8 d.qty.kind, .int .u8 d.qty.oper, .int .u8 d.qty.typ, .int .i64 d.qty.n, .int .u8 d.qty.field, .string d.qty.name, .slice d.qty.a d.qty.kids.length d.qty.c, .int .i64 d.qty.pos, .int .u8 d.price.kind, .int .u8 d.price.oper, .int .u8 d.price.typ, .int .i64 d.price.n, .int .u8 d.price.field, .string d.price.name, .slice d.price.a d.price.kids.length d.price.c, .int .i64 d.price.pos, .int .u8 d.value.kind, .int .u8 d.value.oper, .int .u8 d.value.typ, .int .i64 d.value.n, .int .u8 d.value.field, .string d.value.name, .slice d.value.a d.value.kids.length d.value.c, .int .i64 d.value.pos, .int .i64 d.pos] 89 (0, 0)) :: F) := fun hl => (hd.mono hl fun _ h => h).cons
  have hk : d.p.kindB = false → Ending.returned (.int .i64 120) = .returned (.int .i64 d.p.check) := fun h => by rw [hdef, h]; rfl
  have ho : d.p.kindB = true → d.p.orderB = false → Ending.returned (.int .i64 120) = .returned (.int .i64 d.p.check) := fun h h' => by rw [hdef, h, h']; rfl
  have hn : d.p.kindB = true → d.p.orderB = true → d.p.nameB = false → Ending.returned (.int .i64 120) = .returned (.int .i64 d.p.check) := fun h h' h2 => by rw [hdef, h, h', h2]; rfl
  rw [empty_list]
  refine ⟨⟨fun h1 => ⟨hk (by rw [kdef]; simp only [decide_eq_true_eq] at h1; exact decide_eq_false (by omega)), rfl⟩, fun h1 => ⟨fun h2 => ⟨hk (by rw [kdef]; simp only [decide_eq_true_eq] at h2; exact decide_eq_false (by omega)), rfl⟩, fun h2 => ⟨rfl, Imm.le_refl I, by rw [kdef]; simp only [decide_eq_false_iff_not] at h1 h2; exact decide_eq_true (by omega)⟩⟩⟩, fun x I1 F1 _ ⟨gF, l1, k1⟩ => ?_⟩
  subst gF
  refine ⟨⟨fun h1 => ⟨fun h2 => ⟨ho k1 ?_, rfl⟩, fun h2 => ⟨fun h3 => ⟨ho k1 ?_, rfl⟩, fun h3 => ⟨fun h4 => ⟨fun h5 => ⟨ho k1 ?_, rfl⟩, fun h5 => ⟨rfl, l1, k1, ?_⟩⟩, fun h4 => ⟨rfl, l1, k1, ?_⟩⟩⟩⟩, fun h1 => ⟨fun h4 => ⟨fun h5 => ⟨ho k1 ?_, rfl⟩, fun h5 => ⟨rfl, l1, k1, ?_⟩⟩, fun h4 => ⟨rfl, l1, k1, ?_⟩⟩⟩, fun x1 I2 F2 _ ⟨gF, l2, k2, o2⟩ => ?_⟩
  · rw [odef]; simp only [decide_eq_true_eq, beq_iff_eq] at h1 h2; exact decide_eq_false (by omega)
  · rw [odef]; simp only [decide_eq_true_eq, beq_iff_eq] at h1 h3; exact decide_eq_false (by omega)
  · rw [h1] at h4; cases h4
  · rw [h1] at h4; cases h4
  · rw [odef]; simp only [decide_eq_false_iff_not, beq_iff_eq] at h1 h2 h3; exact decide_eq_true (by omega)
  · rw [odef]; simp only [beq_eq_false_iff_ne, bne_iff_ne, ne_eq] at h1 h5; exact decide_eq_false (by omega)
  · rw [odef]; simp only [beq_eq_false_iff_ne, bne_eq_false_iff_eq, ne_eq] at h1 h5; exact decide_eq_true (by omega)
  · rw [h1] at h4; cases h4
  subst gF
  refine Tri.ret (rName_spec I2 _) fun I3 l3 => ⟨_, rfl, F2, .refl _, ?_⟩
  have l23 := Imm.le_trans l2 l3
  refine ⟨⟨fun h1 => ⟨fun h2 => ⟨hn k2 o2 ?_, rfl⟩, fun h2 => ⟨fun h3 => ?_, fun h3 => ⟨rfl, l23, k2, o2, ?_⟩⟩⟩, fun h1 => ⟨fun h3 => ⟨fun h4 => ⟨fun h5 => ⟨fun h6 => ⟨hn k2 o2 ?_, rfl⟩, fun h6 => ⟨rfl, l23, k2, o2, ?_⟩⟩, fun h5 => ⟨fun h6 => ⟨hn k2 o2 ?_, rfl⟩, fun h6 => by cases h6⟩⟩, fun h4 => ⟨rfl, l23, k2, o2, ?_⟩⟩, fun h3 => ?_⟩⟩, fun x2 I4 F4 _ ⟨gF, l4, k4, o4, n4⟩ => ?_⟩
  · rw [ndef, if_pos (by simpa using h1)]; exact not_f h2
  · have e1 : d.kind = 6 := by simpa using h1
    have e2 : d.kind ≠ 6 := by simpa using h3
    exact absurd e1 e2
  · rw [ndef, if_pos (by simpa using h1)]; exact not_t h2
  · rw [ndef, if_neg (by simpa using h1), if_pos (.inr (by simpa using h6))]; exact not_f h4
  · have e1 : d.kind = 1 := by simpa using h5
    have e2 : d.name.toList = [] := by simpa using h6
    rw [ndef, if_neg (by simpa using h1), if_neg (fun h => h.elim (fun h => h e1) fun h => h e2)]
  · have e1 : d.kind ≠ 1 := by simpa using h5
    rw [ndef, if_neg (by simpa using h1), if_pos (.inl e1)]; exact not_f h4
  · rw [ndef, if_neg (by simpa using h1)]
    split
    · exact not_t h4
    · rfl
  · have e1 : d.kind ≠ 6 := by simpa using h1
    have e2 : d.kind = 6 := by simpa using h3
    exact absurd e2 e1
  subst gF
  have hb : ∀ a b : Int, (a == b) = decide (a = b) := fun a b => by rw [Bool.eq_iff_iff]; simp
  rw [hb, hb]
  have hT : d.p.check = thenE (partE (decide (d.kind = 1)) d.side.px) (thenE (partE (decide (d.kind = 1 ∨ d.kind = 2)) d.qty.px) (thenE (partE (decide (d.kind = 1 ∧ d.order ≠ 2 ∨ d.kind = 2)) d.price.px) (partE (decide (d.kind = 4)) d.value.px))) := by
    rw [hdef, k4, o4, n4]; rfl
  have thz : ∀ a : Int, thenE a 0 = a := fun a => by
    unfold thenE
    by_cases h : a = 0
    · rw [if_pos h, h]
    · rw [if_neg h]
  have fin : ∀ (q2 q3 : Bool), q2 = decide (d.kind = 1 ∨ d.kind = 2) → q3 = decide (d.kind = 1 ∧ d.order ≠ 2 ∨ d.kind = 2) → ∀ (J : Imm) (G : Heap) (b : Nat), J b = some (.cells #[.int .i64 (partE (decide (d.kind = 1)) d.side.px), .int .i64 (partE q2 d.qty.px), .int .i64 (partE q3 d.price.px), .int .i64 (partE (decide (d.kind = 4)) d.value.px)] 30 (0, 0)) →
      Tri P 121 #[.slice (some ⟨b, 0, none⟩) 4 4] J G (Ret (.int .i64 d.p.check) G) := fun q2 q3 e2 e3 J G b hb => by
    have := first_spec (a := some ⟨b, 0, none⟩) (c := 4) (l := [partE (decide (d.kind = 1)) d.side.px, partE q2 d.qty.px, partE q3 d.price.px, partE (decide (d.kind = 4)) d.value.px]) J G (by show 4 ≤ 1000000; decide) ⟨rfl, fun _ => ⟨_, rfl, fun i x hx => ?_⟩⟩
    · rw [hT, ← e2, ← e3]
      have e : firstE id [partE (decide (d.kind = 1)) d.side.px, partE q2 d.qty.px, partE q3 d.price.px, partE (decide (d.kind = 4)) d.value.px] = thenE (partE (decide (d.kind = 1)) d.side.px) (thenE (partE q2 d.qty.px) (thenE (partE q3 d.price.px) (partE (decide (d.kind = 4)) d.value.px))) := by
        show thenE _ (thenE _ (thenE _ (thenE _ 0))) = _
        rw [thz]; rfl
      rw [← e]; exact this
    · rw [add_lit0]
      refine Rd.of_imm hb _ _ fun j hj => ?_
      obtain rfl : j = 0 := by simpa using hj
      rw [Nat.add_zero, Nat.mul_one]
      have hi : i < 4 := (List.getElem?_eq_some_iff.1 hx).1
      have : i = 0 ∨ i = 1 ∨ i = 2 ∨ i = 3 := by omega
      rcases this with rfl | rfl | rfl | rfl <;> (cases hx; rfl)
  refine Tri.ret (rpart_spec _ d.side z1 I4 _ (ok l4).1) fun I5 h5 => ⟨_, rfl, F4, .refl _, ?_⟩
  have l5 := Imm.le_trans l4 h5
  refine ⟨fun c1 => Tri.ret (rpart_spec _ d.qty z2 I5 _ (ok l5).2.1) fun I6 h6 => ⟨_, rfl, F4, .refl _, ?_⟩, fun c1 => Tri.ret (rpart_spec _ d.qty z2 I5 _ (ok l5).2.1) fun I6 h6 => ⟨_, rfl, F4, .refl _, ?_⟩⟩
  · have l6 := Imm.le_trans l5 h6
    have c1' := of_decide_eq_true c1
    refine ⟨fun c2 => ⟨fun c3 => ?_, fun c3 => ?_⟩, fun c2 => ?_⟩
    · have c2' := of_decide_eq_true c2
      have c3' : d.order ≠ 2 := by simpa using c3
      exact Tri.ret (rpart_spec _ d.price z3 I6 _ (ok l6).2.2.1) fun I7 h7 => ⟨_, rfl, F4, .refl _, Tri.ret (rpart_spec _ d.value z4 I7 _ (ok (Imm.le_trans l6 h7)).2.2.2) fun I8 h8 => ⟨_, rfl, F4, .refl _, fun b I9 h9 hb9 => Tri.ret (fin _ _ (decide_eq_true (by omega)).symm (decide_eq_true (by omega)).symm I9 _ b hb9) fun I10 _ => ⟨_, rfl, F4, .refl _, rfl, rfl⟩⟩⟩
    · have c2' := of_decide_eq_true c2
      have c3' : d.order = 2 := by simpa using c3
      exact Tri.ret (rpart_spec _ d.price z3 I6 _ (ok l6).2.2.1) fun I7 h7 => ⟨_, rfl, F4, .refl _, Tri.ret (rpart_spec _ d.value z4 I7 _ (ok (Imm.le_trans l6 h7)).2.2.2) fun I8 h8 => ⟨_, rfl, F4, .refl _, fun b I9 h9 hb9 => Tri.ret (fin _ _ (decide_eq_true (by omega)).symm (by rw [hb]; exact decide_eq_decide.2 (by omega)) I9 _ b hb9) fun I10 _ => ⟨_, rfl, F4, .refl _, rfl, rfl⟩⟩⟩
    · have c2' := of_decide_eq_false c2
      exact Tri.ret (rpart_spec _ d.price z3 I6 _ (ok l6).2.2.1) fun I7 h7 => ⟨_, rfl, F4, .refl _, Tri.ret (rpart_spec _ d.value z4 I7 _ (ok (Imm.le_trans l6 h7)).2.2.2) fun I8 h8 => ⟨_, rfl, F4, .refl _, fun b I9 h9 hb9 => Tri.ret (fin _ _ (decide_eq_true (by omega)).symm (by rw [hb]; exact decide_eq_decide.2 (by omega)) I9 _ b hb9) fun I10 _ => ⟨_, rfl, F4, .refl _, rfl, rfl⟩⟩⟩
  · have l6 := Imm.le_trans l5 h6
    have c1' := of_decide_eq_false c1
    refine ⟨fun c2 => ⟨fun c3 => ?_, fun c3 => ?_⟩, fun c2 => ?_⟩
    · have c2' := of_decide_eq_true c2
      have c3' : d.order ≠ 2 := by simpa using c3
      exact Tri.ret (rpart_spec _ d.price z3 I6 _ (ok l6).2.2.1) fun I7 h7 => ⟨_, rfl, F4, .refl _, Tri.ret (rpart_spec _ d.value z4 I7 _ (ok (Imm.le_trans l6 h7)).2.2.2) fun I8 h8 => ⟨_, rfl, F4, .refl _, fun b I9 h9 hb9 => Tri.ret (fin _ _ (by rw [hb]; exact decide_eq_decide.2 (by omega)) (decide_eq_true (by omega)).symm I9 _ b hb9) fun I10 _ => ⟨_, rfl, F4, .refl _, rfl, rfl⟩⟩⟩
    · have c2' := of_decide_eq_true c2
      have c3' : d.order = 2 := by simpa using c3
      exact Tri.ret (rpart_spec _ d.price z3 I6 _ (ok l6).2.2.1) fun I7 h7 => ⟨_, rfl, F4, .refl _, Tri.ret (rpart_spec _ d.value z4 I7 _ (ok (Imm.le_trans l6 h7)).2.2.2) fun I8 h8 => ⟨_, rfl, F4, .refl _, fun b I9 h9 hb9 => Tri.ret (fin _ _ (by rw [hb]; exact decide_eq_decide.2 (by omega)) (by rw [hb]; exact decide_eq_decide.2 (by omega)) I9 _ b hb9) fun I10 _ => ⟨_, rfl, F4, .refl _, rfl, rfl⟩⟩⟩
    · have c2' := of_decide_eq_false c2
      exact Tri.ret (rpart_spec _ d.price z3 I6 _ (ok l6).2.2.1) fun I7 h7 => ⟨_, rfl, F4, .refl _, Tri.ret (rpart_spec _ d.value z4 I7 _ (ok (Imm.le_trans l6 h7)).2.2.2) fun I8 h8 => ⟨_, rfl, F4, .refl _, fun b I9 h9 hb9 => Tri.ret (fin _ _ (by rw [hb]; exact decide_eq_decide.2 (by omega)) (by rw [hb]; exact decide_eq_decide.2 (by omega)) I9 _ b hb9) fun I10 _ => ⟨_, rfl, F4, .refl _, rfl, rfl⟩⟩⟩
end Go.Lx
