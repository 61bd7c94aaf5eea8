import Derived.Test.YtnomldjkblednaaB4
set_option linter.unusedVariables false
set_option linter.unusedSimpArgs false
namespace Go.Lx
open Go.Vc
theorem Px.ShortP.nodes : ∀ {t : Nd}, t.px.ShortP → ∀ x ∈ t.nodes, x.px.ShortP := by
  refine @(Nd.ind fun t ih h x hx => ?_)
  rw [Nd.nodes_eq] at hx
  rcases List.mem_cons.1 hx with rfl | hx
  · exact h
  · have hL : ∀ l : List Nd, (∀ k ∈ l, ∀ x ∈ k.nodes, x.px.ShortP) → ∀ x ∈ Nd.nodesL l, x.px.ShortP := by
      intro l
      induction l with
      | nil => intro _ x h; rw [Nd.nodesL] at h; cases h
      | cons y r ihl =>
        intro hk x h
        rw [Nd.nodesL] at h
        rcases List.mem_append.1 h with h | h
        · exact hk y (List.mem_cons_self ..) x h
        · exact ihl (fun k hk' => hk k (List.mem_cons_of_mem _ hk')) x h
    exact hL _ (fun k hk => ih k hk (h.kid _ (by rw [Nd.px_kids]; exact List.mem_map_of_mem hk))) x hx
def nA (bn : Nat) (t : Nd) (bm : Nat) (most : Int) (b : Nat) (q : Bool) (bw : Nat) (a : Option Addr) (n c : Nat) (bt : Nat) (f : Value) (bi : Nat) (k : Int) (G : Heap) : Heap :=
  (bn, Obj.cells #[.int .u8 t.kind, .int .u8 t.oper, .int .u8 t.typ, .int .i64 t.n, .int .u8 t.field, .string t.name, .slice t.a t.kids.length t.c, .int .i64 t.pos] 28 (0, 0)) :: (bm, Obj.cells #[.int .i64 most] 3 (0, 0)) :: (b, Obj.cells #[.bool q] 4 (0, 0)) :: (bw, Obj.cells #[.slice a n c] 26 (0, 0)) :: (bt, Obj.cells #[f] 74 (0, 0)) :: (bi, Obj.cells #[.int .i64 k] 3 (0, 0)) :: G
theorem TreeAlls_spec (t : Nd) (most : Int) (hst : t.px.ShortP) (I : Imm) (F : Heap) (ht : NdOk I F t) : Tri P 5 #[t.v, .int .i64 most] I F fun e I' G => e = .returned (.bool true) := by
  refine law12_TreeAlls.vc ?_
  unfold law12_TreeAlls.V
  intro b_n b_most b
  have okt : ∀ {J : Imm} {G : Heap}, Imm.le I J → (∀ a, a ∈ F → a ∈ G) → NdOk J G t := fun hl hs => ht.mono hl hs
  refine Tri.ret (awake_spec I _) fun I1 l1 => ⟨_, rfl, F, .refl _, ?_⟩
  refine Tri.ret (farExpr_spec t hst I1 _ (okt l1 fun a ha => by simp only [List.mem_cons, List.mem_append]; simp only [ha, true_or, or_true])) fun I2 h2 => ⟨_, rfl, F, .refl _, fun h => by (cases h), fun _ => ⟨fun _ => rfl, fun f1 => ?_⟩⟩
  have l2 := Imm.le_trans l1 h2
  have st := far_size f1
  clear f1
  have hlen := nodes_len t
  refine (Nodes_spec t st I2 _ (okt l2 fun a ha => by simp only [List.mem_cons, List.mem_append]; simp only [ha, true_or, or_true])).mono fun e I3 G h3 ⟨wa, wn, wc, A, he, hA, hG⟩ => ⟨wa, wn, wc, he, A ++ F, hG.trans (perm_of fun z => by simp only [cn_app, cn_cons, cn_nil]; omega), fun b_want => ?_⟩
  have l3 := Imm.le_trans l2 h3
  have hwn : wn = t.nodes.length := hA.1
  have wnt : ∀ (J : Imm) (G : Heap), (∀ x, x ∈ A → x ∈ G) → SlG J G 8 Nd.enc wa wn t.nodes := fun J G hs => hA.slg (z := 8) (f := Nd.enc) (fun _ => rfl) J hs
  refine (tAll_spec t I3 _).mono fun e I4 G h4 ⟨bA, he, hbA, hG⟩ => ?_
  subst hG
  have l4 := Imm.le_trans l3 h4
  refine ⟨_, _, _, he, A ++ F, .refl _, fun b_it => ⟨false, func_nil' (by kernel_rfl), fun h => by (cases h), fun _ b_i => ?_⟩⟩
  have hit := tAll_iter st hbA
  obtain ⟨fv, hfv⟩ : ∃ fv, fv = Value.func (.func 77) #[] #[.pointer (some ⟨bA, 0, none⟩)] := ⟨_, rfl⟩
  have mA : ∀ {k : Int} {q : Bool} {G : Heap}, (∀ a, a ∈ A → a ∈ G) → ∀ a, a ∈ A → a ∈ nA b_n t b_most most b q b_want wa wn wc b_it fv b_i k G := fun h a ha => by
    unfold nA
    exact .tail _ (.tail _ (.tail _ (.tail _ (.tail _ (.tail _ (h a ha))))))
  have mF : ∀ {k : Int} {q : Bool} {G : Heap}, (∀ a, a ∈ F → a ∈ G) → ∀ a, a ∈ F → a ∈ nA b_n t b_most most b q b_want wa wn wc b_it fv b_i k G := fun h a ha => by
    unfold nA
    exact .tail _ (.tail _ (.tail _ (.tail _ (.tail _ (.tail _ (h a ha))))))
  intro Y L Lb Lx D hTr
  refine (hit Y #[] #[] (fun k I' G => G.Perm (nA b_n t b_most most b false b_want wa wn wc b_it fv b_i k (L ++ (A ++ F))))
    (fun I' G => G.Perm (nA b_n t b_most most b false b_want wa wn wc b_it fv b_i most (Lx (some 0) ++ (A ++ F))) ∨ ∃ k, G.Perm (nA b_n t b_most most b true b_want wa wn wc b_it fv b_i k (Lx none ++ (A ++ F)))) I4 _ (Imm.le_refl _)
    (fun k I2 I3 F' F'' hp _ hp' => hp'.symm.trans hp) (fun I2 I3 F' F'' hp _ hp' => hp.imp (fun h => hp'.symm.trans h) fun ⟨k, h⟩ => ⟨k, hp'.symm.trans h⟩) ?_ ?_ ?_).mono ?_
  · exact fun k I5 F5 hle hp => okt (Imm.le_trans l4 hle) fun x hx => hp.mem_iff.2 (mF (fun a ha => List.mem_append_right _ (List.mem_append_right _ ha)) x hx)
  · intro k x I5 F5 hk hle hp
    have hlt := (List.getElem?_eq_some_iff.1 hk).1
    have l5 := Imm.le_trans l4 hle
    have hxm : x ∈ t.nodes := List.mem_of_getElem? hk
    subst hfv
    refine TriV.perm (hTr x.kind x.oper x.typ x.n x.field x.name x.a x.kids.length x.c x.pos false k I5 (A ++ F) _ hle ?_) hp
    intro b_x
    refine ⟨A ++ F, .refl _, fun h => absurd (of_decide_eq_true h) (by omega), fun _ => ?_⟩
    obtain ⟨ad, z, had, hz, hrd⟩ := (wnt I5 ((b_n, Obj.cells t.enc.toArray 28 (0, 0)) :: (b_most, Obj.cells #[.int .i64 most] 3 (0, 0)) :: (b, Obj.cells #[.bool false] 4 (0, 0)) :: (b_want, Obj.cells #[.slice wa wn wc] 26 (0, 0)) :: (b_it, Obj.cells #[_] 74 (0, 0)) :: (b_i, Obj.cells #[.int .i64 (k : Int)] 3 (0, 0)) :: (b_x, Obj.cells #[.int .u8 x.kind, .int .u8 x.oper, .int .u8 x.typ, .int .i64 x.n, .int .u8 x.field, .string x.name, .slice x.a x.kids.length x.c, .int .i64 x.pos] 28 (0, 0)) :: (Lb ++ (A ++ F))) fun a ha => by simp only [List.mem_cons, List.mem_append]; simp only [ha, true_or, or_true]).at (i := (k : Int)) (by omega) (by omega)
    obtain rfl : x = z := by rw [show ((k : Int)).toNat = k by omega, hk] at hz; exact Option.some.inj hz
    have hsx : x.px.ShortP := hst.nodes x hxm
    refine ⟨⟨by omega, by omega⟩, ad, had, _, _, _, _, _, _, _, _, _, _, hrd, true, Tri.ret (same_spec x hsx x I5 _ rfl ((okt l5 ?_).nodes x hxm) ((okt l5 ?_).nodes x hxm)) fun _ _ => ⟨rfl, .refl _⟩, fun h => by (cases h), fun _ => ⟨fun h => ?_, fun hk2 => ⟨fun h => ?_, fun h => ?_⟩⟩⟩
    · exact fun a ha => by simp only [List.mem_cons, List.mem_append]; simp only [ha, true_or, or_true]
    · exact fun a ha => by simp only [List.mem_cons, List.mem_append]; simp only [ha, true_or, or_true]
    · exact ⟨A ++ F, .refl _, .inr ⟨rfl, .inr ⟨_, .refl _⟩⟩⟩
    · have hkn : (k : Int) = most := by simpa using h
      exact ⟨A ++ F, .refl _, .inr ⟨rfl, .inl (by rw [← hkn]; exact .refl _)⟩⟩
    · intro b_k
      refine ⟨⟨A ++ F, .refl _⟩, ?_⟩
      intro Y1 L1 Lb1 Lx1 D1 hTr2
      have hnext : ∀ I9, (Went (fun k I' G => G.Perm (nA b_n t b_most most b false b_want wa wn wc b_it (Value.func (.func 77) #[] #[.pointer (some ⟨bA, 0, none⟩)]) b_i k (L ++ (A ++ F))))
          (fun I' G => G.Perm (nA b_n t b_most most b false b_want wa wn wc b_it (Value.func (.func 77) #[] #[.pointer (some ⟨bA, 0, none⟩)]) b_i most (Lx (some 0) ++ (A ++ F))) ∨ ∃ k, G.Perm (nA b_n t b_most most b true b_want wa wn wc b_it (Value.func (.func 77) #[] #[.pointer (some ⟨bA, 0, none⟩)]) b_i k (Lx none ++ (A ++ F)))) (k + 1)) (.returned (.bool true)) I9
            (nA b_n t b_most most b false b_want wa wn wc b_it (Value.func (.func 77) #[] #[.pointer (some ⟨bA, 0, none⟩)]) b_i (IntKind.wrap .i64 ((k : Int) + 1)) (L ++ (A ++ F))) := fun I9 => by
        have : IntKind.wrap .i64 ((k : Int) + 1) = ((k + 1 : Nat) : Int) := by rw [w64 (by omega)]; omega
        rw [this]
        exact .inl ⟨rfl, .refl _⟩
      refine (hit Y1 #[] #[] (fun k2 I' G => G.Perm (nA b_n t b_most most b false b_want wa wn wc b_it (Value.func (.func 77) #[] #[.pointer (some ⟨bA, 0, none⟩)]) b_i k ((b_x, Obj.cells #[.int .u8 x.kind, .int .u8 x.oper, .int .u8 x.typ, .int .i64 x.n, .int .u8 x.field, .string x.name, .slice x.a x.kids.length x.c, .int .i64 x.pos] 28 (0, 0)) :: (b_k, Obj.cells #[.int .i64 (k2 : Int)] 3 (0, 0)) :: (L1 ++ (Lb ++ (A ++ F))))))
        (fun I' G => ∃ k2, G.Perm (nA b_n t b_most most b false b_want wa wn wc b_it (Value.func (.func 77) #[] #[.pointer (some ⟨bA, 0, none⟩)]) b_i k ((b_x, Obj.cells #[.int .u8 x.kind, .int .u8 x.oper, .int .u8 x.typ, .int .i64 x.n, .int .u8 x.field, .string x.name, .slice x.a x.kids.length x.c, .int .i64 x.pos] 28 (0, 0)) :: (b_k, Obj.cells #[.int .i64 k2] 3 (0, 0)) :: (Lx1 (some 2) ++ (Lb ++ (A ++ F)))))) I5 _ hle
        (fun k2 I2 I3 F' F'' hp _ hp' => hp'.symm.trans hp) (fun I2 I3 F' F'' ⟨k, hp⟩ _ hp' => ⟨k, hp'.symm.trans hp⟩) ?_ ?_ (.refl _)).mono ?_
      · exact fun k2 I6 F6 hle6 hp6 => okt (Imm.le_trans l5 hle6) fun y hy => hp6.mem_iff.2 (mF (fun a ha => .tail _ (.tail _ (List.mem_append_right _ (List.mem_append_right _ (List.mem_append_right _ ha))))) y hy)
      · intro k2 y I6 G6 hk2 hle6 hp6
        have hlt2 := (List.getElem?_eq_some_iff.1 hk2).1
        have l6 := Imm.le_trans l5 hle6
        have hym : y ∈ t.nodes := List.mem_of_getElem? hk2
        refine TriV.perm (hTr2 y.kind y.oper y.typ y.n y.field y.name y.a y.kids.length y.c y.pos false k2 I6 (Lb ++ (A ++ F)) _ hle6 ?_) hp6
        intro b_y
        refine ⟨Lb ++ (A ++ F), .refl _, fun _ => ⟨Lb ++ (A ++ F), .refl _, .inr ⟨rfl, _, .refl _⟩⟩, fun _ => ⟨fun _ => ⟨Lb ++ (A ++ F), .refl _, .inr ⟨rfl, _, .refl _⟩⟩, fun _ => ⟨fun h => absurd (of_decide_eq_true h) (by omega), fun _ => ?_⟩⟩⟩
        obtain ⟨ad2, z2, had2, hz2, hrd2⟩ := (wnt I6 ((b_n, Obj.cells t.enc.toArray 28 (0, 0)) :: (b_most, Obj.cells #[.int .i64 most] 3 (0, 0)) :: (b, Obj.cells #[.bool false] 4 (0, 0)) :: (b_want, Obj.cells #[.slice wa wn wc] 26 (0, 0)) :: (b_it, Obj.cells #[_] 74 (0, 0)) :: (b_i, Obj.cells #[.int .i64 (k : Int)] 3 (0, 0)) :: (b_x, Obj.cells #[.int .u8 x.kind, .int .u8 x.oper, .int .u8 x.typ, .int .i64 x.n, .int .u8 x.field, .string x.name, .slice x.a x.kids.length x.c, .int .i64 x.pos] 28 (0, 0)) :: (b_k, Obj.cells #[.int .i64 (k2 : Int)] 3 (0, 0)) :: (b_y, Obj.cells #[.int .u8 y.kind, .int .u8 y.oper, .int .u8 y.typ, .int .i64 y.n, .int .u8 y.field, .string y.name, .slice y.a y.kids.length y.c, .int .i64 y.pos] 28 (0, 0)) :: (Lb1 ++ (Lb ++ (A ++ F)))) fun a ha => by simp only [List.mem_cons, List.mem_append]; simp only [ha, true_or, or_true]).at (i := (k2 : Int)) (by omega) (by omega)
        obtain rfl : y = z2 := by rw [show ((k2 : Int)).toNat = k2 by omega, hk2] at hz2; exact Option.some.inj hz2
        have hsy : y.px.ShortP := hst.nodes y hym
        refine ⟨⟨by omega, by omega⟩, ad2, had2, _, _, _, _, _, _, _, _, _, _, hrd2, true, Tri.ret (same_spec y hsy y I6 _ rfl ((okt l6 ?_).nodes y hym) ((okt l6 ?_).nodes y hym)) fun _ _ => ⟨rfl, .refl _⟩, fun h => by (cases h), fun _ => ⟨Lb ++ (A ++ F), .refl _, .inl ⟨rfl, ?_⟩⟩⟩
        · exact fun a ha => by simp only [List.mem_cons, List.mem_append]; simp only [ha, true_or, or_true]
        · exact fun a ha => by simp only [List.mem_cons, List.mem_append]; simp only [ha, true_or, or_true]
        have : IntKind.wrap .i64 ((k2 : Int) + 1) = ((k2 + 1 : Nat) : Int) := by rw [w64 (by omega)]; omega
        rw [this]; exact .refl _
      · intro e I7 G7 hI7 ⟨r, he, hq⟩
        refine ⟨r, he, ?_⟩
        rcases hq with hp7 | ⟨k2, hp7⟩
        · exact .inl ⟨false, _, Lb ++ (A ++ F), hp7, A ++ F, .refl _, hnext I7⟩
        · exact .inr (.inl ⟨false, k2, Lb ++ (A ++ F), hp7, A ++ F, .refl _, hnext I7⟩)
  · subst hfv; exact .refl _
  · intro e I8 G8 hI8 ⟨r, he, hq⟩
    refine ⟨r, he, ?_⟩
    have l8 := Imm.le_trans l4 hI8
    have hit := hit
    rcases hq with hp | hp | ⟨k, hp⟩
    · refine .inl ⟨false, _, A ++ F, by rw [hfv] at hp; exact hp, fun b_k1 => ?_⟩
      intro Y2 L2 Lb2 Lx2 D2 hTr2
      refine (hit Y2 #[] #[] (fun k2 I' G => G.Perm (nA b_n t b_most most b false b_want wa wn wc b_it fv b_i (t.nodes.length : Int) ((b_k1, Obj.cells #[.int .i64 (k2 : Int)] 3 (0, 0)) :: (L2 ++ ((D, Obj.deferred (some [])) :: (A ++ F))))))
        (fun I' G => ∃ k2, G.Perm (nA b_n t b_most most b true b_want wa wn wc b_it fv b_i (t.nodes.length : Int) ((b_k1, Obj.cells #[.int .i64 k2] 3 (0, 0)) :: (Lx2 none ++ ((D, Obj.deferred (some [])) :: (A ++ F)))))) I8 _ hI8
        (fun k2 I2 I3 F' F'' hp _ hp' => hp'.symm.trans hp) (fun I2 I3 F' F'' ⟨k, hp⟩ _ hp' => ⟨k, hp'.symm.trans hp⟩) ?_ ?_ ?_).mono ?_
      · exact fun k2 I9 F9 hle9 hp9 => okt (Imm.le_trans l8 hle9) fun y hy => hp9.mem_iff.2 (mF (fun a ha => .tail _ (List.mem_append_right _ (.tail _ (List.mem_append_right _ ha)))) y hy)
      · intro k2 y I9 G9 hk2 hle9 hp9
        have hlt2 := (List.getElem?_eq_some_iff.1 hk2).1
        subst hfv
        refine TriV.perm (hTr2 y.kind y.oper y.typ y.n y.field y.name y.a y.kids.length y.c y.pos false k2 I9 ((D, Obj.deferred (some [])) :: (A ++ F)) _ hle9 ?_) hp9
        intro b_x1
        refine ⟨(D, Obj.deferred (some [])) :: (A ++ F), .refl _, fun h => ⟨(D, Obj.deferred (some [])) :: (A ++ F), .refl _, .inr ⟨rfl, k2, ?_⟩⟩, fun _ => ⟨fun h => absurd (of_decide_eq_true h) (by omega), fun _ => ?_⟩⟩
        · rw [h]; exact .refl _
        obtain ⟨ad, z, had, hz, hrd⟩ := (wnt I9 ((b_n, Obj.cells t.enc.toArray 28 (0, 0)) :: (b_most, Obj.cells #[.int .i64 most] 3 (0, 0)) :: (b, Obj.cells #[.bool false] 4 (0, 0)) :: (b_want, Obj.cells #[.slice wa wn wc] 26 (0, 0)) :: (b_it, Obj.cells #[_] 74 (0, 0)) :: (b_i, Obj.cells #[.int .i64 (t.nodes.length : Int)] 3 (0, 0)) :: (b_k1, Obj.cells #[.int .i64 (k2 : Int)] 3 (0, 0)) :: (b_x1, Obj.cells #[.int .u8 y.kind, .int .u8 y.oper, .int .u8 y.typ, .int .i64 y.n, .int .u8 y.field, .string y.name, .slice y.a y.kids.length y.c, .int .i64 y.pos] 28 (0, 0)) :: (Lb2 ++ ((D, Obj.deferred (some [])) :: (A ++ F)))) fun a ha => by simp only [List.mem_cons, List.mem_append]; simp only [ha, true_or, or_true]).at (i := (k2 : Int)) (by omega) (by omega)
        obtain rfl : y = z := by rw [show ((k2 : Int)).toNat = k2 by omega, hk2] at hz; exact Option.some.inj hz
        refine ⟨⟨by omega, by omega⟩, ad, had, y.kind, hrd.field (o := 0) rfl, fun h => by simp at h, fun _ => ⟨(D, Obj.deferred (some [])) :: (A ++ F), .refl _, .inl ⟨rfl, ?_⟩⟩⟩
        have : IntKind.wrap .i64 ((k2 : Int) + 1) = ((k2 + 1 : Nat) : Int) := by rw [w64 (by omega)]; omega
        rw [this]; exact .refl _
      · subst hfv; exact .refl _
      · intro e I10 G10 hI10 ⟨r, he, hq⟩
        refine ⟨r, he, ?_⟩
        subst hfv
        rcases hq with hp | ⟨k2, hp⟩
        · refine .inl ⟨false, _, (D, Obj.deferred (some [])) :: (A ++ F), hp, fun _ => ⟨fun _ => ⟨_, .refl _, _, .refl _, rfl⟩, fun h => ⟨_, .refl _, _, .refl _, by simp [hwn] at h⟩⟩, fun h => ?_⟩
          simp [hwn] at h
        · exact .inr (.inl ⟨true, k2, (D, Obj.deferred (some [])) :: (A ++ F), hp, _, .refl _, _, .refl _, rfl⟩)
    · refine .inr (.inl ⟨false, _, A ++ F, by rw [hfv] at hp; exact hp, fun b_k1 => ?_⟩)
      intro Y2 L2 Lb2 Lx2 D2 hTr2
      refine (hit Y2 #[] #[] (fun k2 I' G => G.Perm (nA b_n t b_most most b false b_want wa wn wc b_it fv b_i most ((b_k1, Obj.cells #[.int .i64 (k2 : Int)] 3 (0, 0)) :: (L2 ++ ((D, Obj.deferred (some [])) :: (A ++ F))))))
        (fun I' G => ∃ k2, G.Perm (nA b_n t b_most most b true b_want wa wn wc b_it fv b_i most ((b_k1, Obj.cells #[.int .i64 k2] 3 (0, 0)) :: (Lx2 none ++ ((D, Obj.deferred (some [])) :: (A ++ F)))))) I8 _ hI8
        (fun k2 I2 I3 F' F'' hp _ hp' => hp'.symm.trans hp) (fun I2 I3 F' F'' ⟨k, hp⟩ _ hp' => ⟨k, hp'.symm.trans hp⟩) ?_ ?_ ?_).mono ?_
      · exact fun k2 I9 F9 hle9 hp9 => okt (Imm.le_trans l8 hle9) fun y hy => hp9.mem_iff.2 (mF (fun a ha => .tail _ (List.mem_append_right _ (.tail _ (List.mem_append_right _ ha)))) y hy)
      · intro k2 y I9 G9 hk2 hle9 hp9
        have hlt2 := (List.getElem?_eq_some_iff.1 hk2).1
        subst hfv
        refine TriV.perm (hTr2 y.kind y.oper y.typ y.n y.field y.name y.a y.kids.length y.c y.pos false k2 I9 ((D, Obj.deferred (some [])) :: (A ++ F)) _ hle9 ?_) hp9
        intro b_x1
        refine ⟨(D, Obj.deferred (some [])) :: (A ++ F), .refl _, fun h => ⟨(D, Obj.deferred (some [])) :: (A ++ F), .refl _, .inr ⟨rfl, k2, ?_⟩⟩, fun _ => ⟨fun h => absurd (of_decide_eq_true h) (by omega), fun _ => ?_⟩⟩
        · rw [h]; exact .refl _
        obtain ⟨ad, z, had, hz, hrd⟩ := (wnt I9 ((b_n, Obj.cells t.enc.toArray 28 (0, 0)) :: (b_most, Obj.cells #[.int .i64 most] 3 (0, 0)) :: (b, Obj.cells #[.bool false] 4 (0, 0)) :: (b_want, Obj.cells #[.slice wa wn wc] 26 (0, 0)) :: (b_it, Obj.cells #[_] 74 (0, 0)) :: (b_i, Obj.cells #[.int .i64 most] 3 (0, 0)) :: (b_k1, Obj.cells #[.int .i64 (k2 : Int)] 3 (0, 0)) :: (b_x1, Obj.cells #[.int .u8 y.kind, .int .u8 y.oper, .int .u8 y.typ, .int .i64 y.n, .int .u8 y.field, .string y.name, .slice y.a y.kids.length y.c, .int .i64 y.pos] 28 (0, 0)) :: (Lb2 ++ ((D, Obj.deferred (some [])) :: (A ++ F)))) fun a ha => by simp only [List.mem_cons, List.mem_append]; simp only [ha, true_or, or_true]).at (i := (k2 : Int)) (by omega) (by omega)
        obtain rfl : y = z := by rw [show ((k2 : Int)).toNat = k2 by omega, hk2] at hz; exact Option.some.inj hz
        refine ⟨⟨by omega, by omega⟩, ad, had, y.kind, hrd.field (o := 0) rfl, fun h => by simp at h, fun _ => ⟨(D, Obj.deferred (some [])) :: (A ++ F), .refl _, .inl ⟨rfl, ?_⟩⟩⟩
        have : IntKind.wrap .i64 ((k2 : Int) + 1) = ((k2 + 1 : Nat) : Int) := by rw [w64 (by omega)]; omega
        rw [this]; exact .refl _
      · subst hfv; exact .refl _
      · intro e I10 G10 hI10 ⟨r, he, hq⟩
        refine ⟨r, he, ?_⟩
        subst hfv
        rcases hq with hp | ⟨k2, hp⟩
        · refine .inl ⟨false, _, (D, Obj.deferred (some [])) :: (A ++ F), hp, fun _ => ⟨fun _ => ⟨_, .refl _, _, .refl _, rfl⟩, fun h => ⟨_, .refl _, _, .refl _, by simp⟩⟩, fun h => ?_⟩
          simp [hwn] at h
        · exact .inr (.inl ⟨true, k2, (D, Obj.deferred (some [])) :: (A ++ F), hp, _, .refl _, _, .refl _, rfl⟩)
    · subst hfv
      exact .inr (.inr (.inl ⟨true, k, A ++ F, hp, A ++ F, .refl _, rfl⟩))
end Go.Lx
namespace Go.Vc
open Go.ChangeShapes Go.WideShapes Go.ChangeAt Go.RowKit
def Imm.all (w : World) : Imm := ⟨fun b => w.heap[b]?, w.os, w.output⟩
theorem Sat.all (w : World) : Sat (Imm.all w) [] w := ⟨fun _ _ h => h, fun _ _ h => by simp at h, fun _ _ h => by simp at h, List.nodup_nil, rfl, rfl⟩
structure Stays (w w' : World) : Prop where
  heap : ∀ i, i < w.heap.size → w'.heap[i]? = w.heap[i]?
  os : w'.os = w.os
  out : w'.output = w.output
theorem Stays.of {w w' : World} {I : Imm} {F : Heap} (hl : Imm.le (Imm.all w) I) (hs : Sat I F w') : Stays w w' := by
  refine ⟨fun i hi => ?_, hs.env.1.trans hl.2.1, hs.env.2.trans hl.2.2⟩
  obtain ⟨o, ho⟩ : ∃ o, w.heap[i]? = some o := ⟨_, Array.getElem?_eq_getElem hi⟩
  rw [ho]
  exact hs.imm _ _ (hl.1 i o ho)
theorem Stays.kept {w w' : World} (h : Stays w w') (may : MemPlace → Prop) : w.keptBut w' may := by
  refine ⟨h.os, h.out, fun i hi => ?_⟩
  rw [h.heap i hi]
  cases w.heap[i]? with
  | none => rfl
  | some o => cases o with
    | cells c t fr => exact ⟨rfl, rfl, rfl, fun _ _ => rfl⟩
    | map es clock => exact .inr ⟨rfl, rfl⟩
    | _ => rfl
theorem Stays.frozen {w w' : World} (h : Stays w w') {a : Addr} (ha : a.block < w.heap.size) : w'.frozen? a = w.frozen? a := by
  unfold World.frozen?; rw [h.heap _ ha]
theorem post_stays {H : Type} {enc : TypeId × Value → H} {P : Program} {f : Func} {s : ChangeSpec} {apart fresh handsOn again : Bool} {W W' : World} {args : Array Value} {v : Value} {ds gs : List (DataW H)} {before pa pv : List MemPlace}
    (hW : DataW.Whole enc P f.params.toList s.vars apart W args.toList ds gs before)
    (hres : ∀ (b : Nat) (sp : Nat → Bool) (hd : Bool), DataW.TrodAll enc P W' b sp hd f.resultTypes.toList (v.resultList f.resultTypes.size) (s.fn H (ds ++ gs)).results [])
    (hargs : ∀ sp : Nat → Bool, (∀ p ∈ before, sp p.block = true) → DataW.TrodAll enc P W' 0 sp true f.params.toList args.toList (s.fn H (ds ++ gs)).args pa)
    (hvars : ∀ sp : Nat → Bool, (∀ p ∈ before, sp p.block = true) → DataW.TrodVars enc P W' sp s.vars (s.fn H (ds ++ gs)).vars pv)
    (hps : before = pa ++ pv) (hk : Stays W W')
    (hok : ∀ (j : Nat) (t : TypeId) (r : Value), f.resultTypes[j]? = some t → (v.resultList f.resultTypes.size)[j]? = some r → Value.okWide P W' .any 0 t r) :
    s.post enc P f apart fresh handsOn again W args v W' := by
  have hold : ∀ p ∈ before, (fun b => decide (b < W.heap.size)) p.block = true := fun p hp => by simpa using hW.lt p hp
  have hlt : ∀ p ∈ before, p.block < W.heap.size := fun p hp => hW.lt p hp
  refine ⟨ds, gs, before, [], pa, pv, hW, hres _ _ _, hargs _ hold, hvars _ hold, World.keptBut_mono (fun p hp => ⟨hp, ?_⟩) (hk.kept (· ∈ before)), fun _ => ?_⟩
  · rw [hps, List.mem_append] at hp
    exact Or.inr hp
  · obtain ⟨_, _, _, _, _, hz, hn⟩ := hW
    refine ⟨hok, _, _, ([] ++ pa) ++ pv, ⟨[] ++ pa, pv, trodAll_append (hargs _ (fun _ _ => rfl)) (hres _ _ _), hvars _ (fun _ _ => rfl), rfl, ?_, ?_⟩, ?_⟩
    · intro b off hp
      have hp' : MemPlace.cell b off ∈ before := by rw [hps]; simpa using hp
      rw [hk.frozen (hlt _ hp')]
      exact hz b off hp'
    · intro ha
      have := hn ha
      rw [hps] at this
      simpa using this
    · intro p hp _
      rw [hps]
      simpa using hp
end Go.Vc
namespace Go.Vc
open Go.ChangeShapes Go.WideShapes Go.ChangeAt Go.RowKit
theorem Stays.cell {w w' : World} (h : Stays w w') {a : Addr} (ha : a.block < w.heap.size) : w'.cell? a = w.cell? a := by
  unfold World.cell?; rw [h.heap _ ha]
theorem Stays.same {w w' : World} (h : Stays w w') {p : MemPlace} (hp : p.block < w.heap.size) : w.sameAt w' p := by
  cases p with
  | cell b off => exact h.cell (a := ⟨b, off, none⟩) hp
  | map b => exact h.heap b hp
theorem trodAll_stays {H : Type} {enc : TypeId × Value → H} {P : Program} {T : TypeId → Prop} {w w' : World} (K : Kids P T) (hsz : ∀ {t e : TypeId}, T t → P.underlying t = some (.slice e) → 0 < P.cellsOf e) (st : Stays w w') {sp' : Nat → Bool} :
    ∀ {ts : List TypeId} {vs : List Value} {ds : List (DataW H)} {ps : List MemPlace}, (∀ t ∈ ts, T t) → DataW.TrodAll enc P w 0 (fun _ => true) true ts vs ds ps → (∀ p ∈ ps, sp' p.block = true) → DataW.TrodAll enc P w' 0 sp' true ts vs ds ps
  | [], [], [], ps, _, h, _ => h
  | t :: ts, v :: vs, d :: ds, ps, ht, ⟨p, q, ⟨n, h1⟩, h2, e⟩, hs => by
    subst e
    have hlt : ∀ x ∈ p, x.block < w.heap.size := DataW.trod_lt n t v.cells.toList (d, p) h1
    refine ⟨p, q, ⟨n, ?_⟩, trodAll_stays K hsz st (fun t' ht' => ht t' (List.mem_cons_of_mem _ ht')) h2 (fun x hx => hs x (List.mem_append_right _ hx)), rfl⟩
    exact DataW.trod_stays K hsz (fun h => by cases h) (ht t (List.mem_cons_self ..)) h1 (fun x hx => st.same (hlt x hx)) (fun x hx => hs x (List.mem_append_left _ hx))
  | [], _ :: _, _, _, _, h, _ => h.elim
  | [], [], _ :: _, _, _, h, _ => h.elim
  | _ :: _, [], _, _, _, h, _ => h.elim
  | _ :: _, _ :: _, [], _, _, h, _ => h.elim
end Go.Vc
namespace Go.Vc
open Go.ChangeShapes Go.WideShapes Go.ChangeAt Go.RowKit
theorem list_choice {α : Type} {p : Nat → α → Prop} : ∀ (n : Nat), (∀ i, i < n → ∃ x, p i x) → ∃ l : List α, l.length = n ∧ ∀ (i : Nat) (x : α), l[i]? = some x → p i x
  | 0, _ => ⟨[], rfl, fun i x h => by simp at h⟩
  | n + 1, h => by
    obtain ⟨l, hl, hp⟩ := list_choice n fun i hi => h i (by omega)
    obtain ⟨x, hx⟩ := h n (by omega)
    refine ⟨l ++ [x], by simp [hl], fun i y hy => ?_⟩
    rw [List.getElem?_append] at hy
    split at hy
    · exact hp i y hy
    · rename_i hi
      have : i - l.length = 0 := by
        rcases Nat.eq_zero_or_pos (i - l.length) with h | h
        · exact h
        · rw [List.getElem?_eq_none (by simp; omega)] at hy; cases hy
      rw [this] at hy
      simp only [List.getElem?_cons_zero, Option.some.injEq] at hy
      subst hy
      have : i = n := by omega
      rw [this]; exact hx
theorem Rd.of_row {W : World} {ad : Addr} {n : Nat} {cs : List Value} {base : Nat} (h : W.cells? base ad n = some cs) (hn : 0 < n) (G : Heap) : ad.spot = none → Rd (Imm.all W) G ad cs := by
  intro hsp
  obtain ⟨_, hl, hc⟩ := World.cells?_some h
  have h0 : W.cell? ad = cs[0]? := by have := hc 0 hn; rwa [show ad.add 0 = ad from rfl] at this
  have hlen : cs.length = n := hl
  unfold World.cell? at h0
  cases hb : W.heap[ad.block]? with
  | none => rw [hb] at h0; simp only at h0; rw [List.getElem?_eq_getElem (by omega)] at h0; cases h0
  | some o =>
    cases o with
    | cells c e fz =>
      refine ⟨hsp, c, e, fz, .inl hb, fun j hj => ?_⟩
      have h1 := hc j (by omega)
      have hadd : ad.add j = ⟨ad.block, ad.off + j, none⟩ := by
        obtain ⟨b, off, sp⟩ := ad
        simp only at hsp; subst hsp
        unfold Addr.add; split <;> simp_all
      rw [hadd] at h1
      unfold World.cell? at h1
      simp only [hb] at h1
      simpa using h1
    | _ => rw [hb] at h0; simp only at h0; rw [List.getElem?_eq_getElem (by omega)] at h0; cases h0
end Go.Vc
namespace Go.Vc
open Go.ChangeShapes Go.WideShapes Go.ChangeAt Go.RowKit
def Opens {H α : Type} (en : TypeId × Value → H) (P : Program) (W : World) (sp : Nat → Bool) (hd : Bool) (n : Nat) (t : TypeId) (f : α → List Value) (R S : α → Prop) : Prop :=
  ∀ cs d ps, DataW.trod en P W 0 sp hd n t cs = some (d, ps) → ∃ x, cs = f x ∧ R x ∧ ((∀ m ∈ d.weights P t, m ≤ reachBytes) → S x)
def OpensF {H α : Type} (en : TypeId × Value → H) (P : Program) (W : World) (sp : Nat → Bool) (hd : Bool) (n : Nat) (z : Nat) (fs : List (TypeId × Nat)) (o : Nat) (f : α → List Value) (R S : α → Prop) : Prop :=
  ∀ (cs : List Value) (xs : List (DataW H × List MemPlace)), (fs.mapM fun p => DataW.trod en P W 0 sp hd n p.1 ((cs.drop p.2).take (P.cellsOf p.1))) = some xs → cs.length = z → ∃ x, cs.drop o = f x ∧ R x ∧ ((∀ m ∈ DataW.weightsEach P (fs.map Prod.fst) (xs.map Prod.fst), m ≤ reachBytes) → S x)
def structB (P : Program) (t : TypeId) (l : List (TypeId × Nat)) (z : Nat) : Bool := match P.underlying t with
  | some (.struct fs) => (fs.toList.map fun f => (f.type, f.offset)) == l && P.cellsOf t == z
  | _ => false
theorem mapM_via {α β γ : Type} (h : α → β) (g : β → Option γ) : ∀ l : List α, (l.map h).mapM g = l.mapM fun x => g (h x)
  | [] => rfl
  | x :: l => by simp [List.mapM_cons, mapM_via h g l]
section
variable {H : Type} {en : TypeId × Value → H} {P : Program} {W : World} {sp : Nat → Bool} {hd : Bool} {n : Nat}
theorem OpensF.nil {z : Nat} : OpensF en P W sp hd n z [] z (fun _ : Unit => []) (fun _ => True) (fun _ => True) := by
  intro cs xs h hl
  exact ⟨(), List.drop_eq_nil_of_le (by omega), trivial, fun _ => trivial⟩
theorem OpensF.cons {α β : Type} {z o k : Nat} {t : TypeId} {fs : List (TypeId × Nat)} {f : α → List Value} {g : β → List Value} {R S : α → Prop} {R' S' : β → Prop} (h : Opens en P W sp hd n t f R S) (hc : P.cellsOf t = k)
    (hs : OpensF en P W sp hd n z fs (o + k) g R' S') : OpensF en P W sp hd n z ((t, o) :: fs) o (fun x : α × β => f x.1 ++ g x.2) (fun x => R x.1 ∧ R' x.2) (fun x => S x.1 ∧ S' x.2) := by
  intro cs xs hm hl
  rw [List.mapM_cons] at hm
  cases h0 : DataW.trod en P W 0 sp hd n t ((cs.drop o).take (P.cellsOf t)) with
  | none => simp [h0] at hm
  | some x0 =>
    cases h1 : (fs.mapM fun p => DataW.trod en P W 0 sp hd n p.1 ((cs.drop p.2).take (P.cellsOf p.1))) with
    | none => simp [h0, h1] at hm
    | some ys =>
      simp [h0, h1] at hm
      subst hm
      obtain ⟨d0, p0⟩ := x0
      obtain ⟨x, e1, r1, s1⟩ := h _ _ _ h0
      obtain ⟨y, e2, r2, s2⟩ := hs _ _ h1 hl
      refine ⟨(x, y), ?_, ⟨r1, r2⟩, fun hw => ⟨s1 fun m hm => hw m ?_, s2 fun m hm => hw m ?_⟩⟩
      · show cs.drop o = f x ++ g y
        rw [← e1, ← e2, hc, ← List.drop_drop, List.take_append_drop]
      · simp only [List.map_cons, DataW.weightsEach, List.mem_append]; exact .inl hm
      · simp only [List.map_cons, DataW.weightsEach, List.mem_append]; exact .inr hm
theorem Opens.struct {α : Type} {z : Nat} {t : TypeId} {fs : List (TypeId × Nat)} {f : α → List Value} {R S : α → Prop} (ht : structB P t fs z = true) (h : OpensF en P W sp hd n z fs 0 f R S) : Opens en P W sp hd (n + 1) t f R S := by
  intro cs d ps hr
  unfold structB at ht
  split at ht
  · rename_i gs hg
    simp only [Bool.and_eq_true, beq_iff_eq] at ht
    obtain ⟨ht, hz⟩ := ht
    simp only [DataW.trod, hg] at hr
    split at hr
    · rename_i hl
      rw [hz] at hl
      cases hm : gs.toList.mapM fun f => DataW.trod en P W 0 sp hd n f.type ((cs.drop f.offset).take (P.cellsOf f.type)) with
      | none => rw [hm] at hr; cases hr
      | some xs =>
        rw [hm] at hr
        simp only [Option.map_some, Option.some.injEq, Prod.mk.injEq] at hr
        have hm' : (fs.mapM fun p => DataW.trod en P W 0 sp hd n p.1 ((cs.drop p.2).take (P.cellsOf p.1))) = some xs := by rw [← ht, mapM_via]; exact hm
        obtain ⟨x, e, r, s⟩ := h cs xs hm' hl
        refine ⟨x, by simpa using e, r, fun hw => s fun m hmm => hw m ?_⟩
        rw [← hr.1]
        simp only [DataW.weights, hg]
        have : gs.toList.map (fun f => f.type) = fs.map Prod.fst := by rw [← ht, List.map_map]; rfl
        rw [this]; exact hmm
    · cases hr
  · cases ht
theorem Opens.map {α β : Type} {t : TypeId} {f : α → List Value} {g : β → List Value} {R S : α → Prop} {R' S' : β → Prop} (h : Opens en P W sp hd n t f R S) (φ : α → β) (hf : ∀ x, R x → f x = g (φ x)) (hr : ∀ x, R x → R' (φ x)) (hs : ∀ x, R x → S x → S' (φ x)) : Opens en P W sp hd n t g R' S' := by
  intro cs d ps hd
  obtain ⟨x, e, r, s⟩ := h cs d ps hd
  exact ⟨φ x, e.trans (hf x r), hr x r, fun hw => hs x r (s hw)⟩
theorem Opens.int {k : IntKind} {t : TypeId} (ht : P.underlying t = some (.int k)) : Opens en P W sp hd n t (fun x : Int => [.int k x]) (fun x => (Lit.int k x).wf = true) (fun _ => True) := by
  intro cs d ps h
  obtain ⟨x, e, _, hw⟩ := DataW.trod_int ht h
  exact ⟨x, e, hw, fun _ => trivial⟩
theorem Opens.str {t : TypeId} (ht : P.underlying t = some .string) : Opens en P W sp hd n t (fun x : ByteArray => [.string x]) (fun x => x.size ≤ maxLen) (fun x => x.size ≤ reachBytes) := by
  intro cs d ps h
  obtain ⟨s, e, hx, hl⟩ := DataW.trod_string ht h
  refine ⟨s, e, hl, fun hw => ?_⟩
  simp only [Prod.mk.injEq] at hx
  have := hw s.data.toList.length (by rw [hx.1]; simp [DataW.weights])
  simpa using this
structure SlV (β : Type) where
  a : Option Addr
  n : Nat
  c : Nat
  l : List β
theorem Opens.slice {β : Type} {z by' : Nat} {t e : TypeId} {f : β → List Value} {R S : β → Prop} (ht : P.underlying t = some (.slice e)) (hc : P.cellsOf e = z) (hz : 0 < z) (hb : P.bytesOf e = by') (hb1 : 1 ≤ by') (hf : ∀ x, (f x).length = z) (h : Opens en P W sp hd n e f R S) :
    Opens en P W sp hd (n + 1) t (fun s : SlV β => [.slice s.a s.n s.c]) (fun s => SlG (Imm.all W) [] z f s.a s.n s.l ∧ ∀ x ∈ s.l, R x) (fun s => s.l.length ≤ reachBytes ∧ ∀ x ∈ s.l, S x) := by
  intro cs d ps hr
  rcases DataW.trod_slice ht hr with ⟨h1, h2⟩ | ⟨ad, len, cap, elems, rest, n', hn, hcs, hx, _, _, _, hlen, hel, _, _⟩
  · exact ⟨⟨none, 0, 0, []⟩, h1, ⟨⟨rfl, fun h => absurd rfl h⟩, fun x hx => by cases hx⟩, fun _ => ⟨by simp, fun x hx => by cases hx⟩⟩
  · cases hn
    simp only [Prod.mk.injEq] at hx
    obtain ⟨hdd, hps⟩ := hx
    clear hps
    subst hcs
    have hone : ∀ i, i < len → ∃ x, Rd (Imm.all W) [] (ad.add (i * z)) (f x) ∧ R x ∧ ((∀ y ∈ elems, ∀ m ∈ y.1.weights P e, m ≤ reachBytes) → S x) := by
      intro i hi
      have hfy := hel i hi
      obtain ⟨y, hy⟩ : ∃ y, elems[i]? = some y := ⟨_, List.getElem?_eq_getElem (by omega)⟩
      rw [hc, hy] at hfy
      cases hcs : W.cells? 0 (ad.add (i * z)) z with
      | none => rw [hcs] at hfy; cases hfy
      | some cs =>
        rw [hcs] at hfy
        simp only [Option.bind_some] at hfy
        obtain ⟨x, e1, r1, s1⟩ := h cs y.1 y.2 hfy
        subst e1
        have hspk : (ad.add (i * z)).spot = none := by
          obtain ⟨_, hl, hc'⟩ := World.cells?_some hcs
          have h0 := hc' 0 hz
          rw [show (ad.add (i * z)).add 0 = ad.add (i * z) from rfl, List.getElem?_eq_getElem (by rw [hf]; omega)] at h0
          cases hs : (ad.add (i * z)).spot with
          | none => rfl
          | some q =>
            unfold World.cell? at h0
            split at h0 <;> simp_all
        refine ⟨x, Rd.of_row hcs hz [] hspk, r1, fun hw => s1 fun m hm => hw y (List.mem_of_getElem? hy) m hm⟩
    obtain ⟨l, hll, hlx⟩ := list_choice len hone
    refine ⟨⟨some ad, len, cap, l⟩, rfl, ⟨⟨hll.symm, fun _ => ⟨ad, rfl, fun i x hx => (hlx i x hx).1⟩⟩, fun x hx => ?_⟩, fun hw => ⟨?_, fun x hx => ?_⟩⟩
    · obtain ⟨i, hi, rfl⟩ := List.mem_iff_getElem.1 hx
      exact (hlx i _ (List.getElem?_eq_getElem hi)).2.1
    · have h1 := hw ((elems.length + rest.length) * by') (by rw [hdd]; simp only [DataW.weights, ht, List.length_map, hb]; exact List.mem_cons_self ..)
      have h2 : elems.length + rest.length ≤ (elems.length + rest.length) * by' := Nat.le_mul_of_pos_right _ hb1
      show l.length ≤ reachBytes
      omega
    · obtain ⟨i, hi, rfl⟩ := List.mem_iff_getElem.1 hx
      refine (hlx i _ (List.getElem?_eq_getElem hi)).2.2 fun y hy m hm => hw m ?_
      rw [hdd]
      simp only [DataW.weights, ht]
      refine List.mem_cons_of_mem _ (List.mem_append_left _ ?_)
      clear hx hlen hel hone hlx hdd hr hw hi hll
      induction elems with
      | nil => cases hy
      | cons q qs ihq =>
        simp only [List.map_cons, DataW.weightsAll, List.mem_append]
        rcases List.mem_cons.1 hy with rfl | hy
        · exact .inl hm
        · exact .inr (ihq hy)
theorem Opens.zero {α : Type} {t : TypeId} {f : α → List Value} {R S : α → Prop} : Opens en P W sp hd 0 t f R S := fun cs d ps h => by cases h
end
end Go.Vc
namespace Go.Lx
open Go.Vc Go.ChangeShapes Go.WideShapes Go.ChangeAt Go.RowKit
def ndF : List (TypeId × Nat) := [(22, 0), (23, 1), (24, 2), (2, 3), (25, 4), (9, 5), (26, 6), (3, 7)]
theorem wf8 {x : Int} (h : (Lit.int .u8 x).wf = true) : 0 ≤ x ∧ x ≤ 255 := by
  simp [Lit.wf, IntKind.min, IntKind.max, IntKind.signed, IntKind.bits] at h; omega
theorem wf64 {x : Int} (h : (Lit.int .i64 x).wf = true) : -9223372036854775808 ≤ x ∧ x ≤ 9223372036854775807 := by
  simp [Lit.wf, IntKind.min, IntKind.max, IntKind.signed, IntKind.bits] at h; omega
theorem Wf.mk {t : Nd} (h : t.px.Fit) (hk : ∀ k ∈ t.kids, k.px.Wf) : t.px.Wf := by
  intro y hy
  rw [← nodes_px] at hy
  obtain ⟨x, hx, rfl⟩ := List.mem_map.1 hy
  rw [Nd.nodes_eq] at hx
  rcases List.mem_cons.1 hx with rfl | hx
  · exact h
  · have hL : ∀ l : List Nd, (∀ k ∈ l, k.px.Wf) → x ∈ Nd.nodesL l → x.px.Fit := by
      intro l
      induction l with
      | nil => intro _ h; rw [Nd.nodesL] at h; cases h
      | cons z r ih =>
        intro hz h
        rw [Nd.nodesL] at h
        rcases List.mem_append.1 h with h | h
        · exact Wf.nd (hz z (List.mem_cons_self ..)) x h
        · exact ih (fun k hk => hz k (List.mem_cons_of_mem _ hk)) h
    exact hL _ hk hx
theorem open_nd {H : Type} {en : TypeId × Value → H} {W : World} {sp : Nat → Bool} {hd : Bool} : ∀ n, Opens en P W sp hd n 28 Nd.enc (fun t => NdOk (Imm.all W) [] t ∧ t.px.Wf) (fun t => t.px.ShortP) := by
  intro n
  induction n using Nat.strongRecOn with
  | ind n ih =>
    cases n with
    | zero => exact Opens.zero
    | succ n =>
      have hsl : Opens en P W sp hd n 26 (fun s : SlV Nd => [.slice s.a s.n s.c]) (fun s => SlG (Imm.all W) [] 8 Nd.enc s.a s.n s.l ∧ ∀ x ∈ s.l, NdOk (Imm.all W) [] x ∧ x.px.Wf) (fun s => s.l.length ≤ reachBytes ∧ ∀ x ∈ s.l, x.px.ShortP) := by
        cases n with
        | zero => exact Opens.zero
        | succ n => exact Opens.slice (z := 8) (by' := 72) (by kernel_rfl) (by kernel_rfl) (by decide) (by kernel_rfl) (by decide) Nd.enc_len (ih n (by omega))
      refine (Opens.struct (z := 8) (fs := ndF) (by kernel_rfl) ((OpensF.cons (k := 1) (Opens.int (k := .u8) (by kernel_rfl)) (by kernel_rfl) <| OpensF.cons (k := 1) (Opens.int (k := .u8) (by kernel_rfl)) (by kernel_rfl) <| OpensF.cons (k := 1) (Opens.int (k := .u8) (by kernel_rfl)) (by kernel_rfl) <|
        OpensF.cons (k := 1) (Opens.int (k := .i64) (by kernel_rfl)) (by kernel_rfl) <| OpensF.cons (k := 1) (Opens.int (k := .u8) (by kernel_rfl)) (by kernel_rfl) <| OpensF.cons (k := 1) (Opens.str (by kernel_rfl)) (by kernel_rfl) <| OpensF.cons (k := 1) hsl (by kernel_rfl) <|
        OpensF.cons (k := 1) (Opens.int (k := .i64) (by kernel_rfl)) (by kernel_rfl) OpensF.nil))).map (fun x => Nd.mk x.1 x.2.1 x.2.2.1 x.2.2.2.1 x.2.2.2.2.1 x.2.2.2.2.2.1 x.2.2.2.2.2.2.1.a x.2.2.2.2.2.2.1.c x.2.2.2.2.2.2.1.l x.2.2.2.2.2.2.2.1) ?_ ?_ ?_
      · intro ⟨k, o, ty, m, f, s, ⟨a, l, c, ks⟩, q, u⟩ ⟨_, _, _, _, _, _, ⟨h7, _⟩, _⟩
        have hl : l = ks.length := h7.1
        subst hl; rfl
      · intro ⟨k, o, ty, m, f, s, ⟨a, l, c, ks⟩, q, u⟩ ⟨h1, h2, h3, h4, h5, h6, ⟨h7, h8⟩, h9, _⟩
        have hl : l = ks.length := h7.1
        subst hl
        refine ⟨.mk h7 fun x hx => (h8 x hx).1, Wf.mk ?_ fun x hx => (h8 x hx).2⟩
        unfold Px.Fit
        rw [Nd.px_kind, Nd.px_oper, Nd.px_typ, Nd.px_n, Nd.px_field, Nd.px_pos]
        exact ⟨wf8 h1, wf8 h2, wf8 h3, wf64 h4, wf8 h5, wf64 h9⟩
      · intro ⟨k, o, ty, m, f, s, ⟨a, l, c, ks⟩, q, u⟩ _ ⟨_, _, _, _, _, g6, ⟨g7, g8⟩, _⟩
        refine .mk (by rw [Nd.px_name]; exact g6) (by rw [Nd.px_len]; exact g7) fun x hx => ?_
        rw [Nd.px_kids] at hx
        obtain ⟨y, hy, rfl⟩ := List.mem_map.1 hx
        exact g8 y hy
theorem agg_of {P : Program} {W : World} {r : Reach} {b0 : Nat} {t : TypeId} {v : Value} {fs : List (TypeId × Nat)} {z : Nat} (hst : structB P t fs z = true) (hval : Value.okWide P W r b0 t v) : v = .agg v.cells.toList.toArray := by
  unfold structB at hst
  split at hst
  · rename_i gs hg
    have h5 := okWide_struct hg hval
    obtain ⟨cs, hv, hcs⟩ := h5
    clear hcs
    subst hv
    rfl
  · cases hst
set_option maxRecDepth 100000 in
theorem open_node {H : Type} {en : TypeId × Value → H} {W : World} {base : Nat} {sp : Nat → Bool} {hd : Bool} {v : Value} {d : DataW H} {ps : List MemPlace} {r : Reach} (hval : Value.okWide P W r base 28 v) (h : DataW.Trod en P W 0 sp hd 28 v d ps) :
    ∃ t : Nd, v = t.v ∧ NdOk (Imm.all W) [] t ∧ t.px.Wf ∧ ((∀ m ∈ d.weights P 28, m ≤ reachBytes) → t.px.ShortP) := by
  have hv := agg_of (fs := ndF) (z := 8) (by kernel_rfl) hval
  obtain ⟨fuel, hf⟩ := h
  obtain ⟨t, e, ⟨h1, h2⟩, h3⟩ := open_nd fuel _ d ps hf
  exact ⟨t, by rw [hv, e], h1, h2, h3⟩
end Go.Lx
